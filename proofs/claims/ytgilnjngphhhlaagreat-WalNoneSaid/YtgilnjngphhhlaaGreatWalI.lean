/- Layer 17: the iterator's contract; rows of bytes; an operation within a round, walked as one outside. -/
import Derived.Test.YtgilnjngphhhlaaGreatWalH
namespace Go.Lec
open Go.RowKit
/-- The way on, and nothing else. -/
def onlyN (K : Act → World → Prop) : Exit → Act → World → Prop
  | .normal, a, w => K a w
  | _, _, _ => False
theorem onlyN_lets (K : Act → World → Prop) : ¬ LetsOut (onlyN K) := fun ⟨_, _, h⟩ => h
/-- An operation within a round, walked as one outside. -/
theorem listIn_step {P : Program} {ops : Array Oper} {Q : Exit → Act → World → Prop} {l n : Nat} {o : Oper} {rest : List Oper} {a : Act} {w : World} (hg : o.guard = none) (hd : ∀ c, o.op ≠ .defer c)
    (h : ∀ K : Act → World → Prop, (∀ a w, wpListIn (Fence.wide.inRound l) n P ops Q rest a w → K a w) → wpList P ops (onlyN K) [o] a w) : wpListIn (Fence.wide.inRound l) n P ops Q (o :: rest) a w := by
  refine wpListIn_plain hg fun K hK => ?_
  have h1 := h K hK
  unfold wpList at h1
  rw [if_pos (by simp [Region.wanted, hg])] at h1
  rcases h1 with h1 | ⟨_, h1⟩
  · refine wpIn_of_op hd ?_
    unfold Oper.wp at *
    generalize (execOp a.eval o).run P w = r at *
    cases r with
    | ok x w' =>
      cases x with
      | value v => exact h1
      | skip => exact h1
      | defer d => exact h1
      | enter f args =>
        refine Calls.mono h1 ?_
        intro e w'' he
        cases e with
        | returned v => exact he
        | panicked c => exact he.elim
        | outgrown => exact (onlyN_lets K he).elim
      | row row args => exact h1
      | _ => exact h1.elim
    | halt x w' => cases x <;> first | exact h1.elim | exact h1
  · exact (onlyN_lets K h1).elim
/-- An element of a list of bytes. -/
def El (W : World) (X : Nat → Prop) (u : Value) (l : List UInt8) : Prop := ∃ A c, u = .slice A l.length c ∧ l.length ≤ c ∧ Rd W W.heap.size A l.length (bcs l) ∧ (0 < l.length → ∀ a, A = some a → X a.block)
/-- The elements. -/
def BEls (W : World) (X : Nat → Prop) (es : List Value) (out : List (List UInt8)) : Prop := es.length = out.length ∧ ∀ (i : Nat) (u : Value) (l : List UInt8), es[i]? = some u → out[i]? = some l → El W X u l
theorem BEls.imp {W W' : World} {X X' : Nat → Prop} {es : List Value} {out : List (List UInt8)} (h : BEls W X es out) (hi : ∀ u l, El W X u l → El W' X' u l) : BEls W' X' es out := ⟨h.1, fun i u l h1 h2 => hi u l (h.2 i u l h1 h2)⟩
theorem BEls.nil (W : World) (X : Nat → Prop) : BEls W X [] [] := ⟨rfl, fun i u l h1 _ => by simp at h1⟩
theorem BEls.snoc {W : World} {X : Nat → Prop} {es : List Value} {out : List (List UInt8)} {u : Value} {l : List UInt8} (h : BEls W X es out) (hu : El W X u l) : BEls W X (es ++ [u]) (out ++ [l]) := by
  refine ⟨by simp [h.1], fun i v m h1 h2 => ?_⟩
  by_cases hi : i < es.length
  · rw [List.getElem?_append_left hi] at h1
    rw [List.getElem?_append_left (by rw [← h.1]; exact hi)] at h2
    exact h.2 i v m h1 h2
  · rw [List.getElem?_append_right (by omega)] at h1
    rw [List.getElem?_append_right (by have := h.1; omega), ← h.1] at h2
    have h0 : i - es.length = 0 := by
      have := (List.getElem?_eq_some_iff.1 h1).1
      simp only [List.length_singleton] at this
      omega
    rw [h0] at h1 h2
    simp only [List.getElem?_cons_zero, Option.some.injEq] at h1 h2
    subst h1 h2
    exact hu
/-- Blocks of elements that lie as they lay. -/
theorem El.keep {W W' : World} {X X' : Nat → Prop} {u : Value} {l : List UInt8} (h : El W X u l) (hs : W.heap.size ≤ W'.heap.size) (hk : ∀ k, X k → k < W.heap.size → W'.heap[k]? = W.heap[k]?) (hX : ∀ k, X k → k < W.heap.size → X' k) : El W' X' u l := by
  obtain ⟨A, c, rfl, hc, hr, ha⟩ := h
  by_cases h0 : 0 < l.length
  · obtain ⟨b, o, rfl, hb, hcell⟩ := hr.2 h0
    have hXb := ha h0 _ rfl
    refine ⟨_, c, rfl, hc, ⟨hr.1, fun _ => ⟨b, o, rfl, Nat.lt_of_lt_of_le hb hs, fun i v hv => ?_⟩⟩, fun _ a e => by cases e; exact hX _ hXb hb⟩
    rw [World.cell?_of_block (a := ⟨b, o + i, none⟩) (hk b hXb hb)]
    exact hcell i v hv
  · exact ⟨A, c, rfl, hc, ⟨hr.1, fun hn => absurd hn h0⟩, fun hn => absurd hn h0⟩
theorem BEls.keep {W W' : World} {X X' : Nat → Prop} {es : List Value} {out : List (List UInt8)} (h : BEls W X es out) (hs : W.heap.size ≤ W'.heap.size) (hk : ∀ k, X k → k < W.heap.size → W'.heap[k]? = W.heap[k]?) (hX : ∀ k, X k → k < W.heap.size → X' k) : BEls W' X' es out := h.imp fun _ _ hu => hu.keep hs hk hX
/-- A row of bytes, read. -/
def Rws (W : World) (B : Nat) (A : Option Addr) (n : Nat) (out : List (List UInt8)) : Prop := ∃ es : List Value, Rd W B A n es ∧ es.length = out.length ∧ ∀ (i : Nat) (u : Value) (l : List UInt8), es[i]? = some u → out[i]? = some l → ∃ (A : Option Addr) (c : Nat), u = .slice A l.length c ∧ l.length ≤ c ∧ Rd W B A l.length (bcs l)
theorem Rws.below {W W' : World} {B B' n : Nat} {A : Option Addr} {out : List (List UInt8)} (h : Rws W B A n out) (hb : Below B' W W') (hB : B ≤ B') : Rws W' B A n out := by
  obtain ⟨es, h1, h2, h3⟩ := h
  exact ⟨es, h1.below hb hB, h2, fun i u l e1 e2 => by obtain ⟨A, c, e, hc, hr⟩ := h3 i u l e1 e2; exact ⟨A, c, e, hc, hr.below hb hB⟩⟩
theorem Rws.more {W : World} {B B' n : Nat} {A : Option Addr} {out : List (List UInt8)} (h : Rws W B A n out) (hB : B ≤ B') : Rws W B' A n out := by
  obtain ⟨es, h1, h2, h3⟩ := h
  exact ⟨es, h1.more hB, h2, fun i u l e1 e2 => by obtain ⟨A, c, e, hc, hr⟩ := h3 i u l e1 e2; exact ⟨A, c, e, hc, hr.more hB⟩⟩
theorem Rws.len {W : World} {B n : Nat} {A : Option Addr} {out : List (List UInt8)} (h : Rws W B A n out) : out.length = n := by
  obtain ⟨es, h1, h2, _⟩ := h
  rw [← h2]; exact h1.1
end Go.Lec
namespace Go.Proofs.YtgilnjngphhhlaaGreat
open Go.RowKit Go.Lec Go.Shelf
/-- 'parts' hands back a value that tells the frames one by one, and stops where it is told to. -/
theorem parts_stops (n : Nat) (hn : 1 ≤ n) (Bs n₁ : Nat) {N c : Nat} {A : Option Addr} {L : List UInt8} (w : World) (hBs : Bk w Bs 22 #[.slice A N c]) (hr : Rd w n₁ A N (bcs L)) (hn₁ : n₁ ≤ w.heap.size) (hNc : N ≤ c) (hN : N ≤ 1000000) :
    SeqStopsK Fence.wide n Tryz.prog 53 #[.pointer (some ⟨Bs, 0, none⟩)] (fun x : Pc w n₁ => #[x.val]) (Kp n₁ Bs) (fun ys => ys.map Pc.pl = pieces L 0) (fun pre => pre.map Pc.pl <+: pieces L 0) N w := fun l J Jx W hW hJ _ hY h0 =>
  parts1_in n hn l Bs n₁ w hr hn₁ hNc hN J Jx W hW hJ hY (hBs.below hW hBs.lt) h0
end Go.Proofs.YtgilnjngphhhlaaGreat
/- Layer 17: what the reading's loop holds. -/
namespace Go.Proofs.YtgilnjngphhhlaaGreat
open Go.RowKit Go.Lec Go.Shelf

section
variable {W W' : World}
theorem own_kept {B : Nat} {e : TypeId} {v : Value} {xs : List Value} {row : Option Nat} (h : Lec.Own W B e v xs) (hg : W.grownBy W' row) (hr : ∀ r, row = some r → ∃ o : Obj, W.heap[r]? = some o ∧ o.isCells = false) : Lec.Own W' B e v xs := by
  refine ⟨h.1, ?_⟩
  rcases h.2 with hn | ⟨g, cap, cur, hv, hb, hk, rest⟩
  · exact .inl hn
  · exact .inr ⟨g, cap, cur, hv, hb, Bk.kept (t := e) hk hg hr, rest⟩
theorem own_set {B g i : Nat} {e : TypeId} {v : Value} {xs : List Value} (h : Lec.Own W B e v xs) (u : Value) (hg : v.ownBlock ≠ some g) : Lec.Own (W.setCell ⟨g, i, none⟩ u) B e v xs := by
  refine ⟨h.1, ?_⟩
  rcases h.2 with hn | ⟨g', cap, cur, hv, hb, hk, rest⟩
  · exact .inl hn
  · refine .inr ⟨g', cap, cur, hv, hb, (Below.heap_setCell W ⟨g, i, none⟩ u g' ?_).trans hk, rest⟩
    intro e'
    rw [hv] at hg
    exact hg (by simp [Value.ownBlock, e'])
/-- A row is no block of another type. -/
theorem own_ne {B k : Nat} {e t : TypeId} {v : Value} {xs : List Value} {cs : Array Value} (h : Lec.Own W B e v xs) (hk : Bk W k t cs) (hne : t ≠ e) : v.ownBlock ≠ some k := by
  rcases h.2 with ⟨rfl, _⟩ | ⟨g, cap, cur, rfl, _, hg, _⟩
  · simp [Value.ownBlock]
  · intro e'
    obtain rfl : g = k := by simpa [Value.ownBlock] using e'
    rw [show W.heap[g]? = _ from hk] at hg
    simp at hg
    exact hne hg.2
theorem wown_own {B B' k : Nat} {e e' : TypeId} {v v' : Value} {xs xs' : List Value} (h : Lec.Own W B e v xs) (h' : Lec.Own W B' e' v' xs') (hne : e ≠ e') (hk : v.ownBlock = some k) : v'.ownBlock ≠ some k := by
  rcases h.2 with ⟨rfl, _⟩ | ⟨g, cap, cur, rfl, _, hg, _⟩
  · simp [Value.ownBlock] at hk
  · obtain rfl : g = k := by simpa [Value.ownBlock] using hk
    exact own_ne h' (show Bk W g e cur from hg) hne
theorem own_base {B k : Nat} {e : TypeId} {v : Value} {xs : List Value} (h : Lec.Own W B e v xs) (hk : v.ownBlock = some k) : B ≤ k ∧ k < W.heap.size := World.ownsRow.lt h k hk
theorem Bk.grow {k : Nat} {t : TypeId} {cs : Array Value} {row : Option Nat} (h : Bk W k t cs) (hg : W.grownBy W' row) (hne : row ≠ some k) : Bk W' k t cs := (hg.block k h.lt (fun e => hne e.symm)).trans h
end

theorem wbk_ne {W : World} {g k : Nat} {t t' : TypeId} {cs cs' : Array Value} (h : Bk W g t cs) (e : Bk W k t' cs') (ht : t ≠ t') : k ≠ g := by
  intro e'
  subst e'
  unfold Bk at h e
  rw [h] at e
  simp at e
  exact ht e.2
/-- A record is stored: what stays. -/
theorem Kp.of_below {n₁ Bs : Nat} {W W' : World} (h : Below W.heap.size W W') (hn : n₁ ≤ W.heap.size) : Kp n₁ Bs W W' :=
  ⟨h.mono hn, h.size, fun o e => (h.block Bs (Array.getElem?_eq_some_iff.1 e).1).trans e, fun k cs e => Bk.below e h e.lt⟩
theorem Kp.set {n₁ Bs g i : Nat} {W : World} {t : TypeId} {cs : Array Value} (h : Bk W g t cs) (ht : t ≠ 128) (hn : n₁ ≤ g) (hB : g ≠ Bs) (u : Value) : Kp n₁ Bs W (W.setCell ⟨g, i, none⟩ u) :=
  ⟨(Below.refl _ _).setCell (p := ⟨g, i, none⟩) hn u, by simp, fun o e => (Below.heap_setCell W ⟨g, i, none⟩ u Bs (fun e' => hB e'.symm)).trans e, fun k cs' e => Bk.far e (p := ⟨g, i, none⟩) (wbk_ne h e ht) u⟩
theorem Kp.grown {n₁ Bs B : Nat} {W W' : World} {e : TypeId} {v : Value} {xs : List Value} (h : Lec.Own W B e v xs) (hg : W.grownBy W' v.ownBlock) (hn : n₁ ≤ W.heap.size) (hnB : n₁ ≤ B) (hBs : Bs < B) (he : e ≠ 128) : Kp n₁ Bs W W' :=
  ⟨(Below.refl _ _).grown hg hn (fun k hk => Nat.le_trans hnB (own_base h hk).1), hg.size, fun o e' => (hg.block Bs (Array.getElem?_eq_some_iff.1 e').1 (fun e2 => by have := (own_base h e2.symm).1; omega)).trans e', fun k cs e' => Bk.grow e' hg (own_ne h e' (fun x => he x.symm))⟩
theorem kp_b {n₁ Bs : Nat} {w : World} (hn : n₁ ≤ w.heap.size) (hB : Bs < w.heap.size) (W : World) (l : Nat) (o o' : Obj) (hl : w.heap.size ≤ l) (h : W.heap[l]? = some o) (hc : o.isCells = false) (_ : o.isWalk = false) : Kp n₁ Bs W (W.putObj l o') := by
  have hg := grownBy_putObj' W l o'
  refine ⟨(Below.refl n₁ W).grown hg (by have := (Array.getElem?_eq_some_iff.1 h).1; omega) (fun k e => by cases e; omega), hg.size, fun x e => (hg.block Bs (Array.getElem?_eq_some_iff.1 e).1 (by simp; omega)).trans e, fun k cs e => Bk.grow e hg ?_⟩
  rintro ⟨⟩
  rw [show W.heap[l]? = _ from e] at h
  cases h
  cases hc

/-- Where an element may lie. -/
def Xat (W : World) (B br : Nat) (op : Bool) (k : Nat) : Prop := B ≤ k ∧ (∃ cs, Bk W k 5 cs) ∧ (op = true → k < br)
/-- What the loop holds between two rounds. -/
structure RS (w W : World) (op : Bool) (rec : List UInt8) (out : List (List UInt8)) (good : Nat) (vo vr : Value) (es : List Value) (br : Nat) : Prop where
  b1 : Bk W w.heap.size 26 #[vo]
  b2 : Bk W (w.heap.size + 1) 3 #[.int .i64 (good : Int)]
  b3 : Bk W (w.heap.size + 1 + 1) 22 #[vr]
  b4 : Bk W (w.heap.size + 1 + 1 + 1) 4 #[.bool op]
  own : Lec.Own W (w.heap.size + 5) 22 vo es
  els : BEls W (Xat W (w.heap.size + 5) br op) es out
  rcd : op = true → Lec.Own W br 5 vr (bcs rec) ∧ w.heap.size + 5 ≤ br ∧ br ≤ W.heap.size
  nor : op = false → rec = []
  below : Below w.heap.size w W
  size : w.heap.size + 5 ≤ W.heap.size
  long : rec.length ≤ 1048576
def RI (w : World) (pre : List (UInt8 × List UInt8 × Nat)) (W : World) : Prop := ∃ op rec out good vo vr es br, RS w W op rec out good vo vr es br ∧ out.length ≤ pre.length ∧ ∀ rest, readL (pre ++ rest) false [] [] 0 = readL rest op rec out good
theorem Xat.same {W W' : World} {B br k : Nat} {op : Bool} (h : Xat W B br op k) (hk : W'.heap[k]? = W.heap[k]?) : Xat W' B br op k := by
  obtain ⟨h1, ⟨cs, h2⟩, h3⟩ := h
  exact ⟨h1, ⟨cs, hk.trans h2⟩, h3⟩
theorem els_same {W W' : World} {B br : Nat} {op : Bool} {es : List Value} {out : List (List UInt8)} (h : BEls W (Xat W B br op) es out) (hs : W.heap.size ≤ W'.heap.size) (hk : ∀ k, B ≤ k → (∃ cs, Bk W k 5 cs) → (op = true → k < br) → k < W.heap.size → W'.heap[k]? = W.heap[k]?) : BEls W' (Xat W' B br op) es out :=
  h.keep hs (fun k hx hl => hk k hx.1 hx.2.1 hx.2.2 hl) (fun k hx hl => hx.same (hk k hx.1 hx.2.1 hx.2.2 hl))
theorem RS.grow {w W W' : World} {op : Bool} {rec : List UInt8} {out : List (List UInt8)} {good : Nat} {vo vr : Value} {es : List Value} {br : Nat} (h : RS w W op rec out good vo vr es br) (hb : Below W.heap.size W W') : RS w W' op rec out good vo vr es br :=
  ⟨h.b1.below hb h.b1.lt, h.b2.below hb h.b2.lt, h.b3.below hb h.b3.lt, h.b4.below hb h.b4.lt, h.own.below hb (Nat.le_refl _), els_same h.els hb.size (fun k _ _ _ hk => hb.block k hk), fun e => ⟨(h.rcd e).1.below hb (Nat.le_refl _), (h.rcd e).2.1, Nat.le_trans (h.rcd e).2.2 hb.size⟩, h.nor,
    h.below.trans (hb.mono h.below.size), Nat.le_trans h.size hb.size, h.long⟩
theorem el_kept {W W' : World} {X X' : Nat → Prop} {u : Value} {l : List UInt8} {row : Option Nat} (h : El W X u l) (hg : W.grownBy W' row) (hr : ∀ r, row = some r → ∃ o : Obj, W.heap[r]? = some o ∧ o.isCells = false) (hX : ∀ k, X k → X' k) : El W' X' u l := by
  obtain ⟨A, c, e, hc, hr', ha⟩ := h
  exact ⟨A, c, e, hc, (hr'.kept hg hr).more hg.size, fun hl a e => hX _ (ha hl a e)⟩
theorem RS.kept {w W W' : World} {op : Bool} {rec : List UInt8} {out : List (List UInt8)} {good : Nat} {vo vr : Value} {es : List Value} {br : Nat} {row : Option Nat} (h : RS w W op rec out good vo vr es br) (hg : W.grownBy W' row) (hr : ∀ r, row = some r → w.heap.size ≤ r ∧ ∃ o : Obj, W.heap[r]? = some o ∧ o.isCells = false) : RS w W' op rec out good vo vr es br :=
  ⟨h.b1.kept hg (fun r e => (hr r e).2), h.b2.kept hg (fun r e => (hr r e).2), h.b3.kept hg (fun r e => (hr r e).2), h.b4.kept hg (fun r e => (hr r e).2), own_kept h.own hg (fun r e => (hr r e).2), h.els.imp (fun u l hu => el_kept hu hg (fun r e => (hr r e).2) (fun k hx => ⟨hx.1, by obtain ⟨cs, hc⟩ := hx.2.1; exact ⟨cs, hc.kept hg (fun r e => (hr r e).2)⟩, hx.2.2⟩)), fun e => ⟨own_kept (h.rcd e).1 hg (fun r e => (hr r e).2), (h.rcd e).2.1, Nat.le_trans (h.rcd e).2.2 hg.size⟩, h.nor,
    h.below.grown hg h.below.size (fun k e => (hr k e).1), Nat.le_trans h.size hg.size, h.long⟩
/-- What is there when the reading ends. -/
def RX (w W : World) (out : List (List UInt8)) (good : Nat) : Prop := ∃ vo es, Bk W w.heap.size 26 #[vo] ∧ Bk W (w.heap.size + 1) 3 #[.int .i64 (good : Int)] ∧ Lec.Own W (w.heap.size + 5) 22 vo es ∧ BEls W (fun k => w.heap.size + 5 ≤ k ∧ ∃ cs, Bk W k 5 cs) es out ∧ Below w.heap.size w W ∧ w.heap.size + 5 ≤ W.heap.size
theorem RX.kept {w W W' : World} {out : List (List UInt8)} {good : Nat} {row : Option Nat} (h : RX w W out good) (hg : W.grownBy W' row) (hr : ∀ r, row = some r → w.heap.size ≤ r ∧ ∃ o : Obj, W.heap[r]? = some o ∧ o.isCells = false) : RX w W' out good := by
  obtain ⟨vo, es, h1, h2, h3, h4, h5, h6⟩ := h
  exact ⟨vo, es, h1.kept hg (fun r e => (hr r e).2), h2.kept hg (fun r e => (hr r e).2), own_kept h3 hg (fun r e => (hr r e).2), h4.imp (fun u l hu => el_kept hu hg (fun r e => (hr r e).2) (fun k h => ⟨h.1, by obtain ⟨cs, hc⟩ := h.2; exact ⟨cs, hc.kept hg (fun r e => (hr r e).2)⟩⟩)), h5.grown hg h5.size (fun k e => (hr k e).1), Nat.le_trans h6 hg.size⟩
theorem RS.rx {w W : World} {op : Bool} {rec : List UInt8} {out : List (List UInt8)} {good : Nat} {vo vr : Value} {es : List Value} {br : Nat} (h : RS w W op rec out good vo vr es br) : RX w W out good :=
  ⟨vo, es, h.b1, h.b2, h.own, h.els.keep (Nat.le_refl _) (fun _ _ _ => rfl) (fun k hk _ => ⟨hk.1, hk.2.1⟩), h.below, h.size⟩
/-- What the reading answers. -/
def ReadPost (w : World) (r : List (List UInt8) × Nat) (e : Ending) (w' : World) : Prop := ∃ A m c, e = .returned (.tuple #[.slice A m c, .int .i64 (r.2 : Int)]) ∧ m ≤ c ∧ Rws w' w'.heap.size A m r.1 ∧ Below w.heap.size w w'
/-- Likewise; and what was read is the caller's. -/
def ReadPostO (w : World) (r : List (List UInt8) × Nat) (e : Ending) (w' : World) : Prop := ∃ A m c es, e = .returned (.tuple #[.slice A m c, .int .i64 (r.2 : Int)]) ∧ m ≤ c ∧ Lec.Own w' w.heap.size 22 (.slice A m c) es ∧ BEls w' (fun k => w.heap.size ≤ k ∧ ∃ cs, Bk w' k 5 cs) es r.1 ∧ Below w.heap.size w w'
theorem ReadPostO.post {w w' : World} {r : List (List UInt8) × Nat} {e : Ending} (h : ReadPostO w r e w') : ReadPost w r e w' := by
  obtain ⟨A, m, c, es, he, hc, ho, hl, hb⟩ := h
  exact ⟨A, m, c, he, hc, ⟨es, ho.rd, hl.1, fun i u l e1 e2 => by obtain ⟨A', c', e, hc', hr, _⟩ := hl.2 i u l e1 e2; exact ⟨A', c', e, hc', hr⟩⟩, hb⟩
theorem RX.post {w W : World} {out : List (List UInt8)} {good : Nat} {vo : Value} (h : RX w W out good) (hv : W.cell? ⟨w.heap.size, 0, none⟩ = some vo) : ∃ A m c es, vo = .slice A m c ∧ m ≤ c ∧ Lec.Own W w.heap.size 22 (.slice A m c) es ∧ BEls W (fun k => w.heap.size ≤ k ∧ ∃ cs, Bk W k 5 cs) es out := by
  obtain ⟨vo', es, h1, h2, h3, h4, h5, h6⟩ := h
  have : vo' = vo := by
    have := h1.cell 0
    rw [hv] at this
    simpa using this.symm
  subst this
  obtain ⟨A, c, rfl, hc⟩ := h3.shape
  exact ⟨A, es.length, c, es, rfl, hc, h3.mono (by omega), h4.keep (Nat.le_refl _) (fun _ _ _ => rfl) (fun k hk _ => ⟨by omega, hk.2⟩)⟩
theorem readL_break {k : UInt8} {p : List UInt8} {e : Nat} {ps : List (UInt8 × List UInt8 × Nat)} {op : Bool} {rec : List UInt8} {out : List (List UInt8)} {good : Nat} (h : op ≠ (k == 3 || k == 4) ∨ 1048576 < rec.length + p.length) : readL ((k, p, e) :: ps) op rec out good = (out, good) := by
  rw [readL, if_pos h]
theorem readL_open {k : UInt8} {p : List UInt8} {e : Nat} {ps : List (UInt8 × List UInt8 × Nat)} {op : Bool} {rec : List UInt8} {out : List (List UInt8)} {good : Nat} (h : op = (k == 3 || k == 4)) (hl : rec.length + p.length ≤ 1048576) (hk : (k == 2 || k == 3) = true) : readL ((k, p, e) :: ps) op rec out good = readL ps true (rec ++ p) out good := by
  rw [readL, if_neg (fun x => x.elim (fun y => y h) (fun y => by omega)), if_pos hk]
theorem readL_close {k : UInt8} {p : List UInt8} {e : Nat} {ps : List (UInt8 × List UInt8 × Nat)} {op : Bool} {rec : List UInt8} {out : List (List UInt8)} {good : Nat} (h : op = (k == 3 || k == 4)) (hl : rec.length + p.length ≤ 1048576) (hk : (k == 2 || k == 3) = false) : readL ((k, p, e) :: ps) op rec out good = readL ps false [] (out ++ [rec ++ p]) e := by
  rw [readL, if_neg (fun x => x.elim (fun y => y h) (fun y => by omega)), if_neg (by simp [hk])]
/-- Behind the loop's last step: the block of its deferred calls is shut. -/
theorem RX.shut {w W : World} {out : List (List UInt8)} {good : Nat} {vo : Value} (h : RX w W out good) (hv : W.cell? ⟨w.heap.size, 0, none⟩ = some vo) (nq D : Nat) (o' : Obj) (hD : w.heap.size + 5 ≤ D) (hK : W.heap[D]? = some (.deferred (some []))) :
    ∃ A m c, vo = .slice A m c ∧ ReadPostO w (out, good) (.returned (.tuple #[.slice A m c, .int .i64 (good : Int)])) ((W.drewN nq).putObj D o') := by
  have h1 : RX w (W.drewN nq) out good := h.kept (row := none) (grown_of_below (belowN (Below.refl _ _) nq)) (fun r e => by cases e)
  have h2 : RX w ((W.drewN nq).putObj D o') out good := h1.kept (grownBy_putObj' (W.drewN nq) D o') (fun r e => by cases e; exact ⟨by omega, _, hK, rfl⟩)
  have hv2 : ((W.drewN nq).putObj D o').cell? ⟨w.heap.size, 0, none⟩ = some vo := by
    rw [World.cell?_of_block (a := ⟨w.heap.size, 0, none⟩) (w := W.drewN nq)]
    · exact hv
    · exact (grownBy_putObj' (W.drewN nq) D o').block _ (by have := (Array.getElem?_eq_some_iff.1 hK).1; show w.heap.size < W.heap.size; omega) (by simp; omega)
  obtain ⟨A, m, c, es, e, hm, hr, hl⟩ := h2.post hv2
  obtain ⟨_, _, _, _, _, _, hb, _⟩ := h2
  exact ⟨A, m, c, e, A, m, c, es, rfl, hm, hr, hl, hb⟩
end Go.Proofs.YtgilnjngphhhlaaGreat
/- Layer 17: the steps of a round of the reading's loop, on memory. -/
namespace Go.Proofs.YtgilnjngphhhlaaGreat
open Go.RowKit Go.Lec Go.Shelf

/-- A round's step: what it keeps. -/
structure Mv (n₁ Bs B0 : Nat) (W W' : World) : Prop where
  kp : Kp n₁ Bs W W'
  kf : KeepsFrom B0 W W'
  part : ∀ k cs, Bk W k 83 cs → Bk W' k 83 cs
section
variable {n₁ Bs B0 : Nat} {W W' W'' : World}
theorem Mv.trans (h : Mv n₁ Bs B0 W W') (k : Mv n₁ Bs B0 W' W'') : Mv n₁ Bs B0 W W'' := ⟨h.kp.trans k.kp, h.kf.trans k.kf, fun i cs e => k.part i cs (h.part i cs e)⟩
theorem Mv.of_below (h : Below W.heap.size W W') (hn : n₁ ≤ W.heap.size) : Mv n₁ Bs B0 W W' := ⟨Kp.of_below h hn, keeps_of_below h _, fun k cs e => Bk.below e h e.lt⟩
theorem Mv.set {g i : Nat} {t : TypeId} {cs : Array Value} (h : Bk W g t cs) (ht : t ≠ 128) (ht' : t ≠ 83) (hn : n₁ ≤ g) (hB : g ≠ Bs) (u : Value) : Mv n₁ Bs B0 W (W.setCell ⟨g, i, none⟩ u) :=
  ⟨Kp.set h ht hn hB u, (KeepsOthers.setCell W ⟨g, i, none⟩ u).from _, fun k cs' e => Bk.far e (p := ⟨g, i, none⟩) (wbk_ne h e ht') u⟩
theorem Mv.grown {B : Nat} {e : TypeId} {v : Value} {xs : List Value} (h : Lec.Own W B e v xs) (hg : W.grownBy W' v.ownBlock) (hn : n₁ ≤ W.heap.size) (hnB : n₁ ≤ B) (hBs : Bs < B) (he : e ≠ 128) (he' : e ≠ 83) : Mv n₁ Bs B0 W W' := by
  refine ⟨Kp.grown h hg hn hnB hBs he, (KeepsOthers.of_grownBy hg ?_).from _, fun k cs e' => Bk.grow e' hg (own_ne h e' (fun x => he' x.symm))⟩
  intro j o ej hj
  rcases h.2 with ⟨rfl, _⟩ | ⟨g, cap, cur, rfl, _, hk, _⟩
  · simp [Value.ownBlock] at ej
  · obtain rfl : g = j := by simpa [Value.ownBlock] using ej
    rw [hk] at hj
    cases hj
    rfl
end

/-- Two worlds behind one. -/
theorem below_from {B : Nat} {a b c : World} (h : Below B a b) (k : Below B a c) (hs : b.heap.size ≤ c.heap.size) : Below B b c :=
  ⟨k.os.trans h.os.symm, k.tape.trans h.tape.symm, k.output.trans h.output.symm, hs, fun i hi => (k.block i hi).trans (h.block i hi).symm⟩
theorem infoS : (Tryz.prog.info? 22).map (fun i => (i.zero, i.size, i.bytes)) = some (some (.slice none 0 0), 1, 24) := by kernel_rfl
theorem slr : SlT Tryz.prog 26 22 (.slice none 0 0) 24 := ⟨Tryz.underlying26, info_parts infoS, rfl⟩
/-- In the midst of a round: a record is open. -/
structure RM (w W : World) (op : Bool) (rec : List UInt8) (out : List (List UInt8)) (good : Nat) (vo vr : Value) (es : List Value) (br : Nat) : Prop where
  b1 : Bk W w.heap.size 26 #[vo]
  b2 : Bk W (w.heap.size + 1) 3 #[.int .i64 (good : Int)]
  b3 : Bk W (w.heap.size + 1 + 1) 22 #[vr]
  b4 : Bk W (w.heap.size + 1 + 1 + 1) 4 #[.bool op]
  own : Lec.Own W (w.heap.size + 5) 22 vo es
  els : BEls W (Xat W (w.heap.size + 5) br true) es out
  rcd : Lec.Own W br 5 vr (bcs rec)
  base : w.heap.size + 5 ≤ br ∧ br ≤ W.heap.size
  below : Below w.heap.size w W
  size : w.heap.size + 5 ≤ W.heap.size
section
variable {w W W' : World} {op : Bool} {rec : List UInt8} {out : List (List UInt8)} {good : Nat} {vo vr : Value} {es : List Value} {br : Nat}
theorem RS.mid (h : RS w W true rec out good vo vr es br) : RM w W true rec out good vo vr es br := ⟨h.b1, h.b2, h.b3, h.b4, h.own, h.els, (h.rcd rfl).1, (h.rcd rfl).2, h.below, h.size⟩
theorem RM.grow (h : RM w W op rec out good vo vr es br) (hb : Below W.heap.size W W') : RM w W' op rec out good vo vr es br :=
  ⟨h.b1.below hb h.b1.lt, h.b2.below hb h.b2.lt, h.b3.below hb h.b3.lt, h.b4.below hb h.b4.lt, h.own.below hb (Nat.le_refl _), els_same h.els hb.size (fun k _ _ _ hk => hb.block k hk), h.rcd.below hb (Nat.le_refl _), ⟨h.base.1, Nat.le_trans h.base.2 hb.size⟩, h.below.trans (hb.mono h.below.size), Nat.le_trans h.size hb.size⟩
/-- A box's store keeps the rest. -/
theorem els_set {B g : Nat} {u : Value} {o : Bool} (h : BEls W (Xat W B br o) es out) (hg : g < B) : BEls (W.setCell ⟨g, 0, none⟩ u) (Xat (W.setCell ⟨g, 0, none⟩ u) B br o) es out :=
  els_same h (by simp) (fun k hx _ _ _ => Below.heap_setCell W ⟨g, 0, none⟩ u k (by show k ≠ g; omega))
theorem box_ne {B g : Nat} {e : TypeId} {v : Value} {xs : List Value} (h : Lec.Own W B e v xs) (hg : g < B) : v.ownBlock ≠ some g := fun e' => by have := (own_base h e').1; omega
theorem RM.open_ (h : RM w W op rec out good vo vr es br) (b : Bool) : RM w (W.setCell ⟨w.heap.size + 1 + 1 + 1, 0, none⟩ (.bool b)) b rec out good vo vr es br :=
  ⟨h.b1.far (by dsimp only; omega) _, h.b2.far (by dsimp only; omega) _, h.b3.far (by dsimp only; omega) _, by simpa using h.b4.set_ 0 (.bool b), own_set h.own _ (box_ne h.own (by omega)), els_set h.els (by omega), own_set h.rcd _ (box_ne h.rcd (by have := h.base; omega)), ⟨h.base.1, by simpa using h.base.2⟩, h.below.setCell (by dsimp only; omega) _, by simpa using h.size⟩
/-- A new record. -/
theorem RS.fresh (h : RS w W false rec out good vo vr es br) : RM w ((W.alloc (.cells #[] 5)).setCell ⟨w.heap.size + 1 + 1, 0, none⟩ (.slice (some ⟨W.heap.size, 0, none⟩) 0 0)) false [] out good vo (.slice (some ⟨W.heap.size, 0, none⟩) 0 0) es W.heap.size := by
  have hg := h.grow ((Below.refl W.heap.size W).alloc (Nat.le_refl _) (.cells #[] 5))
  have hr : Lec.Own (W.alloc (.cells #[] 5)) W.heap.size 5 (.slice (some ⟨W.heap.size, 0, none⟩) 0 0) (bcs []) := Lec.Own.lit W [] (Nat.le_refl _) (by simp [maxLen])
  have hE : BEls (W.alloc (.cells #[] 5)) (Xat (W.alloc (.cells #[] 5)) (w.heap.size + 5) W.heap.size true) es out :=
    h.els.keep (by simp) (fun k _ hk => Below.heap_alloc W _ k hk) (fun k hx hk => ⟨hx.1, by obtain ⟨cs, hc⟩ := hx.2.1; exact ⟨cs, hc.alloc _⟩, fun _ => hk⟩)
  exact ⟨hg.b1.far (by dsimp only; omega) _, hg.b2.far (by dsimp only; omega) _, by simpa using hg.b3.set_ 0 (.slice (some ⟨W.heap.size, 0, none⟩) 0 0), hg.b4.far (by dsimp only; omega) _, own_set hg.own _ (box_ne hg.own (by omega)), els_set hE (by omega), own_set hr _ (box_ne hr (by have := h.size; omega)), ⟨h.size, by simp⟩, hg.below.setCell (by dsimp only; omega) _, by simpa using hg.size⟩
/-- A row that has grown keeps the rest. -/
theorem RM.more {w3 : World} {v3 : Value} {p : List UInt8} (h : RM w W op rec out good vo vr es br) (hg : W.grownBy w3 vr.ownBlock) (ho : Lec.Own w3 br 5 v3 (bcs rec ++ bcs p)) :
    RM w (w3.setCell ⟨w.heap.size + 1 + 1, 0, none⟩ v3) op (rec ++ p) out good vo v3 es br ∧ Bk w3 (w.heap.size + 1 + 1) 22 #[vr] := by
  have hbase := h.base
  have hne : ∀ {k : Nat}, k < w.heap.size + 5 → vr.ownBlock ≠ some k := fun hk => box_ne h.rcd (by omega)
  have hb1 := Bk.grow h.b1 hg (hne (by omega))
  have hb2 := Bk.grow h.b2 hg (hne (by omega))
  have hb3 := Bk.grow h.b3 hg (hne (by omega))
  have hb4 := Bk.grow h.b4 hg (hne (by omega))
  have hown : Lec.Own w3 (w.heap.size + 5) 22 vo es := h.own.grown hg (fun g hgr e => wown_own h.rcd h.own (by decide) hgr e)
  have hE : BEls w3 (Xat w3 (w.heap.size + 5) br true) es out := els_same h.els hg.size (fun k _ _ hx hk => hg.block k hk (fun e => by have := (own_base h.rcd e.symm).1; have := hx rfl; omega))
  have hbel : Below w.heap.size w w3 := h.below.grown hg h.below.size (fun k e => by have := (own_base h.rcd e).1; omega)
  rw [← bcs_append] at ho
  exact ⟨⟨hb1.far (by dsimp only; omega) _, hb2.far (by dsimp only; omega) _, by simpa using hb3.set_ 0 v3, hb4.far (by dsimp only; omega) _, own_set hown _ (box_ne hown (by omega)), els_set hE (by omega), own_set ho _ (box_ne ho (by omega)), ⟨hbase.1, by have := hg.size; simp; omega⟩, hbel.setCell (by dsimp only; omega) _, by have := hg.size; have := h.size; simp; omega⟩, hb3⟩
/-- A row that is the program's own, as an element. -/
theorem own_el {B : Nat} (h : Lec.Own W B 5 vr (bcs rec)) (hB : w.heap.size + 5 ≤ B) : El W (Xat W (w.heap.size + 5) 0 false) vr rec := by
  obtain ⟨A, c, rfl, hc⟩ := h.shape
  rw [bcs_length] at hc
  rw [bcs_length] at h ⊢
  refine ⟨A, c, rfl, hc, h.rd, fun hl a e => ?_⟩
  subst e
  rcases h.2 with ⟨h1, _⟩ | ⟨g, cap, cur, h1, hb, hg, _⟩
  · cases h1
  · simp only [Value.slice.injEq, Option.some.injEq] at h1
    rw [h1.1]
    exact ⟨by dsimp only; omega, ⟨cur, hg⟩, fun e => by cases e⟩
/-- The record is told. -/
theorem RM.close {w7 : World} {v7 : Value} {e : Nat} (h : RM w W false rec out good vo vr es br) (hg : (W.alloc (.cells #[vr] 22)).grownBy w7 vo.ownBlock) (ho : Lec.Own w7 (w.heap.size + 5) 22 v7 (es ++ [vr])) :
    RS w ((w7.setCell ⟨w.heap.size, 0, none⟩ v7).setCell ⟨w.heap.size + 1, 0, none⟩ (.int .i64 (e : Int))) false [] (out ++ [rec]) e v7 vr (es ++ [vr]) 0 ∧ Bk w7 w.heap.size 26 #[vo] ∧ Bk (w7.setCell ⟨w.heap.size, 0, none⟩ v7) (w.heap.size + 1) 3 #[.int .i64 (good : Int)] := by
  have hbase := h.base
  have h6 := h.grow ((Below.refl W.heap.size W).alloc (Nat.le_refl _) (.cells #[vr] 22))
  have hne : ∀ {k : Nat}, k < w.heap.size + 5 → vo.ownBlock ≠ some k := fun hk => box_ne h6.own hk
  have hb1 := Bk.grow h6.b1 hg (hne (by omega))
  have hb2 := Bk.grow h6.b2 hg (hne (by omega))
  have hb3 := Bk.grow h6.b3 hg (hne (by omega))
  have hb4 := Bk.grow h6.b4 hg (hne (by omega))
  have hE6 : BEls (W.alloc (.cells #[vr] 22)) (Xat (W.alloc (.cells #[vr] 22)) (w.heap.size + 5) 0 false) (es ++ [vr]) (out ++ [rec]) :=
    (h6.els.keep (Nat.le_refl _) (fun _ _ _ => rfl) (fun k hx _ => ⟨hx.1, hx.2.1, fun e => by cases e⟩)).snoc (own_el h6.rcd hbase.1)
  have hE7 : BEls w7 (Xat w7 (w.heap.size + 5) 0 false) (es ++ [vr]) (out ++ [rec]) := els_same hE6 hg.size (fun k _ hx _ hk => hg.block k hk (fun e => by obtain ⟨cs, hc⟩ := hx; exact own_ne h6.own hc (by decide) e.symm))
  have hbel : Below w.heap.size w w7 := h6.below.grown hg h6.below.size (fun k e => by have := (own_base h6.own e).1; omega)
  have ho8 := own_set (g := w.heap.size) (i := 0) ho v7 (box_ne ho (by omega))
  refine ⟨⟨?_, ?_, (hb3.far (by dsimp only; omega) _).far (by dsimp only; omega) _, (hb4.far (by dsimp only; omega) _).far (by dsimp only; omega) _, own_set ho8 _ (box_ne ho8 (by omega)), els_set (els_set hE7 (by omega)) (by omega), (fun e => by cases e), (fun _ => rfl), (hbel.setCell (by dsimp only; omega) _).setCell (by dsimp only; omega) _, by have := hg.size; have := h6.size; simp only [World.size_setCell]; omega, by simp⟩, hb1, hb2.far (by dsimp only; omega) _⟩
  · exact Bk.far (by simpa using hb1.set_ 0 v7) (by dsimp only; omega) _
  · simpa using (hb2.far (p := ⟨w.heap.size, 0, none⟩) (by dsimp only; omega) v7).set_ 0 (.int .i64 (e : Int))
end
end Go.Proofs.YtgilnjngphhhlaaGreat
