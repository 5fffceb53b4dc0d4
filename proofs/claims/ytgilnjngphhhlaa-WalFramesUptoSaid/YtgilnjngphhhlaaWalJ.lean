/- Layer 17: what the reading's loop holds. -/
import Derived.Test.YtgilnjngphhhlaaWalI
namespace Go.Proofs.Ytgilnjngphhhlaa
open Go.RowKit Go.Lec Go.Shelf

section
variable {W W' : World}
theorem own_kept {B : Nat} {e : TypeId} {v : Value} {xs : List Value} {row : Option Nat} (h : Lec.Own W B e v xs) (hg : W.grownBy W' row) (hr : ∀ r, row = some r → ∃ o : Obj, W.heap[r]? = some o ∧ o.isCells = false) : Lec.Own W' B e v xs := by
  refine ⟨h.1, ?_⟩
  rcases h.2 with hn | ⟨g, cap, cur, hv, hb, hk, rest⟩
  · exact .inl hn
  · exact .inr ⟨g, cap, cur, hv, hb, Bk.kept (t := e) hk hg hr, rest⟩
theorem own_set {B g i : Nat} {e : TypeId} {v : Value} {xs : List Value} (h : Lec.Own W B e v xs) (u : Value) (hg : v.ownBlock ≠ some g) : Lec.Own (W.setCell ⟨g, i, none⟩ u) B e v xs := by
  refine ⟨h.1, ?_⟩
  rcases h.2 with hn | ⟨g', cap, cur, hv, hb, hk, rest⟩
  · exact .inl hn
  · refine .inr ⟨g', cap, cur, hv, hb, (Below.heap_setCell W ⟨g, i, none⟩ u g' ?_).trans hk, rest⟩
    intro e'
    rw [hv] at hg
    exact hg (by simp [Value.ownBlock, e'])
/-- A row is no block of another type. -/
theorem own_ne {B k : Nat} {e t : TypeId} {v : Value} {xs : List Value} {cs : Array Value} (h : Lec.Own W B e v xs) (hk : Bk W k t cs) (hne : t ≠ e) : v.ownBlock ≠ some k := by
  rcases h.2 with ⟨rfl, _⟩ | ⟨g, cap, cur, rfl, _, hg, _⟩
  · simp [Value.ownBlock]
  · intro e'
    obtain rfl : g = k := by simpa [Value.ownBlock] using e'
    rw [show W.heap[g]? = _ from hk] at hg
    simp at hg
    exact hne hg.2
theorem own_own {B B' k : Nat} {e e' : TypeId} {v v' : Value} {xs xs' : List Value} (h : Lec.Own W B e v xs) (h' : Lec.Own W B' e' v' xs') (hne : e ≠ e') (hk : v.ownBlock = some k) : v'.ownBlock ≠ some k := by
  rcases h.2 with ⟨rfl, _⟩ | ⟨g, cap, cur, rfl, _, hg, _⟩
  · simp [Value.ownBlock] at hk
  · obtain rfl : g = k := by simpa [Value.ownBlock] using hk
    exact own_ne h' (show Bk W g e cur from hg) hne
theorem own_base {B k : Nat} {e : TypeId} {v : Value} {xs : List Value} (h : Lec.Own W B e v xs) (hk : v.ownBlock = some k) : B ≤ k ∧ k < W.heap.size := World.ownsRow.lt h k hk
theorem Bk.grow {k : Nat} {t : TypeId} {cs : Array Value} {row : Option Nat} (h : Bk W k t cs) (hg : W.grownBy W' row) (hne : row ≠ some k) : Bk W' k t cs := (hg.block k h.lt (fun e => hne e.symm)).trans h
end

theorem bk_ne {W : World} {g k : Nat} {t t' : TypeId} {cs cs' : Array Value} (h : Bk W g t cs) (e : Bk W k t' cs') (ht : t ≠ t') : k ≠ g := by
  intro e'
  subst e'
  unfold Bk at h e
  rw [h] at e
  simp at e
  exact ht e.2
/-- A record is stored: what stays. -/
theorem Kp.of_below {n₁ Bs : Nat} {W W' : World} (h : Below W.heap.size W W') (hn : n₁ ≤ W.heap.size) : Kp n₁ Bs W W' :=
  ⟨h.mono hn, h.size, fun o e => (h.block Bs (Array.getElem?_eq_some_iff.1 e).1).trans e, fun k cs e => Bk.below e h e.lt⟩
theorem Kp.set {n₁ Bs g i : Nat} {W : World} {t : TypeId} {cs : Array Value} (h : Bk W g t cs) (ht : t ≠ 63) (hn : n₁ ≤ g) (hB : g ≠ Bs) (u : Value) : Kp n₁ Bs W (W.setCell ⟨g, i, none⟩ u) :=
  ⟨(Below.refl _ _).setCell (p := ⟨g, i, none⟩) hn u, by simp, fun o e => (Below.heap_setCell W ⟨g, i, none⟩ u Bs (fun e' => hB e'.symm)).trans e, fun k cs' e => Bk.far e (p := ⟨g, i, none⟩) (bk_ne h e ht) u⟩
theorem Kp.grown {n₁ Bs B : Nat} {W W' : World} {e : TypeId} {v : Value} {xs : List Value} (h : Lec.Own W B e v xs) (hg : W.grownBy W' v.ownBlock) (hn : n₁ ≤ W.heap.size) (hnB : n₁ ≤ B) (hBs : Bs < B) (he : e ≠ 63) : Kp n₁ Bs W W' :=
  ⟨(Below.refl _ _).grown hg hn (fun k hk => Nat.le_trans hnB (own_base h hk).1), hg.size, fun o e' => (hg.block Bs (Array.getElem?_eq_some_iff.1 e').1 (fun e2 => by have := (own_base h e2.symm).1; omega)).trans e', fun k cs e' => Bk.grow e' hg (own_ne h e' (fun x => he x.symm))⟩
theorem kp_b {n₁ Bs : Nat} {w : World} (hn : n₁ ≤ w.heap.size) (hB : Bs < w.heap.size) (W : World) (l : Nat) (o o' : Obj) (hl : w.heap.size ≤ l) (h : W.heap[l]? = some o) (hc : o.isCells = false) (_ : o.isWalk = false) : Kp n₁ Bs W (W.putObj l o') := by
  have hg := grownBy_putObj' W l o'
  refine ⟨(Below.refl n₁ W).grown hg (by have := (Array.getElem?_eq_some_iff.1 h).1; omega) (fun k e => by cases e; omega), hg.size, fun x e => (hg.block Bs (Array.getElem?_eq_some_iff.1 e).1 (by simp; omega)).trans e, fun k cs e => Bk.grow e hg ?_⟩
  rintro ⟨⟩
  rw [show W.heap[l]? = _ from e] at h
  cases h
  cases hc

/-- Where an element may lie. -/
def Xat (W : World) (B br : Nat) (op : Bool) (k : Nat) : Prop := B ≤ k ∧ (∃ cs, Bk W k 5 cs) ∧ (op = true → k < br)
/-- What the loop holds between two rounds. -/
structure RS (w W : World) (op : Bool) (rec : List UInt8) (out : List (List UInt8)) (good : Nat) (vo vr : Value) (es : List Value) (br : Nat) : Prop where
  b1 : Bk W w.heap.size 22 #[vo]
  b2 : Bk W (w.heap.size + 1) 3 #[.int .i64 (good : Int)]
  b3 : Bk W (w.heap.size + 1 + 1) 23 #[vr]
  b4 : Bk W (w.heap.size + 1 + 1 + 1) 4 #[.bool op]
  own : Lec.Own W (w.heap.size + 5) 23 vo es
  els : Els W (Xat W (w.heap.size + 5) br op) es out
  rcd : op = true → Lec.Own W br 5 vr (bcs rec) ∧ w.heap.size + 5 ≤ br ∧ br ≤ W.heap.size
  nor : op = false → rec = []
  below : Below w.heap.size w W
  size : w.heap.size + 5 ≤ W.heap.size
  long : rec.length ≤ 1048576
def RI (w : World) (pre : List (UInt8 × List UInt8 × Nat)) (W : World) : Prop := ∃ op rec out good vo vr es br, RS w W op rec out good vo vr es br ∧ out.length ≤ pre.length ∧ ∀ rest, readL (pre ++ rest) false [] [] 0 = readL rest op rec out good
theorem Xat.same {W W' : World} {B br k : Nat} {op : Bool} (h : Xat W B br op k) (hk : W'.heap[k]? = W.heap[k]?) : Xat W' B br op k := by
  obtain ⟨h1, ⟨cs, h2⟩, h3⟩ := h
  exact ⟨h1, ⟨cs, hk.trans h2⟩, h3⟩
theorem els_same {W W' : World} {B br : Nat} {op : Bool} {es : List Value} {out : List (List UInt8)} (h : Els W (Xat W B br op) es out) (hs : W.heap.size ≤ W'.heap.size) (hk : ∀ k, B ≤ k → (∃ cs, Bk W k 5 cs) → (op = true → k < br) → k < W.heap.size → W'.heap[k]? = W.heap[k]?) : Els W' (Xat W' B br op) es out :=
  h.keep hs (fun k hx hl => hk k hx.1 hx.2.1 hx.2.2 hl) (fun k hx hl => hx.same (hk k hx.1 hx.2.1 hx.2.2 hl))
theorem RS.grow {w W W' : World} {op : Bool} {rec : List UInt8} {out : List (List UInt8)} {good : Nat} {vo vr : Value} {es : List Value} {br : Nat} (h : RS w W op rec out good vo vr es br) (hb : Below W.heap.size W W') : RS w W' op rec out good vo vr es br :=
  ⟨h.b1.below hb h.b1.lt, h.b2.below hb h.b2.lt, h.b3.below hb h.b3.lt, h.b4.below hb h.b4.lt, h.own.below hb (Nat.le_refl _), els_same h.els hb.size (fun k _ _ _ hk => hb.block k hk), fun e => ⟨(h.rcd e).1.below hb (Nat.le_refl _), (h.rcd e).2.1, Nat.le_trans (h.rcd e).2.2 hb.size⟩, h.nor,
    h.below.trans (hb.mono h.below.size), Nat.le_trans h.size hb.size, h.long⟩
theorem el_kept {W W' : World} {X X' : Nat → Prop} {u : Value} {l : List UInt8} {row : Option Nat} (h : El W X u l) (hg : W.grownBy W' row) (hr : ∀ r, row = some r → ∃ o : Obj, W.heap[r]? = some o ∧ o.isCells = false) (hX : ∀ k, X k → X' k) : El W' X' u l := by
  obtain ⟨A, c, e, hc, hr', ha⟩ := h
  exact ⟨A, c, e, hc, (hr'.kept hg hr).more hg.size, fun hl a e => hX _ (ha hl a e)⟩
theorem RS.kept {w W W' : World} {op : Bool} {rec : List UInt8} {out : List (List UInt8)} {good : Nat} {vo vr : Value} {es : List Value} {br : Nat} {row : Option Nat} (h : RS w W op rec out good vo vr es br) (hg : W.grownBy W' row) (hr : ∀ r, row = some r → w.heap.size ≤ r ∧ ∃ o : Obj, W.heap[r]? = some o ∧ o.isCells = false) : RS w W' op rec out good vo vr es br :=
  ⟨h.b1.kept hg (fun r e => (hr r e).2), h.b2.kept hg (fun r e => (hr r e).2), h.b3.kept hg (fun r e => (hr r e).2), h.b4.kept hg (fun r e => (hr r e).2), own_kept h.own hg (fun r e => (hr r e).2), h.els.imp (fun u l hu => el_kept hu hg (fun r e => (hr r e).2) (fun k hx => ⟨hx.1, by obtain ⟨cs, hc⟩ := hx.2.1; exact ⟨cs, hc.kept hg (fun r e => (hr r e).2)⟩, hx.2.2⟩)), fun e => ⟨own_kept (h.rcd e).1 hg (fun r e => (hr r e).2), (h.rcd e).2.1, Nat.le_trans (h.rcd e).2.2 hg.size⟩, h.nor,
    h.below.grown hg h.below.size (fun k e => (hr k e).1), Nat.le_trans h.size hg.size, h.long⟩
/-- What is there when the reading ends. -/
def RX (w W : World) (out : List (List UInt8)) (good : Nat) : Prop := ∃ vo es, Bk W w.heap.size 22 #[vo] ∧ Bk W (w.heap.size + 1) 3 #[.int .i64 (good : Int)] ∧ Lec.Own W (w.heap.size + 5) 23 vo es ∧ Els W (fun _ => True) es out ∧ Below w.heap.size w W ∧ w.heap.size + 5 ≤ W.heap.size
theorem RX.kept {w W W' : World} {out : List (List UInt8)} {good : Nat} {row : Option Nat} (h : RX w W out good) (hg : W.grownBy W' row) (hr : ∀ r, row = some r → w.heap.size ≤ r ∧ ∃ o : Obj, W.heap[r]? = some o ∧ o.isCells = false) : RX w W' out good := by
  obtain ⟨vo, es, h1, h2, h3, h4, h5, h6⟩ := h
  exact ⟨vo, es, h1.kept hg (fun r e => (hr r e).2), h2.kept hg (fun r e => (hr r e).2), own_kept h3 hg (fun r e => (hr r e).2), h4.imp (fun u l hu => el_kept hu hg (fun r e => (hr r e).2) (fun _ h => h)), h5.grown hg h5.size (fun k e => (hr k e).1), Nat.le_trans h6 hg.size⟩
theorem RS.rx {w W : World} {op : Bool} {rec : List UInt8} {out : List (List UInt8)} {good : Nat} {vo vr : Value} {es : List Value} {br : Nat} (h : RS w W op rec out good vo vr es br) : RX w W out good :=
  ⟨vo, es, h.b1, h.b2, h.own, h.els.keep (Nat.le_refl _) (fun _ _ _ => rfl) (fun _ _ _ => trivial), h.below, h.size⟩
/-- What the reading answers. -/
def ReadPost (w : World) (r : List (List UInt8) × Nat) (e : Ending) (w' : World) : Prop := ∃ A m c, e = .returned (.tuple #[.slice A m c, .int .i64 (r.2 : Int)]) ∧ m ≤ c ∧ Rws w' w'.heap.size A m r.1 ∧ Below w.heap.size w w'
theorem RX.post {w W : World} {out : List (List UInt8)} {good : Nat} {vo : Value} (h : RX w W out good) (hv : W.cell? ⟨w.heap.size, 0, none⟩ = some vo) : ∃ A m c, vo = .slice A m c ∧ m ≤ c ∧ Rws W W.heap.size A m out := by
  obtain ⟨vo', es, h1, h2, h3, h4, h5, h6⟩ := h
  have : vo' = vo := by
    have := h1.cell 0
    rw [hv] at this
    simpa using this.symm
  subst this
  obtain ⟨A, c, rfl, hc⟩ := h3.shape
  exact ⟨A, es.length, c, rfl, hc, es, h3.rd, h4.1, fun i u l e1 e2 => by obtain ⟨A', c', e, hc', hr, _⟩ := h4.2 i u l e1 e2; exact ⟨A', c', e, hc', hr⟩⟩
theorem readL_break {k : UInt8} {p : List UInt8} {e : Nat} {ps : List (UInt8 × List UInt8 × Nat)} {op : Bool} {rec : List UInt8} {out : List (List UInt8)} {good : Nat} (h : op ≠ (k == 3 || k == 4) ∨ 1048576 < rec.length + p.length) : readL ((k, p, e) :: ps) op rec out good = (out, good) := by
  rw [readL, if_pos h]
theorem readL_open {k : UInt8} {p : List UInt8} {e : Nat} {ps : List (UInt8 × List UInt8 × Nat)} {op : Bool} {rec : List UInt8} {out : List (List UInt8)} {good : Nat} (h : op = (k == 3 || k == 4)) (hl : rec.length + p.length ≤ 1048576) (hk : (k == 2 || k == 3) = true) : readL ((k, p, e) :: ps) op rec out good = readL ps true (rec ++ p) out good := by
  rw [readL, if_neg (fun x => x.elim (fun y => y h) (fun y => by omega)), if_pos hk]
theorem readL_close {k : UInt8} {p : List UInt8} {e : Nat} {ps : List (UInt8 × List UInt8 × Nat)} {op : Bool} {rec : List UInt8} {out : List (List UInt8)} {good : Nat} (h : op = (k == 3 || k == 4)) (hl : rec.length + p.length ≤ 1048576) (hk : (k == 2 || k == 3) = false) : readL ((k, p, e) :: ps) op rec out good = readL ps false [] (out ++ [rec ++ p]) e := by
  rw [readL, if_neg (fun x => x.elim (fun y => y h) (fun y => by omega)), if_neg (by simp [hk])]
/-- Behind the loop's last step: the block of its deferred calls is shut. -/
theorem RX.shut {w W : World} {out : List (List UInt8)} {good : Nat} {vo : Value} (h : RX w W out good) (hv : W.cell? ⟨w.heap.size, 0, none⟩ = some vo) (nq D : Nat) (o' : Obj) (hD : w.heap.size + 5 ≤ D) (hK : W.heap[D]? = some (.deferred (some []))) :
    ∃ A m c, vo = .slice A m c ∧ ReadPost w (out, good) (.returned (.tuple #[.slice A m c, .int .i64 (good : Int)])) ((W.drewN nq).putObj D o') := by
  have h1 : RX w (W.drewN nq) out good := h.kept (row := none) (grown_of_below (belowN (Below.refl _ _) nq)) (fun r e => by cases e)
  have h2 : RX w ((W.drewN nq).putObj D o') out good := h1.kept (grownBy_putObj' (W.drewN nq) D o') (fun r e => by cases e; exact ⟨by omega, _, hK, rfl⟩)
  have hv2 : ((W.drewN nq).putObj D o').cell? ⟨w.heap.size, 0, none⟩ = some vo := by
    rw [World.cell?_of_block (a := ⟨w.heap.size, 0, none⟩) (w := W.drewN nq)]
    · exact hv
    · exact (grownBy_putObj' (W.drewN nq) D o').block _ (by have := (Array.getElem?_eq_some_iff.1 hK).1; show w.heap.size < W.heap.size; omega) (by simp; omega)
  obtain ⟨A, m, c, e, hm, hr⟩ := h2.post hv2
  obtain ⟨_, _, _, _, _, _, hb, _⟩ := h2
  exact ⟨A, m, c, e, A, m, c, rfl, hm, hr, hb⟩
end Go.Proofs.Ytgilnjngphhhlaa
