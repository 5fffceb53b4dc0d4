/- Layer 17: the iterator's contract; rows of bytes; an operation within a round, walked as one outside. -/
import Derived.Test.YtgilnjngphhhlaaWalH
namespace Go.Lec
open Go.RowKit
/-- The way on, and nothing else. -/
def onlyN (K : Act → World → Prop) : Exit → Act → World → Prop
  | .normal, a, w => K a w
  | _, _, _ => False
theorem onlyN_lets (K : Act → World → Prop) : ¬ LetsOut (onlyN K) := fun ⟨_, _, h⟩ => h
/-- An operation within a round, walked as one outside. -/
theorem listIn_step {P : Program} {ops : Array Oper} {Q : Exit → Act → World → Prop} {l n : Nat} {o : Oper} {rest : List Oper} {a : Act} {w : World} (hg : o.guard = none) (hd : ∀ c, o.op ≠ .defer c)
    (h : ∀ K : Act → World → Prop, (∀ a w, wpListIn (Fence.wide.inRound l) n P ops Q rest a w → K a w) → wpList P ops (onlyN K) [o] a w) : wpListIn (Fence.wide.inRound l) n P ops Q (o :: rest) a w := by
  refine wpListIn_plain hg fun K hK => ?_
  have h1 := h K hK
  unfold wpList at h1
  rw [if_pos (by simp [Region.wanted, hg])] at h1
  rcases h1 with h1 | ⟨_, h1⟩
  · refine wpIn_of_op hd ?_
    unfold Oper.wp at *
    generalize (execOp a.eval o).run P w = r at *
    cases r with
    | ok x w' =>
      cases x with
      | value v => exact h1
      | skip => exact h1
      | defer d => exact h1
      | enter f args =>
        refine Calls.mono h1 ?_
        intro e w'' he
        cases e with
        | returned v => exact he
        | panicked c => exact he.elim
        | outgrown => exact (onlyN_lets K he).elim
      | row row args => exact h1
      | _ => exact h1.elim
    | halt x w' => cases x <;> first | exact h1.elim | exact h1
  · exact (onlyN_lets K h1).elim
/-- An element of a list of bytes. -/
def El (W : World) (X : Nat → Prop) (u : Value) (l : List UInt8) : Prop := ∃ A c, u = .slice A l.length c ∧ l.length ≤ c ∧ Rd W W.heap.size A l.length (bcs l) ∧ (0 < l.length → ∀ a, A = some a → X a.block)
/-- The elements. -/
def Els (W : World) (X : Nat → Prop) (es : List Value) (out : List (List UInt8)) : Prop := es.length = out.length ∧ ∀ (i : Nat) (u : Value) (l : List UInt8), es[i]? = some u → out[i]? = some l → El W X u l
theorem Els.imp {W W' : World} {X X' : Nat → Prop} {es : List Value} {out : List (List UInt8)} (h : Els W X es out) (hi : ∀ u l, El W X u l → El W' X' u l) : Els W' X' es out := ⟨h.1, fun i u l h1 h2 => hi u l (h.2 i u l h1 h2)⟩
theorem Els.nil (W : World) (X : Nat → Prop) : Els W X [] [] := ⟨rfl, fun i u l h1 _ => by simp at h1⟩
theorem Els.snoc {W : World} {X : Nat → Prop} {es : List Value} {out : List (List UInt8)} {u : Value} {l : List UInt8} (h : Els W X es out) (hu : El W X u l) : Els W X (es ++ [u]) (out ++ [l]) := by
  refine ⟨by simp [h.1], fun i v m h1 h2 => ?_⟩
  by_cases hi : i < es.length
  · rw [List.getElem?_append_left hi] at h1
    rw [List.getElem?_append_left (by rw [← h.1]; exact hi)] at h2
    exact h.2 i v m h1 h2
  · rw [List.getElem?_append_right (by omega)] at h1
    rw [List.getElem?_append_right (by have := h.1; omega), ← h.1] at h2
    have h0 : i - es.length = 0 := by
      have := (List.getElem?_eq_some_iff.1 h1).1
      simp only [List.length_singleton] at this
      omega
    rw [h0] at h1 h2
    simp only [List.getElem?_cons_zero, Option.some.injEq] at h1 h2
    subst h1 h2
    exact hu
/-- Blocks of elements that lie as they lay. -/
theorem El.keep {W W' : World} {X X' : Nat → Prop} {u : Value} {l : List UInt8} (h : El W X u l) (hs : W.heap.size ≤ W'.heap.size) (hk : ∀ k, X k → k < W.heap.size → W'.heap[k]? = W.heap[k]?) (hX : ∀ k, X k → k < W.heap.size → X' k) : El W' X' u l := by
  obtain ⟨A, c, rfl, hc, hr, ha⟩ := h
  by_cases h0 : 0 < l.length
  · obtain ⟨b, o, rfl, hb, hcell⟩ := hr.2 h0
    have hXb := ha h0 _ rfl
    refine ⟨_, c, rfl, hc, ⟨hr.1, fun _ => ⟨b, o, rfl, Nat.lt_of_lt_of_le hb hs, fun i v hv => ?_⟩⟩, fun _ a e => by cases e; exact hX _ hXb hb⟩
    rw [World.cell?_of_block (a := ⟨b, o + i, none⟩) (hk b hXb hb)]
    exact hcell i v hv
  · exact ⟨A, c, rfl, hc, ⟨hr.1, fun hn => absurd hn h0⟩, fun hn => absurd hn h0⟩
theorem Els.keep {W W' : World} {X X' : Nat → Prop} {es : List Value} {out : List (List UInt8)} (h : Els W X es out) (hs : W.heap.size ≤ W'.heap.size) (hk : ∀ k, X k → k < W.heap.size → W'.heap[k]? = W.heap[k]?) (hX : ∀ k, X k → k < W.heap.size → X' k) : Els W' X' es out := h.imp fun _ _ hu => hu.keep hs hk hX
/-- A row of bytes, read. -/
def Rws (W : World) (B : Nat) (A : Option Addr) (n : Nat) (out : List (List UInt8)) : Prop := ∃ es : List Value, Rd W B A n es ∧ es.length = out.length ∧ ∀ (i : Nat) (u : Value) (l : List UInt8), es[i]? = some u → out[i]? = some l → ∃ (A : Option Addr) (c : Nat), u = .slice A l.length c ∧ l.length ≤ c ∧ Rd W B A l.length (bcs l)
theorem Rws.below {W W' : World} {B B' n : Nat} {A : Option Addr} {out : List (List UInt8)} (h : Rws W B A n out) (hb : Below B' W W') (hB : B ≤ B') : Rws W' B A n out := by
  obtain ⟨es, h1, h2, h3⟩ := h
  exact ⟨es, h1.below hb hB, h2, fun i u l e1 e2 => by obtain ⟨A, c, e, hc, hr⟩ := h3 i u l e1 e2; exact ⟨A, c, e, hc, hr.below hb hB⟩⟩
theorem Rws.more {W : World} {B B' n : Nat} {A : Option Addr} {out : List (List UInt8)} (h : Rws W B A n out) (hB : B ≤ B') : Rws W B' A n out := by
  obtain ⟨es, h1, h2, h3⟩ := h
  exact ⟨es, h1.more hB, h2, fun i u l e1 e2 => by obtain ⟨A, c, e, hc, hr⟩ := h3 i u l e1 e2; exact ⟨A, c, e, hc, hr.more hB⟩⟩
theorem Rws.len {W : World} {B n : Nat} {A : Option Addr} {out : List (List UInt8)} (h : Rws W B A n out) : out.length = n := by
  obtain ⟨es, h1, h2, _⟩ := h
  rw [← h2]; exact h1.1
end Go.Lec
namespace Go.Proofs.Ytgilnjngphhhlaa
open Go.RowKit Go.Lec Go.Shelf
/-- 'parts' hands back a value that tells the frames one by one, and stops where it is told to. -/
theorem parts_stops (n : Nat) (hn : 1 ≤ n) (Bs n₁ : Nat) {N c : Nat} {A : Option Addr} {L : List UInt8} (w : World) (hBs : Bk w Bs 23 #[.slice A N c]) (hr : Rd w n₁ A N (bcs L)) (hn₁ : n₁ ≤ w.heap.size) (hNc : N ≤ c) (hN : N ≤ 1000000) :
    SeqStopsK Fence.wide n Try.prog 22 #[.pointer (some ⟨Bs, 0, none⟩)] (fun x : Pc w n₁ => #[x.val]) (Kp n₁ Bs) (fun ys => ys.map Pc.pl = pieces L 0) (fun pre => pre.map Pc.pl <+: pieces L 0) N w := fun l J Jx W hW hJ _ hY h0 =>
  parts1_in n hn l Bs n₁ w hr hn₁ hNc hN J Jx W hW hJ hY (hBs.below hW hBs.lt) h0
end Go.Proofs.Ytgilnjngphhhlaa
