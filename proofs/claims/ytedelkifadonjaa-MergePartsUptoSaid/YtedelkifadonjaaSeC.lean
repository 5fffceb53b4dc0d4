/- Layer 24, LevelSees: the pairs of a list in order (the document's All): words and laws for its walk. -/
import Derived.Test.YtedelkifadonjaaSeB
import Derived.Test.YtedelkifadonjaaHeldT
import Derived.BigQuiet
namespace Go.Lec
open Go.RowKit
section
variable {w : World} {B n k : Nat} {A : Option Addr} {xs : List Value}
theorem RdK.cut (h : RdK w B k A n xs) {j c : Nat} (hj : j ≤ n) (hc : n ≤ c) : RdK w B k (if c = j then A else A.map (·.add (j * k))) (n - j) (xs.drop (j * k)) := by
  refine ⟨by rw [List.length_drop, h.1, Nat.sub_mul], fun hn => ?_⟩
  obtain ⟨b, o, rfl, hb, hcell⟩ := h.2 (by omega)
  rw [if_neg (by omega)]
  refine ⟨b, o + j * k, by simp [Addr.add_lit], hb, fun i u hu => ?_⟩
  rw [Nat.add_assoc]
  exact hcell _ u (by rw [← hu, List.getElem?_drop])
theorem RdK.take_ (h : RdK w B k A n xs) {j : Nat} (hj : j ≤ n) : RdK w B k A j (xs.take (j * k)) := by
  refine ⟨by rw [List.length_take, h.1]; exact Nat.min_eq_left (Nat.mul_le_mul_right _ hj), fun hn => ?_⟩
  obtain ⟨b, o, rfl, hb, hcell⟩ := h.2 (by omega)
  refine ⟨b, o, rfl, hb, fun i u hu => hcell i u ?_⟩
  rw [List.getElem?_take] at hu
  split at hu
  · exact hu
  · cases hu
end
theorem SlK.elem_ {P : Program} {t e : TypeId} {z : Value} {by_ k : Nat} (hT : SlK P t e z by_ k) : P.elem t = e := by simp [Program.elem, hT.ut]
/-- 's[j:]', of elements of k cells. -/
theorem run_cutK {P : Program} {t e : TypeId} {z : Value} {by_ k : Nat} (hT : SlK P t e z by_ k) {w : World} {B n c : Nat} {A : Option Addr} {xs : List Value} (hr : RdK w B k A n xs) (hc : n ≤ c) {j : Nat} (hj : j ≤ n) (kl : IntKind) :
    ∃ A', (∀ W : World, (Instr.slice t (.slice A n c) (some (.int kl (j : Int))) none none).run P W = .ok (.slice A' (n - j) (c - j)) W) ∧ RdK w B k A' (n - j) (xs.drop (j * k)) := by
  obtain ⟨i, hi, _, hsz, _⟩ := hT.info
  refine ⟨_, fun W => ?_, hr.cut hj hc⟩
  rw [run_slice_l (P := P) (w := W) t A n c (by rw [hT.elem_]; exact hT.ut) kl j (by omega) (by omega)]
  simp [sizeOf, typeInfo, hT.elem_, hi, hsz, sliced, Result.andThen]
/-- 's[:j:j]'. -/
theorem run_cutF {P : Program} {t e : TypeId} {z : Value} {by_ k : Nat} (hT : SlK P t e z by_ k) (A : Option Addr) {n c j : Nat} (hc : j ≤ c) (kh km : IntKind) (W : World) :
    (Instr.slice t (.slice A n c) none (some (.int kh (j : Int))) (some (.int km (j : Int)))).run P W = .ok (.slice A j j) W := by
  obtain ⟨i, hi, _, hsz, _⟩ := hT.info
  rw [run_slice_hm (P := P) (w := W) t A n c (by rw [hT.elem_]; exact hT.ut) kh km j j (by omega) (by omega) (by omega)]
  cases A <;> simp [sizeOf, typeInfo, hT.elem_, hi, hsz, sliced, Result.andThen, Addr.add_zero']
/-- The way on, and nothing else. -/
def onlyN (K : Act → World → Prop) : Exit → Act → World → Prop
  | .normal, a, w => K a w
  | _, _, _ => False
theorem onlyN_lets (K : Act → World → Prop) : ¬ LetsOut (onlyN K) := fun ⟨_, _, h⟩ => h
/-- An operation of a region that draws, walked by a law of lists. -/
theorem if_oper {P : Program} {ops : Array Oper} {Q : Exit → Act → World → Prop} {o : Oper} {a : Act} {w : World} {K : Act → World → Prop} {b : Bool} {R : Prop} (hb : b = true) (hg : o.guard = none)
    (h : wpList P ops (onlyN K) [o] a w) : if b = true then Oper.wp P o a w K Q else R := by
  rw [if_pos hb]
  unfold wpList at h
  rw [if_pos (by simp [Region.wanted, hg])] at h
  rcases h with h1 | ⟨_, h1⟩
  · unfold Oper.wp at *
    generalize (execOp a.eval o).run P w = r at *
    cases r with
    | ok x w' =>
      cases x with
      | value v => exact h1
      | skip => exact h1
      | defer d => exact h1
      | enter f args =>
        refine Calls.mono h1 ?_
        intro e w'' he
        cases e with
        | returned v => exact he
        | panicked c => exact he.elim
        | outgrown => exact (onlyN_lets K he).elim
      | row row args => exact h1
      | _ => exact h1.elim
    | halt x w' => cases x <;> first | exact h1.elim | exact h1
  · exact (onlyN_lets K h1).elim

/-- The pairs that are gathered: a row of the call's own, of pairs of the list. -/
structure AllR (w W : World) (e : TypeId) (L : List Pr) (v : Value) (O : List Pr) : Prop where
  own : OwnK W w.heap.size e 2 v O.length (O.flatMap Pr.cs)
  sub : ∀ m ∈ O, m ∈ L
  below : Below w.heap.size w W
section
variable {w W W' : World} {e : TypeId} {L O : List Pr} {v : Value}
theorem AllR.grow (h : AllR w W e L v O) (hb : Below W.heap.size W W') : AllR w W' e L v O := ⟨h.own.below hb (Nat.le_refl _), h.sub, h.below.trans (hb.mono h.below.size)⟩
theorem AllR.drewN (h : AllR w W e L v O) (k : Nat) : AllR w (W.drewN k) e L v O := ⟨h.own.drewN k, h.sub, ⟨h.below.os, h.below.tape, h.below.output, h.below.size, h.below.block⟩⟩
theorem AllR.prs {A : Option Addr} {n c B : Nat} (h : AllR w W e L (.slice A n c) O) (hok : ∀ m ∈ L, m.ok w B) (hB : B ≤ w.heap.size) (hn : O.length = n) : Prs W W.heap.size A n O := by
  subst hn
  refine ⟨h.own.rd, fun m hm => ?_⟩
  exact ((hok m (h.sub m hm)).below h.below hB).more (Nat.le_trans hB h.below.size)
end
/-- Above is not below and not alike. -/
theorem gt_less (a b : List UInt8) : (!Op.bytesLess a b && !(a == b)) = Op.bytesLess b a := by
  rcases less_total a b with h | h | h
  · have : Op.bytesLess b a = false := by
      cases hb : Op.bytesLess b a with
      | false => rfl
      | true => have := less_trans h hb; rw [less_irr] at this; cases this
    rw [h, this]; rfl
  · subst h
    simp [less_irr]
  · have h1 : Op.bytesLess a b = false := by
      cases hb : Op.bytesLess a b with
      | false => rfl
      | true => have := less_trans h hb; rw [less_irr] at this; cases this
    have h2 : (a == b) = false := by
      rw [beq_eq_false_iff_ne]
      rintro rfl
      rw [less_irr] at h
      cases h
    rw [h, h1, h2]; rfl
theorem pls_get (O : List Pr) (j : Nat) (m : Pr) (h : O[j]? = some m) : ((O.map Pr.pl).getD j ([], [])).1 = m.key := by
  simp [List.getD_eq_getElem?_getD, List.getElem?_map, h, Pr.pl]
theorem foldl_take {α β : Type} (f : β → α → β) (b : β) (l : List α) (k : Nat) (x : α) (h : l[k]? = some x) : (l.take (k + 1)).foldl f b = f ((l.take k).foldl f b) x := by
  have hk := (List.getElem?_eq_some_iff.1 h).1
  rw [List.take_succ_eq_append_getElem hk, List.foldl_append]
  have := (List.getElem?_eq_some_iff.1 h).2
  rw [this]
  rfl
theorem flat_take {α : Type} {enc : α → List Value} {k : Nat} (hk : ∀ a, (enc a).length = k) : ∀ (L : List α) (j : Nat), (L.flatMap enc).take (j * k) = (L.take j).flatMap enc
  | [], j => by simp
  | x :: L, 0 => by simp
  | x :: L, j + 1 => by
    rw [List.flatMap_cons, List.take_succ_cons, List.flatMap_cons, ← flat_take hk L j, Nat.succ_mul, List.take_append]
    rw [List.take_of_length_le (by rw [hk]; omega), hk]
    congr 2
    omega
theorem flat_drop {α : Type} {enc : α → List Value} {k : Nat} (hk : ∀ a, (enc a).length = k) : ∀ (L : List α) (j : Nat), (L.flatMap enc).drop (j * k) = (L.drop j).flatMap enc
  | [], j => by simp
  | x :: L, 0 => by simp
  | x :: L, j + 1 => by
    rw [List.flatMap_cons, List.drop_succ_cons, ← flat_drop hk L j, Nat.succ_mul, List.drop_append]
    rw [List.drop_of_length_le (by rw [hk]; omega), hk, List.nil_append]
    congr 1
    omega
end Go.Lec
namespace Go.Proofs.Ytedelkifadonjaa
open Go.RowKit Go.Lec
theorem infoPr : (Try.prog.info? 56).map (fun i => (i.zero, i.size, i.bytes)) = some (some (.agg #[.slice none 0 0, .slice none 0 0]), 2, 48) := by kernel_rfl
theorem slp : SlK Try.prog 28 56 (.agg #[.slice none 0 0, .slice none 0 0]) 48 2 := ⟨Try.underlying28, info_parts infoPr, rfl, by decide⟩
end Go.Proofs.Ytedelkifadonjaa
