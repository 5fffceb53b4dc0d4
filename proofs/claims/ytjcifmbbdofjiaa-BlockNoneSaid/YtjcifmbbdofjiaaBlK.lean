/- Layer 20: an iterator's Pair: the walk. -/
import Derived.Test.YtjcifmbbdofjiaaBlJ
namespace Go.Proofs.Ytjcifmbbdofjiaa
open Go.RowKit Go.Lec Go.Op
/-- What Pair answers. -/
def PairPost (w : World) (l : List En) (p : Int) (e : Ending) (w' : World) : Prop :=
  (∃ x, 0 ≤ p ∧ l[p.toNat]? = some x ∧ ∃ u, e = .returned (.tuple #[u, .bool true]) ∧ PairIn w x.key x.val u w') ∨
  (¬ (0 ≤ p ∧ p < l.length) ∧ e = .returned (.tuple #[.agg #[.slice none 0 0, .slice none 0 0], .bool false]) ∧ Below w.heap.size w w')
set_option maxRecDepth 40000 in
set_option maxHeartbeats 800000 in
theorem c_Pair (w : World) {it L n c ev : Nat} {A : Option Addr} {X : List Ex} {p lk : Int} (h : Itr w it L A n c X ev p lk) :
    Calls Try.prog 26 #[.pointer (some ⟨it, 0, none⟩)] w (PairPost w (X.map Ex.en) p) := by
  have hle := h.le
  have hXl : (X.map Ex.en).length = n := by rw [List.length_map]; exact h.els.2.1
  have lit := h.bk.lt
  have hb1 := (Below.refl w.heap.size w).alloc (Nat.le_refl _) (.cells #[.slice none 0 0, .slice none 0 0] 35)
  have hI1 := h.below hb1
  have bT := Bk.new_ w 35 #[.slice none 0 0, .slice none 0 0]
  have hz0 : (w.alloc (.cells #[.slice none 0 0, .slice none 0 0] 35)).heap.size = w.heap.size + 1 := by simp
  obtain ⟨W1, hW1⟩ : ∃ W, W = w.alloc (.cells #[.slice none 0 0, .slice none 0 0] 35) := ⟨_, rfl⟩
  rw [← hW1] at hb1 hI1 bT hz0
  have q := hI1.bk.cell
  have r := bT.cell
  have z := bT.frz
  by_cases h0 : p < 0
  · have hd : decide (p < 0) = true := decide_eq_true h0
    go_enter Try.func26, Try.ntmps26
    go_wp2
    rw [← hW1]
    clear hW1
    go_quiet (first | (go_at_call 39; exact Calls.quiet_of_same (c_Iis _ it (q 0))))
    have hbf := ((belowN hb1 nq).setCell (p := ⟨w.heap.size, 0, none⟩) (Nat.le_refl _) (.slice none 0 0)).setCell (p := ⟨w.heap.size, 1, none⟩) (Nat.le_refl _) (.slice none 0 0)
    have bT2 := ((bT.drewN nq).set_ 0 (.slice none 0 0)).set_ 1 (.slice none 0 0)
    have g0 := bT2.cell 0
    have g1 := bT2.cell 1
    clear r
    have r := (bT.drewN nq).cell
    go_wp2
    refine bodyPost_ret (v := .tuple #[.agg #[.slice none 0 0, .slice none 0 0], .bool false]) (by simp [results, Try.results26, go_sem, g0, g1]) rfl ?_
    exact .inr ⟨by omega, rfl, hbf⟩
  · have hd : decide (p < 0) = false := decide_eq_false h0
    by_cases h2 : (n : Int) ≤ p
    · have hd2 : decide ((n : Int) ≤ p) = true := decide_eq_true h2
      go_enter Try.func26, Try.ntmps26
      go_wp2
      rw [← hW1]
      clear hW1
      go_quiet (first | (go_at_call 39; exact Calls.quiet_of_same (c_Iis _ it (q 0))))
      have hbf := ((belowN hb1 nq).setCell (p := ⟨w.heap.size, 0, none⟩) (Nat.le_refl _) (.slice none 0 0)).setCell (p := ⟨w.heap.size, 1, none⟩) (Nat.le_refl _) (.slice none 0 0)
      have bT2 := ((bT.drewN nq).set_ 0 (.slice none 0 0)).set_ 1 (.slice none 0 0)
      have g0 := bT2.cell 0
      have g1 := bT2.cell 1
      clear r
      have r := (bT.drewN nq).cell
      go_wp2
      refine bodyPost_ret (v := .tuple #[.agg #[.slice none 0 0, .slice none 0 0], .bool false]) (by simp [results, Try.results26, go_sem, g0, g1]) rfl ?_
      exact .inr ⟨by omega, rfl, hbf⟩
    · have hd2 : decide ((n : Int) ≤ p) = false := decide_eq_false h2
      obtain ⟨k, rfl⟩ : ∃ k : Nat, p = (k : Int) := ⟨p.toNat, by omega⟩
      have hk : k < n := by omega
      obtain ⟨x, hx⟩ : ∃ x, (X.map Ex.en)[k]? = some x := ⟨_, List.getElem?_eq_getElem (by omega)⟩
      have Hx := Lib.hid hx
      have HC := Lib.hid (fun nq : Nat => c_pair (W1.drewN nq) (hI1.kb (S := []) ((Kb.refl _ _).drewN nq) (fun b hb => by cases hb)) hx)
      clear hx
      go_enter Try.func26, Try.ntmps26
      go_wp2
      rw [← hW1]
      clear hW1
      go_quiet (first | (go_at_call 39; exact Calls.quiet_of_same (c_Iis _ it (q 0))))
      go_wp2_with (first | (go_at_call 43; refine (HC.out nq).mono ?_; rintro e w1 ⟨u, rfl, m, rfl, hm, hmh, hml, hm1, hm2, hb2⟩; have hz1 : w.heap.size + 1 ≤ w1.heap.size := (by have := hb2.size; rw [← hz0]; exact this); have bT1 := (bT.drewN nq).below hb2 (by show w.heap.size < W1.heap.size; omega); have r1 := bT1.cell; have z1 := bT1.frz))
      have bT2 := (bT1.set_ 0 (.slice m.A1 m.n1 m.c1)).set_ 1 (.slice m.A2 m.n2 m.c2)
      have g0 := bT2.cell 0
      have g1 := bT2.cell 1
      refine bodyPost_ret (v := .tuple #[.agg #[.slice m.A1 m.n1 m.c1, .slice m.A2 m.n2 m.c2], .bool true]) (by simp [results, Try.results26, go_sem, g0, g1]) rfl ?_
      have hmh' : m.hi (w.heap.size + 1) := hmh.mono (by rw [← hz0]; exact Nat.le_refl _)
      refine .inl ⟨x, by omega, Hx.out, _, rfl, m, rfl, ((hm.setLow hmh' (p := ⟨w.heap.size, 0, none⟩) (by dsimp only; omega) _).setLow hmh' (p := ⟨w.heap.size, 1, none⟩) (by dsimp only; omega) _).more (by simp), hmh'.mono (by omega), hml, hm1, hm2, ?_⟩
      exact (((belowN hb1 nq).trans (hb2.mono (by show w.heap.size ≤ W1.heap.size; omega))).setCell (Nat.le_refl _) _).setCell (Nat.le_refl _) _
end Go.Proofs.Ytjcifmbbdofjiaa
