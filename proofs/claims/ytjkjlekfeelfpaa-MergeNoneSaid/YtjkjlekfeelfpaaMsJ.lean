/- Layer 23: a pair in memory of its own (merge.twin). Printed by gen_mstwin.py. -/
import Derived.Test.YtjkjlekfeelfpaaMsI
namespace Go.Proofs.Ytjkjlekfeelfpaa
open Go.RowKit Go.Lec
set_option maxRecDepth 40000 in
set_option maxHeartbeats 400000 in
theorem c_sClone (w : World) {B : Nat} {A : Option Addr} {n c : Nat} {l : List UInt8} (hr : Rd w B A n (bcs l)) (hB : B ≤ w.heap.size) (hn : n ≤ 140737488355328) :
    Calls Try.prog 53 #[.slice A n c] w (RetB 5 w l) := by
  have hk := Lib.run_eql_slice_nil (P := Try.prog) w 34 5 A n c 0 0 Try.underlying34
  have hln := hr.1
  rw [bcs_length] at hln
  have Hln := Lib.hid hln; clear hln
  go_enter Try.func53, Try.ntmps53
  cases A with
  | none =>
    have h0 : n = 0 := by
      rcases Nat.eq_zero_or_pos n with h | h
      · exact h
      · obtain ⟨b, o, e, _⟩ := hr.2 h; cases e
    subst h0
    obtain rfl : l = [] := List.eq_nil_of_length_eq_zero Hln.out
    go_wp2
    go_ret
    exact ⟨_, rfl, Own.nil_ _ _ _, Below.refl _ _⟩
  | some a =>
    go_wp2_with (first
      | (at_builtin; (refine wpList_app_slB rfl (.tmp 5) (.tmp 6) rfl slb rfl (Own.lit w [] (Nat.le_refl _) (by simp)) ((Below.refl _ _).alloc (Nat.le_refl _) _) (by simp) rfl (hr.alloc hB _) bcs_one (by simp; omega) (by unfold maxLen; simp; omega) ?_); intro v2 w2 ho2 hb2 hs2))
    go_ret
    exact ⟨_, rfl, by simpa using ho2, hb2⟩

/-- A pair in memory of its own. -/
def MTwinP (w : World) (k v : List UInt8) (e : Ending) (w' : World) : Prop := ∃ m : Pr, e = .returned (.agg #[.slice m.A1 m.n1 m.c1, .slice m.A2 m.n2 m.c2]) ∧ m.ok w' w'.heap.size ∧ m.hi w.heap.size ∧ m.pl = (k, v) ∧ Below w.heap.size w w'

set_option maxRecDepth 20000 in
set_option maxHeartbeats 1600000 in
theorem c_mTwin (w : World) {B : Nat} (m : Pr) (hm : m.ok w B) (hB : B ≤ w.heap.size) :
    Calls Try.prog 29 #[.agg #[.slice m.A1 m.n1 m.c1, .slice m.A2 m.n2 m.c2]] w (MTwinP w m.key m.vl) := by
  obtain ⟨h1, h2, hc1, hc2, hn1, hn2⟩ := hm
  go_enter Try.func29, Try.ntmps29
  go_wp2_with fail
  have bS := (Bk.new_ w 42 #[.slice m.A1 m.n1 m.c1, .slice m.A2 m.n2 m.c2]).alloc (.cells #[.slice none 0 0, .slice none 0 0] 42)
  have bT := Bk.new_ (w.alloc (.cells #[.slice m.A1 m.n1 m.c1, .slice m.A2 m.n2 m.c2] 42)) 42 #[.slice none 0 0, .slice none 0 0]
  have hb0 : Below w.heap.size w ((w.alloc (.cells #[.slice m.A1 m.n1 m.c1, .slice m.A2 m.n2 m.c2] 42)).alloc (.cells #[.slice none 0 0, .slice none 0 0] 42)) := ((Below.refl _ _).alloc (Nat.le_refl _) _).alloc (by simp) _
  have hz0 : ((w.alloc (.cells #[.slice m.A1 m.n1 m.c1, .slice m.A2 m.n2 m.c2] 42)).alloc (.cells #[.slice none 0 0, .slice none 0 0] 42)).heap.size = w.heap.size + 2 := by simp
  simp only [World.size_alloc] at bT
  obtain ⟨W0, hW0⟩ : ∃ W, W = (w.alloc (.cells #[.slice m.A1 m.n1 m.c1, .slice m.A2 m.n2 m.c2] 42)).alloc (.cells #[.slice none 0 0, .slice none 0 0] 42) := ⟨_, rfl⟩
  rw [← hW0] at bS bT hb0 hz0 ⊢
  clear hW0
  have hBW : B ≤ W0.drew.heap.size := by show B ≤ W0.heap.size; omega
  have HC1 := Lib.hid (c_sClone W0.drew (c := m.c1) (h1.below hb0 hB).drew hBW hn1)
  have HC2 : ∀ W, Below W0.drew.heap.size W0.drew W → Calls Try.prog 53 #[.slice m.A2 m.n2 m.c2] W (RetB 5 W m.vl) := fun W h => c_sClone W (c := m.c2) ((h2.below hb0 hB).drew.below h hBW) (Nat.le_trans hBW h.size) hn2
  have HC2 := Lib.hid HC2
  have HC := Lib.hid (fun (wc : World) (hk : Below (w.heap.size + 1) W0 wc) => (⟨(hk.cell (p := ⟨w.heap.size, 0, none⟩) (by dsimp only; omega)).trans (bS.cell 0), (hk.cell (p := ⟨w.heap.size, 1, none⟩) (by dsimp only; omega)).trans (bS.cell 1)⟩ :
    wc.cell? ⟨w.heap.size, 0, none⟩ = some (.slice m.A1 m.n1 m.c1) ∧ wc.cell? ⟨w.heap.size, 1, none⟩ = some (.slice m.A2 m.n2 m.c2)))
  go_region_held3 (fun W => W.cell? ⟨w.heap.size, 0, none⟩ = some (.slice m.A1 m.n1 m.c1) ∧ W.cell? ⟨w.heap.size, 1, none⟩ = some (.slice m.A2 m.n2 m.c2))
    ((refine HC.out _ ?_; first | exact (Below.refl _ _).drew | exact hq1 | exact hq2 | exact (hq2.setCell (Nat.le_refl _) _).setCell (Nat.le_refl _) _ | exact hq2.setCell (Nat.le_refl _) _))
    (first
      | (go_at_call 53; (with_reducible refine HC1.out.mono ?_); rintro e w1 ⟨v1, rfl, ho1, hb1⟩; obtain ⟨A1, c1, rfl, hc1'⟩ := ho1.shapeN (n := m.key.length) (bcs_length _); have hq1 : Below (w.heap.size + 1) W0 w1 := (Below.refl _ _).drew.trans (hb1.mono (by show _ ≤ W0.heap.size; omega)))
      | (go_at_call 53; (with_reducible refine (HC2.out _ hb1).mono ?_); rintro e w2 ⟨v2, rfl, ho2, hb2⟩; obtain ⟨A2, c2, rfl, hc2'⟩ := ho2.shapeN (n := m.vl.length) (bcs_length _); have hq2 : Below (w.heap.size + 1) W0 w2 := hq1.trans (hb2.mono (by have := hq1.size; omega)); have hz2 := hb2.size; have bT2 := (bT.drew.below hb1 (by show _ < W0.heap.size; omega)).below hb2 (by have := hb1.size; have h : W0.heap.size ≤ w1.heap.size := this; omega); have t0 := bT2.cell 0; have t1 := bT2.cell 1; have y0 := bT2.frz 0; have y1 := bT2.frz 1))
  have bT5 := (bT2.set_ 0 (.slice A1 m.key.length c1)).set_ 1 (.slice A2 m.vl.length c2)
  have g0 := bT5.cell 0
  have g1 := bT5.cell 1
  have hs1 : W0.drew.heap.size = w.heap.size + 2 := hz0
  have hs2 := hb1.size
  have o1 := ownsRow_setCell_below (ownsRow_setCell_below (ho1.below hb2 (Nat.le_refl _)) (a := ⟨w.heap.size + 1, 0, none⟩) (by dsimp only; omega) (.slice A1 m.key.length c1)) (a := ⟨w.heap.size + 1, 1, none⟩) (by dsimp only; omega) (.slice A2 m.vl.length c2)
  have o2 := ownsRow_setCell_below (ownsRow_setCell_below ho2 (a := ⟨w.heap.size + 1, 0, none⟩) (by dsimp only; omega) (.slice A1 m.key.length c1)) (a := ⟨w.heap.size + 1, 1, none⟩) (by dsimp only; omega) (.slice A2 m.vl.length c2)
  have hbf : Below w.heap.size w ((w2.setCell ⟨w.heap.size + 1, 0, none⟩ (.slice A1 m.key.length c1)).setCell ⟨w.heap.size + 1, 1, none⟩ (.slice A2 m.vl.length c2)) := ((hb0.trans (hq2.mono (Nat.le_succ _))).setCell (Nat.le_succ _) _).setCell (Nat.le_succ _) _
  have hge1 := fun a ha => (Lec.Own.ge ho1 a ha)
  have hge2 := fun a ha => (Lec.Own.ge ho2 a ha)
  have hl1 := h1.1
  have hl2 := h2.1
  rw [bcs_length] at hl1 hl2
  clear t0 t1 y0 y1
  go_wp2
  refine bodyPost_ret (v := .agg #[.slice A1 m.key.length c1, .slice A2 m.vl.length c2]) ?_ rfl ?_
  · simp [results, Try.results29, go_sem, g0, g1]
  · exact ⟨⟨A1, m.key.length, c1, m.key, A2, m.vl.length, c2, m.vl⟩, rfl, ⟨Lec.Own.rd o1, Lec.Own.rd o2, hc1', hc2', by dsimp only; omega, by dsimp only; omega⟩, ⟨fun a ha => by have := hge1 a ha; omega, fun a ha => by have := hge2 a ha; omega⟩, rfl, hbf⟩
end Go.Proofs.Ytjkjlekfeelfpaa
