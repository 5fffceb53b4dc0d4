/- Layer 23: stretches change places: swapRange, rotate. -/
import Derived.Test.YtjkjlekfeelfpaaMsB
namespace Go.Lec
open Go.RowKit
theorem swp_far (A B C : List Pr) (p q : Pr) (h0 : A.length < (A ++ p :: (B ++ q :: C)).length) (h1 : A.length + 1 + B.length < (A ++ p :: (B ++ q :: C)).length) : swp (A ++ p :: (B ++ q :: C)) A.length (A.length + 1 + B.length) h0 h1 = A ++ q :: (B ++ p :: C) := by
  unfold swp
  have e1 : (A ++ p :: (B ++ q :: C))[A.length] = p := by simp
  have e2 : (A ++ p :: (B ++ q :: C))[A.length + 1 + B.length] = q := by
    rw [List.getElem_append_right (by omega)]
    have : A.length + 1 + B.length - A.length = B.length + 1 := by omega
    simp [this]
  rw [e1, e2, List.set_append_right _ _ (by omega)]
  rw [Nat.sub_self, List.set_cons_zero, List.set_append_right _ _ (by omega)]
  rw [show A.length + 1 + B.length - A.length = B.length + 1 from by omega, List.set_cons_succ, List.set_append_right _ _ (by omega), Nat.sub_self, List.set_cons_zero]
theorem PrB.swapFar {t : TypeId} {w : World} {g : Nat} {A B C : List Pr} {p q : Pr} (h : PrB t w g (A ++ p :: (B ++ q :: C))) {i j : Nat} (hi : i = A.length) (hj : j = A.length + 1 + B.length) :
    PrB t ((((w.setCell ⟨g, i * 2, none⟩ (.slice q.A1 q.n1 q.c1)).setCell ⟨g, i * 2 + 1, none⟩ (.slice q.A2 q.n2 q.c2)).setCell ⟨g, j * 2, none⟩ (.slice p.A1 p.n1 p.c1)).setCell ⟨g, j * 2 + 1, none⟩ (.slice p.A2 p.n2 p.c2)) g (A ++ q :: (B ++ p :: C)) ∧
    (w.cell? ⟨g, i * 2, none⟩ = some (.slice p.A1 p.n1 p.c1) ∧ w.cell? ⟨g, i * 2 + 1, none⟩ = some (.slice p.A2 p.n2 p.c2)) ∧ w.cell? ⟨g, j * 2, none⟩ = some (.slice q.A1 q.n1 q.c1) ∧ w.cell? ⟨g, j * 2 + 1, none⟩ = some (.slice q.A2 q.n2 q.c2) := by
  subst hi hj
  have h0 : A.length < (A ++ p :: (B ++ q :: C)).length := by simp
  have h1 : A.length + 1 + B.length < (A ++ p :: (B ++ q :: C)).length := by simp; omega
  have e1 : (A ++ p :: (B ++ q :: C))[A.length] = p := by simp
  have e2 : (A ++ p :: (B ++ q :: C))[A.length + 1 + B.length] = q := by
    rw [List.getElem_append_right (by omega)]
    have : A.length + 1 + B.length - A.length = B.length + 1 := by omega
    simp [this]
  have hs := h.swap h0 h1
  rw [swp_far, e1, e2] at hs
  have c0 := h.cell h0
  have c1 := h.cell h1
  rw [e1] at c0
  rw [e2] at c1
  exact ⟨hs, c0, c1⟩
theorem PrB.swapNext {t : TypeId} {w : World} {g : Nat} {A C : List Pr} {y x : Pr} (h : PrB t w g (A ++ y :: x :: C)) {i j : Nat} (hi : i = A.length + 1) (hj : j = A.length) :
    PrB t ((((w.setCell ⟨g, i * 2, none⟩ (.slice y.A1 y.n1 y.c1)).setCell ⟨g, i * 2 + 1, none⟩ (.slice y.A2 y.n2 y.c2)).setCell ⟨g, j * 2, none⟩ (.slice x.A1 x.n1 x.c1)).setCell ⟨g, j * 2 + 1, none⟩ (.slice x.A2 x.n2 x.c2)) g (A ++ x :: y :: C) ∧
    (w.cell? ⟨g, i * 2, none⟩ = some (.slice x.A1 x.n1 x.c1) ∧ w.cell? ⟨g, i * 2 + 1, none⟩ = some (.slice x.A2 x.n2 x.c2)) ∧ w.cell? ⟨g, j * 2, none⟩ = some (.slice y.A1 y.n1 y.c1) ∧ w.cell? ⟨g, j * 2 + 1, none⟩ = some (.slice y.A2 y.n2 y.c2) := by
  subst hi hj
  have h1 : A.length + 1 < (A ++ y :: x :: C).length := by simp only [List.length_append, List.length_cons]; omega
  have h0 : A.length < (A ++ y :: x :: C).length := by simp only [List.length_append, List.length_cons]; omega
  have e1 : (A ++ y :: x :: C)[A.length] = y := by simp
  have e2 : (A ++ y :: x :: C)[A.length + 1] = x := by rw [List.getElem_append_right (by omega)]; simp
  have hs := h.swap h1 h0
  rw [swp_next, e1, e2] at hs
  have c0 := h.cell h0
  have c1 := h.cell h1
  rw [e1] at c0
  rw [e2] at c1
  exact ⟨hs, c1, c0⟩
end Go.Lec
namespace Go.Proofs.Ytjkjlekfeelfpaa
open Go.RowKit Go.Lec Go.Op
/-- What moving pairs leaves. -/
def MovP (w : World) (g : Nat) (L : List Pr) (e : Ending) (w' : World) : Prop := e = .returned (.tuple #[]) ∧ PrB 42 w' g L ∧ Kb [g] w w'
set_option maxRecDepth 100000 in
set_option maxHeartbeats 4000000 in
theorem c_swr (w : World) {g n c k0 a b : Nat} {U P X Q D : List Pr} {cv : Value} (hP : PrB 42 w g (U ++ P ++ X ++ Q ++ D)) (hPQ : Q.length = P.length) (hn : (U ++ P ++ X ++ Q ++ D).length = n) (hnc : n ≤ c) (hn2 : n ≤ 100000)
    (ha : a = U.length) (hb : b = U.length + P.length + X.length) (hk0 : k0 = P.length) :
    Calls Try.prog 75 #[.slice (some ⟨g, 0, none⟩) n c, .int .i64 (a : Int), .int .i64 (b : Int), .int .i64 (k0 : Int), cv] w (MovP w g (U ++ Q ++ X ++ P ++ D)) := by
  have Ha := Lib.hid ha
  have Hb := Lib.hid hb
  have Hk := Lib.hid hk0
  have HQ := Lib.hid hPQ
  simp only [List.length_append] at hn
  have Hn := Lib.hid hn
  have hbn : b + k0 ≤ n := by omega
  have hab : a + k0 ≤ b := by omega
  clear ha hb hk0 hPQ hn
  go_enter Try.func75, Try.ntmps75
  go_wp2
  go_loopw [10] (fun i wr => ∃ k : Nat, i = .int .i64 (k : Int) ∧ k ≤ k0 ∧ PrB 42 wr g (U ++ (Q.take k ++ P.drop k) ++ X ++ (P.take k ++ Q.drop k) ++ D) ∧ Kb [g] w wr) (fun i _ => k0 - (intOf i).toNat)
  case atStart => exact ⟨0, rfl, Nat.zero_le _, by simpa using hP, Kb.refl _ _⟩
  case round =>
    obtain ⟨k, rfl, hk, hPr, hkb⟩ := hrel
    clear hP
    by_cases hlt : k < k0
    · have hkP : k < P.length := by have := Hk.out; omega
      have hkQ : k < Q.length := by have := Hk.out; have := HQ.out; omega
      obtain ⟨p, hp⟩ : ∃ p, p = P[k] := ⟨_, rfl⟩
      obtain ⟨q, hq⟩ : ∃ q, q = Q[k] := ⟨_, rfl⟩
      have dP : P.drop k = p :: P.drop (k + 1) := by rw [hp]; exact List.drop_eq_getElem_cons hkP
      have dQ : Q.drop k = q :: Q.drop (k + 1) := by rw [hq]; exact List.drop_eq_getElem_cons hkQ
      have tP : P.take (k + 1) = P.take k ++ [p] := by rw [hp]; exact List.take_succ_eq_append_getElem hkP
      have tQ : Q.take (k + 1) = Q.take k ++ [q] := by rw [hq]; exact List.take_succ_eq_append_getElem hkQ
      have hrow : U ++ (Q.take k ++ P.drop k) ++ X ++ (P.take k ++ Q.drop k) ++ D = (U ++ Q.take k) ++ p :: ((P.drop (k + 1) ++ X ++ P.take k) ++ q :: (Q.drop (k + 1) ++ D)) := by rw [dP, dQ]; simp
      have hrow2 : (U ++ Q.take k) ++ q :: ((P.drop (k + 1) ++ X ++ P.take k) ++ p :: (Q.drop (k + 1) ++ D)) = U ++ (Q.take (k + 1) ++ P.drop (k + 1)) ++ X ++ (P.take (k + 1) ++ Q.drop (k + 1)) ++ D := by rw [tP, tQ]; simp
      rw [hrow] at hPr
      obtain ⟨hfin, c0, c1⟩ := hPr.swapFar (i := a + k) (j := b + k) (by rw [List.length_append, List.length_take, Nat.min_eq_left (by omega), Ha.out]) (by
        have := Ha.out; have := Hb.out; have := HQ.out
        simp only [List.length_append, List.length_take, List.length_drop]
        omega)
      have z := hPr.frz
      rw [hrow2] at hfin
      have Hfin := Lib.hid hfin
      obtain ⟨k1, k2, k3⟩ := swap_cells (p := a + k) (r := b + k) (a1 := .slice q.A1 q.n1 q.c1) (a2 := .slice q.A2 q.n2 q.c2) (b1 := .slice p.A1 p.n1 p.c1) (by omega) c0.1 c0.2 c1.1 c1.2
      obtain ⟨pa, hpa⟩ : ∃ x, x = a + k := ⟨_, rfl⟩
      obtain ⟨pb, hpb⟩ : ∃ x, x = b + k := ⟨_, rfl⟩
      have w1' : IntKind.i64.wrap ((a : Int) + (k : Int)) = (pa : Int) := by rw [IntWalk.i64_in _ (by omega)]; omega
      have w2' : IntKind.i64.wrap ((b : Int) + (k : Int)) = (pb : Int) := by rw [IntWalk.i64_in _ (by omega)]; omega
      have w3' : IntKind.i64.wrap (pa : Int) = (pa : Int) := IntWalk.i64_in _ (by omega)
      have w4' : IntKind.i64.wrap (pb : Int) = (pb : Int) := IntWalk.i64_in _ (by omega)
      have i1 : (0 : Int) ≤ (pa : Int) := by omega
      have i2 : (pa : Int) < (n : Int) := by omega
      have i3 : (0 : Int) ≤ (pb : Int) := by omega
      have i4 : (pb : Int) < (n : Int) := by omega
      rw [← hpa, ← hpb] at Hfin k2 k3
      rw [← hpa] at k1 c0
      rw [← hpb] at c1
      clear hPr hrow hrow2 dP dQ tP tQ hp hq hfin hpa hpb hkP hkQ
      go_wp2
      have hHeld : (fun W : World => (W.cell? ⟨g, pa * 2, none⟩ = some (.slice p.A1 p.n1 p.c1) ∧ W.cell? ⟨g, pa * 2 + 1, none⟩ = some (.slice p.A2 p.n2 p.c2)) ∧ W.cell? ⟨g, pb * 2, none⟩ = some (.slice q.A1 q.n1 q.c1) ∧ W.cell? ⟨g, pb * 2 + 1, none⟩ = some (.slice q.A2 q.n2 q.c2)) wr.drew := ⟨c0, c1⟩
      refine wp_region_U (S := fun W : World => (W.cell? ⟨g, pa * 2, none⟩ = some (.slice p.A1 p.n1 p.c1) ∧ W.cell? ⟨g, pa * 2 + 1, none⟩ = some (.slice p.A2 p.n2 p.c2)) ∧ W.cell? ⟨g, pb * 2, none⟩ = some (.slice q.A1 q.n1 q.c1) ∧ W.cell? ⟨g, pb * 2 + 1, none⟩ = some (.slice q.A2 q.n2 q.c2)) (ks := [13, 19]) (by kernel_rfl) ?_
      simp only [List.size_toArray, List.length_cons, List.length_nil, Nat.reduceAdd]
      refine uPure (i := 0) (v := ?_) rfl (by kernel_rfl) (by kernel_rfl) (by kernel_rfl) (by kernel_rfl) (fun _ _ _ h => h) (by rfl) ?_ ?_
      rotate_left
      · (intro w; go_simp; try with_reducible rfl)
      try simp only [Act.put, List.setIfInBounds_toArray, List.set_cons_zero, List.set_cons_succ]
      refine uPure (i := 1) (v := ?_) rfl (by kernel_rfl) (by kernel_rfl) (by kernel_rfl) (by kernel_rfl) (fun _ _ _ h => h) (by rfl) ?_ ?_
      rotate_left
      · (intro w; go_simp; try with_reducible rfl)
      try simp only [Act.put, List.setIfInBounds_toArray, List.set_cons_zero, List.set_cons_succ]
      refine uPure (i := 2) (v := ?_) rfl (by kernel_rfl) (by kernel_rfl) (by kernel_rfl) (by kernel_rfl) (fun _ _ _ h => h) (by rfl) ?_ ?_
      rotate_left
      · (intro w; go_simp; try with_reducible rfl)
      try simp only [Act.put, List.setIfInBounds_toArray, List.set_cons_zero, List.set_cons_succ]
      refine uPure (i := 3) (v := ?_) rfl (by kernel_rfl) (by kernel_rfl) (by kernel_rfl) (by kernel_rfl) (fun _ _ _ h => h) (by rfl) ?_ ?_
      rotate_left
      · (intro w; go_simp; try with_reducible rfl)
      try simp only [Act.put, List.setIfInBounds_toArray, List.set_cons_zero, List.set_cons_succ]
      refine uPure (i := 4) (v := ?_) rfl (by kernel_rfl) (by kernel_rfl) (by kernel_rfl) (by kernel_rfl) (fun _ _ _ h => h) (by rfl) ?_ ?_
      rotate_left
      · (intro w; go_simp; try with_reducible rfl)
      try simp only [Act.put, List.setIfInBounds_toArray, List.set_cons_zero, List.set_cons_succ]
      refine uPure (i := 5) (v := ?_) rfl (by kernel_rfl) (by kernel_rfl) (by kernel_rfl) (by kernel_rfl) (fun _ _ _ h => h) (by rfl) ?_ ?_
      rotate_left
      · (intro w; go_simp; try with_reducible rfl)
      try simp only [Act.put, List.setIfInBounds_toArray, List.set_cons_zero, List.set_cons_succ]
      refine uPure (i := 6) (v := ?_) rfl (by kernel_rfl) (by kernel_rfl) (by kernel_rfl) (by kernel_rfl) (fun _ _ _ h => h) (by rfl) ?_ ?_
      rotate_left
      · (intro w; go_simp; try with_reducible rfl)
      try simp only [Act.put, List.setIfInBounds_toArray, List.set_cons_zero, List.set_cons_succ]
      refine uPure (i := 7) (v := ?_) rfl (by kernel_rfl) (by kernel_rfl) (by kernel_rfl) (by kernel_rfl) (fun _ _ _ h => h) (by rfl) ?_ ?_
      rotate_left
      · (intro w; go_simp; try with_reducible rfl)
      try simp only [Act.put, List.setIfInBounds_toArray, List.set_cons_zero, List.set_cons_succ]
      refine uPure (i := 8) (v := ?_) rfl (by kernel_rfl) (by kernel_rfl) (by kernel_rfl) (by kernel_rfl) (fun _ _ _ h => h) (by rfl) ?_ ?_
      rotate_left
      · (intro w; go_simp; try with_reducible rfl)
      try simp only [Act.put, List.setIfInBounds_toArray, List.set_cons_zero, List.set_cons_succ]
      refine uPure (i := 9) (v := ?_) rfl (by kernel_rfl) (by kernel_rfl) (by kernel_rfl) (by kernel_rfl) (fun _ _ _ h => h) (by rfl) ?_ ?_
      rotate_left
      · (intro w; go_simp; try with_reducible rfl)
      try simp only [Act.put, List.setIfInBounds_toArray, List.set_cons_zero, List.set_cons_succ]
      refine uPure (i := 10) (v := ?_) rfl (by kernel_rfl) (by kernel_rfl) (by kernel_rfl) (by kernel_rfl) (fun _ _ _ h => h) (by rfl) ?_ ?_
      rotate_left
      · (intro w; go_simp; try with_reducible rfl)
      try simp only [Act.put, List.setIfInBounds_toArray, List.set_cons_zero, List.set_cons_succ]
      refine uPure (i := 11) (v := ?_) rfl (by kernel_rfl) (by kernel_rfl) (by kernel_rfl) (by kernel_rfl) (fun _ _ _ h => h) (by rfl) ?_ ?_
      rotate_left
      · (intro w; go_simp; try with_reducible rfl)
      try simp only [Act.put, List.setIfInBounds_toArray, List.set_cons_zero, List.set_cons_succ]
      refine uPure (i := 12) (v := ?_) rfl (by kernel_rfl) (by kernel_rfl) (by kernel_rfl) (by kernel_rfl) (fun _ _ _ h => h) (by rfl) ?_ ?_
      rotate_left
      · (intro w; go_simp; try with_reducible rfl)
      try simp only [Act.put, List.setIfInBounds_toArray, List.set_cons_zero, List.set_cons_succ]
      refine uPure (i := 14) (v := ?_) rfl (by kernel_rfl) (by kernel_rfl) (by kernel_rfl) (by kernel_rfl) (fun _ _ _ h => h) (by rfl) ?_ ?_
      rotate_left
      · (intro w; go_simp; try with_reducible rfl)
      try simp only [Act.put, List.setIfInBounds_toArray, List.set_cons_zero, List.set_cons_succ]
      refine uPure (i := 15) (v := ?_) rfl (by kernel_rfl) (by kernel_rfl) (by kernel_rfl) (by kernel_rfl) (fun _ _ _ h => h) (by rfl) ?_ ?_
      rotate_left
      · (intro w; go_simp; try with_reducible rfl)
      try simp only [Act.put, List.setIfInBounds_toArray, List.set_cons_zero, List.set_cons_succ]
      refine uPure (i := 16) (v := ?_) rfl (by kernel_rfl) (by kernel_rfl) (by kernel_rfl) (by kernel_rfl) (fun _ _ _ h => h) (by rfl) ?_ ?_
      rotate_left
      · (intro w; go_simp; try with_reducible rfl)
      try simp only [Act.put, List.setIfInBounds_toArray, List.set_cons_zero, List.set_cons_succ]
      refine uPure (i := 17) (v := ?_) rfl (by kernel_rfl) (by kernel_rfl) (by kernel_rfl) (by kernel_rfl) (fun _ _ _ h => h) (by rfl) ?_ ?_
      rotate_left
      · (intro w; go_simp; try with_reducible rfl)
      try simp only [Act.put, List.setIfInBounds_toArray, List.set_cons_zero, List.set_cons_succ]
      refine uPure (i := 18) (v := ?_) rfl (by kernel_rfl) (by kernel_rfl) (by kernel_rfl) (by kernel_rfl) (fun _ _ _ h => h) (by rfl) ?_ ?_
      rotate_left
      · (intro w; go_simp; try with_reducible rfl)
      try simp only [Act.put, List.setIfInBounds_toArray, List.set_cons_zero, List.set_cons_succ]
      refine uTake (i := 13) (v := ?_) rfl (by kernel_rfl) (by kernel_rfl) (by kernel_rfl) (by kernel_rfl) (fun _ _ _ h => h) hHeld (by rfl) ?_ ?_
      rotate_left
      · (intro w hSw; (try dsimp only at hSw); go_simp; try with_reducible rfl)
      try simp only [Act.put, List.setIfInBounds_toArray, List.set_cons_zero, List.set_cons_succ]
      refine uTake (i := 19) (v := ?_) rfl (by kernel_rfl) (by kernel_rfl) (by kernel_rfl) (by kernel_rfl) (fun _ _ _ h => h) hHeld (by rfl) ?_ ?_
      rotate_left
      · (intro w hSw; (try dsimp only at hSw); go_simp; try with_reducible rfl)
      try simp only [Act.put, List.setIfInBounds_toArray, List.set_cons_zero, List.set_cons_succ]
      refine uPure (i := 20) (v := ?_) rfl (by kernel_rfl) (by kernel_rfl) (by kernel_rfl) (by kernel_rfl) (fun _ _ _ h => h) (by rfl) ?_ ?_
      rotate_left
      · (intro w; go_simp; try with_reducible rfl)
      try simp only [Act.put, List.setIfInBounds_toArray, List.set_cons_zero, List.set_cons_succ]
      refine uStep (i := 21) rfl (by kernel_rfl) (fun K hK => ?_)
      go_simp
      refine hK.out _ _ (fun h => absurd h (by decide)) ?_
      clear hK K
      try simp only [Act.put, List.setIfInBounds_toArray, List.set_cons_zero, List.set_cons_succ]
      refine uPure (i := 22) (v := ?_) rfl (by kernel_rfl) (by kernel_rfl) (by kernel_rfl) (by kernel_rfl) (fun _ _ _ h => h) (by rfl) ?_ ?_
      rotate_left
      · (intro w; go_simp; try with_reducible rfl)
      try simp only [Act.put, List.setIfInBounds_toArray, List.set_cons_zero, List.set_cons_succ]
      refine uStep (i := 23) rfl (by kernel_rfl) (fun K hK => ?_)
      go_simp
      refine hK.out _ _ (fun h => absurd h (by decide)) ?_
      clear hK K
      try simp only [Act.put, List.setIfInBounds_toArray, List.set_cons_zero, List.set_cons_succ]
      refine uDone (by kernel_rfl) ?_ _
      go_wp2
      refine ⟨⟨k + 1, by go_num, by omega, Hfin.out.drew, ((((hkb.setCell (p := ⟨g, pa * 2, none⟩) (.inl (by simp)) _).setCell (p := ⟨g, pa * 2 + 1, none⟩) (.inl (by simp)) _).setCell (p := ⟨g, pb * 2, none⟩) (.inl (by simp)) _).setCell (p := ⟨g, pb * 2 + 1, none⟩) (.inl (by simp)) _).drew⟩, by simp [intOf]; omega⟩
    · obtain rfl : k = k0 := by omega
      have hfin : PrB 42 wr g (U ++ Q ++ X ++ P ++ D) := by
        have e1 : Q.take k = Q := List.take_of_length_le (by have := Hk.out; have := HQ.out; omega)
        have e2 : P.take k = P := List.take_of_length_le (by have := Hk.out; omega)
        have e3 : P.drop k = [] := List.drop_eq_nil_iff.2 (by have := Hk.out; omega)
        have e4 : Q.drop k = [] := List.drop_eq_nil_iff.2 (by have := Hk.out; have := HQ.out; omega)
        rw [e1, e2, e3, e4, List.append_nil, List.append_nil] at hPr
        exact hPr
      go_wp2
      go_end0
      exact ⟨rfl, hfin, hkb⟩
end Go.Proofs.Ytjkjlekfeelfpaa
