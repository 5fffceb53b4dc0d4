/- Layer 23: two stretches change places: rotate. -/
import Derived.Test.YtjkjlekfeelfpaaMsC
namespace Go.Proofs.Ytjkjlekfeelfpaa
open Go.RowKit Go.Lec Go.Op
set_option maxRecDepth 100000 in
set_option maxHeartbeats 4000000 in
theorem c_rot (w : World) {g n c a m b : Nat} {U P Q D : List Pr} {cv : Value} (hP : PrB 42 w g (U ++ P ++ Q ++ D)) (hn : (U ++ P ++ Q ++ D).length = n) (hnc : n ≤ c) (hn2 : n ≤ 100000)
    (ha : a = U.length) (hm : m = U.length + P.length) (hb : b = U.length + P.length + Q.length) (hp0 : 0 < P.length) (hq0 : 0 < Q.length) :
    Calls Try.prog 74 #[.slice (some ⟨g, 0, none⟩) n c, .int .i64 (a : Int), .int .i64 (m : Int), .int .i64 (b : Int), cv] w (MovP w g (U ++ Q ++ P ++ D)) := by
  obtain ⟨F, hF⟩ : ∃ F, F = U ++ Q ++ P ++ D := ⟨_, rfl⟩
  rw [← hF]
  have hst : ∃ U' Lp Rp D' : List Pr, PrB 42 w g (U' ++ Lp ++ Rp ++ D') ∧ U'.length + Lp.length = m ∧ Lp.length = m - a ∧ Rp.length = b - m ∧ 0 < Lp.length ∧ 0 < Rp.length ∧ (U' ++ Lp ++ Rp ++ D').length = n ∧ U' ++ Rp ++ Lp ++ D' = F :=
    ⟨U, P, Q, D, hP, by omega, by omega, by omega, hp0, hq0, hn, hF.symm⟩
  have w1 : IntKind.i64.wrap ((m : Int) - (a : Int)) = ((m - a : Nat) : Int) := by
    simp only [List.length_append] at hn
    rw [IntWalk.i64_in _ (by omega)]; omega
  have w2 : IntKind.i64.wrap ((b : Int) - (m : Int)) = ((b - m : Nat) : Int) := by
    simp only [List.length_append] at hn
    rw [IntWalk.i64_in _ (by omega)]; omega
  have hbn : b ≤ n := by simp only [List.length_append] at hn; omega
  obtain ⟨i0, hi0⟩ : ∃ x, x = m - a := ⟨_, rfl⟩
  obtain ⟨j0, hj0⟩ : ∃ x, x = b - m := ⟨_, rfl⟩
  rw [← hi0] at w1 hst
  rw [← hj0] at w2 hst
  clear hP hn ha hm hb hp0 hq0 hF hi0 hj0
  go_enter Try.func74, Try.ntmps74
  go_wp2
  go_loopw [10, 11] (fun vi vj wr => ∃ (i j : Nat) (U' Lp Rp D' : List Pr), vi = .int .i64 (i : Int) ∧ vj = .int .i64 (j : Int) ∧ PrB 42 wr g (U' ++ Lp ++ Rp ++ D') ∧ U'.length + Lp.length = m ∧ Lp.length = i ∧ Rp.length = j ∧ 0 < i ∧ 0 < j ∧ (U' ++ Lp ++ Rp ++ D').length = n ∧ U' ++ Rp ++ Lp ++ D' = F ∧ Kb [g] w wr) (fun vi vj _ => (intOf vi).toNat + (intOf vj).toNat)
  case atStart =>
    obtain ⟨U', Lp, Rp, D', h1, h2, h3, h4, h5, h6, h7, h8⟩ := hst
    exact ⟨i0, j0, U', Lp, Rp, D', rfl, rfl, h1, h2, h3, h4, by omega, by omega, h7, h8, Kb.refl _ _⟩
  case round =>
    clear hst
    obtain ⟨i, j, U', Lp, Rp, D', rfl, rfl, hPr, hm, hi, hj, hi0, hj0, hn, hF, hkb⟩ := hrel
    have hn' := hn
    simp only [List.length_append] at hn'
    obtain ⟨u, hu⟩ : ∃ u, u = U'.length := ⟨_, rfl⟩
    have w3 : IntKind.i64.wrap ((m : Int) - (i : Int)) = (u : Int) := by rw [IntWalk.i64_in _ (by omega)]; omega
    by_cases hij : i = j
    · have hij2 : ((i : Int) != (j : Int)) = false := by simp [hij]
      have HC := Lib.hid (c_swr wr (cv := cv) (a := u) (b := m) (k0 := i) (U := U') (P := Lp) (X := []) (Q := Rp) (D := D') (by simpa using hPr) (by omega) (by simpa using hn) hnc hn2 hu (by simp; omega) hi.symm)
      have HF := Lib.hid hF
      have Hkb := Lib.hid hkb
      subst hij
      clear hPr hm hi hj hn hn' hF hu hkb
      go_wp2_with (first | (go_at_call 75; refine HC.out.mono ?_; rintro e w4 ⟨rfl, h4, hk4⟩))
      go_end0
      refine ⟨rfl, ?_, Hkb.out.trans hk4 (fun b hb => .inl hb)⟩
      rw [← HF.out]
      simpa using h4
    · have hij2 : ((i : Int) == (j : Int)) = false := by rw [beq_eq_false_iff_ne]; omega
      by_cases hgt : j < i
      · have hgt' : (j : Int) < (i : Int) := by omega
        obtain ⟨L1, L2, hL, hL1⟩ : ∃ L1 L2 : List Pr, Lp = L1 ++ L2 ∧ L1.length = j := ⟨Lp.take j, Lp.drop j, (List.take_append_drop _ _).symm, by rw [List.length_take]; omega⟩
        have hi2 : L1.length + L2.length = i := by rw [← hi, hL, List.length_append]
        have hL2 : L2.length = i - j := by omega
        have HC := Lib.hid (c_swr wr (cv := cv) (a := u) (b := m) (k0 := j) (U := U') (P := L1) (X := L2) (Q := Rp) (D := D') (by rw [hL] at hPr; simpa only [List.append_assoc] using hPr) (by omega) (by rw [hL] at hn; simpa only [List.append_assoc] using hn) hnc hn2 hu (by omega) hL1.symm)
        have w4 : IntKind.i64.wrap ((i : Int) - (j : Int)) = ((i - j : Nat) : Int) := by rw [IntWalk.i64_in _ (by omega)]; omega
        have hnew : (U' ++ Rp).length + L2.length = m ∧ (U' ++ Rp ++ L2 ++ L1 ++ D').length = n ∧ U' ++ Rp ++ L1 ++ L2 ++ D' = F := by
          refine ⟨by simp only [List.length_append]; omega, ?_, by rw [← hF, hL]; simp only [List.append_assoc]⟩
          rw [← hn, hL]; simp only [List.length_append]; omega
        have Hnew := Lib.hid hnew
        have Hkb := Lib.hid hkb
        obtain ⟨d, hd⟩ : ∃ d, d = i - j := ⟨_, rfl⟩
        rw [← hd] at w4 hL2
        have Hd := Lib.hid hd
        have HL := Lib.hid (show L2.length = d ∧ L1.length = j from ⟨hL2, hL1⟩)
        clear hPr hm hi hj hn hn' hF hu hkb hL hnew hL1 hL2 hi2 hd
        go_wp2_with (first | (go_at_call 75; refine HC.out.mono ?_; rintro e w4 ⟨rfl, h4, hk4⟩))
        refine ⟨⟨d, j, U' ++ Rp, L2, L1, D', by go_num, rfl, h4, Hnew.out.1, HL.out.1, HL.out.2, by have := Hd.out; omega, hj0, Hnew.out.2.1, Hnew.out.2.2, Hkb.out.trans hk4 (fun b hb => .inl hb)⟩, ?_⟩
        have := Hd.out
        simp [intOf]
        omega
      · have hgt' : ¬ (j : Int) < (i : Int) := by omega
        obtain ⟨R1, R2, hR, hR2⟩ : ∃ R1 R2 : List Pr, Rp = R1 ++ R2 ∧ R2.length = i := ⟨Rp.take (j - i), Rp.drop (j - i), (List.take_append_drop _ _).symm, by rw [List.length_drop]; omega⟩
        have hj2 : R1.length + R2.length = j := by rw [← hj, hR, List.length_append]
        have hR1 : R1.length = j - i := by omega
        obtain ⟨v, hv⟩ : ∃ v, v = m + j - i := ⟨_, rfl⟩
        have HC := Lib.hid (c_swr wr (cv := cv) (a := u) (b := v) (k0 := i) (U := U') (P := Lp) (X := R1) (Q := R2) (D := D') (by rw [hR] at hPr; simpa only [List.append_assoc] using hPr) (by omega) (by rw [hR] at hn; simpa only [List.append_assoc] using hn) hnc hn2 hu (by omega) hi.symm)
        have w4 : IntKind.i64.wrap ((j : Int) - (i : Int)) = ((j - i : Nat) : Int) := by rw [IntWalk.i64_in _ (by omega)]; omega
        have w5 : IntKind.i64.wrap ((m : Int) + (j : Int)) = ((m + j : Nat) : Int) := by rw [IntWalk.i64_in _ (by omega)]; omega
        have w6 : IntKind.i64.wrap ((m : Int) + (j : Int) - (i : Int)) = (v : Int) := by rw [IntWalk.i64_in _ (by omega)]; omega
        have hnew : U'.length + R2.length = m ∧ (U' ++ R2 ++ R1 ++ (Lp ++ D')).length = n ∧ U' ++ R1 ++ R2 ++ (Lp ++ D') = F := by
          refine ⟨by omega, ?_, by rw [← hF, hR]; simp only [List.append_assoc]⟩
          rw [← hn, hR]; simp only [List.length_append]; omega
        have Hnew := Lib.hid hnew
        have Hkb := Lib.hid hkb
        obtain ⟨d, hd⟩ : ∃ d, d = j - i := ⟨_, rfl⟩
        rw [← hd] at w4 hR1
        have Hd := Lib.hid (show d = j - i ∧ i < j from ⟨hd, by omega⟩)
        have HL := Lib.hid (show R1.length = d ∧ R2.length = i from ⟨hR1, hR2⟩)
        clear hPr hm hi hj hn hn' hF hu hkb hR hnew hR1 hR2 hj2 hd hv
        go_wp2_with (first | (go_at_call 75; refine HC.out.mono ?_; rintro e w4 ⟨rfl, h4, hk4⟩))
        refine ⟨⟨i, d, U', R2, R1, Lp ++ D', rfl, by go_num, by simpa only [List.append_assoc] using h4, Hnew.out.1, HL.out.2, HL.out.1, hi0, by have := Hd.out; omega, Hnew.out.2.1, Hnew.out.2.2, Hkb.out.trans hk4 (fun b hb => .inl hb)⟩, ?_⟩
        have := Hd.out
        simp [intOf]
        omega
end Go.Proofs.Ytjkjlekfeelfpaa
