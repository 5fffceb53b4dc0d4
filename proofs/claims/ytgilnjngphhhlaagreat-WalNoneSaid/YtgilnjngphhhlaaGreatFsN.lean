/- Layer 1: an operation begins: the walk of op. -/
import Derived.Test.YtgilnjngphhhlaaGreatFsK
namespace Go.Proofs.YtgilnjngphhhlaaGreat
open Go.RowKit Go.Lec Go.Fsy Go.Op Go.Maps
/-- What 'begin' answers: the number of the operation, and why not. -/
def OpP (X I : Nat → Prop) (w : World) (fb : Nat) (s : St) (e : Ending) (w' : World) : Prop :=
  ∃ n : Int, e = .returned (.tuple #[.int .i64 n, .int .i64 (Fsy.begin s).2]) ∧ ((Fsy.begin s).2 = 0 → n = ((Fsy.begin s).1.cnt : Int)) ∧ ∃ X' I', FsP X' I' w' fb (Fsy.begin s).1 ∧ Grow X I w X' I' w'
set_option maxRecDepth 100000 in
set_option maxHeartbeats 800000 in
theorem c_op (w : World) {X I : Nat → Prop} {fb N : Nat} {s : St} (h : FsP X I w fb s) (hi : Fsy.Inv s N) (hN : N ≤ 1048575) (hp : s.pl.ok) :
    Calls Tryz.prog 38 #[ptrV fb] w (OpP X I w fb s) := by
  obtain ⟨G, hG⟩ := h
  have q := hG.bk.cell
  have z := hG.bk.frz
  have hcnt := hi.nCnt
  unfold fsCs at q
  have c0 := q 0
  have H0 := Lib.hid (c_is w fb (q 0))
  have hXfb := hG.xfb
  cases hd : s.died with
  | true =>
    have hbg : Fsy.begin s = (s, 12) := by unfold Fsy.begin; rw [hd]; rfl
    unfold OpP
    rw [hbg]
    rw [hd] at q
    have HG := Lib.hid hG
    clear hG c0 hd hbg
    unfold ptrV
    go_enter Tryz.func38, Tryz.ntmps38
    go_wp2_with (first | (go_at_call 32; refine H0.out.mono ?_; rintro e w1 ⟨rfl, rfl⟩))
    go_ret2
    exact ⟨_, rfl, (fun h => absurd h (by decide)), X, I, ⟨G, HG.out⟩, Grow.refl _ _ _⟩
  | false =>
    have hG1 : FsG X I (w.setCell ⟨fb, 6, none⟩ (.int .i64 ((s.cnt : Int) + 1))) fb (Fsy.count s) G := by
      have := hG.turnFb (d := s.died) (c := s.cnt + 1) (((KbP.refl (fun b => b = fb) w).setCell (p := ⟨fb, 6, none⟩) (.inl rfl) (.int .i64 ((s.cnt : Int) + 1)))) (hG.bk.set_ 6 (.int .i64 ((s.cnt : Int) + 1)))
      exact this
    have hk1 : KbP X w (w.setCell ⟨fb, 6, none⟩ (.int .i64 ((s.cnt : Int) + 1))) := (KbP.refl _ _).setCell (.inl hXfb) _
    have HA := Lib.hid (c_aAdd w fb 6 (s.cnt : Int) (by omega) (by omega) (q 6) (z 6))
    obtain ⟨W1, hW1⟩ : ∃ x, x = w.setCell ⟨fb, 6, none⟩ (.int .i64 ((s.cnt : Int) + 1)) := ⟨_, rfl⟩
    rw [← hW1] at hG1 hk1 HA
    have q1 := hG1.bk.cell
    unfold fsCs Fsy.count at q1
    dsimp only at q1
    rw [hd] at q
    have HF := Lib.hid (show Calls Tryz.prog 56 #[.slice G.AF s.pl.fail.length G.cF, .int .i64 ((s.cnt : Int) + 1)] W1 fun e w' => e = .returned (.bool (s.pl.fail.contains ((s.cnt : Int) + 1))) ∧ W1 = w' from c_Contains W1 ((s.cnt : Int) + 1) hG1.rf.rd (c := G.cF) hp.2.1)
    have HD := Lib.hid (c_die W1 ⟨G, hG1⟩ hi.count (by omega) hp)
    unfold FsE at HD
    have HG1 := Lib.hid hG1
    have Hd := Lib.hid hd
    have Hk1 := Lib.hid hk1
    by_cases hcr : (s.cnt : Int) + 1 = s.pl.crash
    · have hbg : Fsy.begin s = (Fsy.die (Fsy.count s), 12) := by unfold Fsy.begin; rw [hd]; simp [hcr]
      unfold OpP
      rw [hbg]
      have hcr' : ((s.cnt : Int) + 1 == s.pl.crash) = true := by rw [hcr]; exact beq_self_eq_true _
      clear hG c0 hd hbg hW1 hG1 hk1 hcr
      unfold ptrV at *
      go_enter Tryz.func38, Tryz.ntmps38
      go_wp2_with (first | (go_at_call 32; refine H0.out.mono ?_; rintro e w1 ⟨rfl, rfl⟩) | (go_at_call 55; refine HA.out.mono ?_; rintro e w2 ⟨rfl, rfl⟩) | (go_at_call 33; refine HD.out.mono ?_; rintro e w3 ⟨rfl, hE⟩))
      go_ret2
      obtain ⟨X2, I2, hP2, hg2⟩ := hE
      exact ⟨_, rfl, (fun h => absurd h (by decide)), X2, I2, hP2, (Grow.of_kb Hk1.out).trans hg2⟩
    · have hcr' : ((s.cnt : Int) + 1 == s.pl.crash) = false := by rw [beq_eq_false_iff_ne]; exact hcr
      obtain ⟨fl, hfl⟩ : ∃ x, x = s.pl.fail.contains ((s.cnt : Int) + 1) := ⟨_, rfl⟩
      rw [← hfl] at HF
      cases fl with
      | true =>
        have hbg : Fsy.begin s = (Fsy.count s, 10) := by unfold Fsy.begin; rw [hd, if_neg Bool.false_ne_true, show ((s.cnt + 1 : Nat) : Int) = (s.cnt : Int) + 1 from rfl, if_neg hcr, ← hfl]; rfl
        unfold OpP
        rw [hbg]
        clear hG c0 hd hbg hW1 hG1 hk1 hcr hfl
        unfold ptrV at *
        go_enter Tryz.func38, Tryz.ntmps38
        go_wp2_with (first | (go_at_call 32; refine H0.out.mono ?_; rintro e w1 ⟨rfl, rfl⟩) | (go_at_call 55; refine HA.out.mono ?_; rintro e w2 ⟨rfl, rfl⟩) | (go_at_call 56; refine HF.out.mono ?_; rintro e w3 ⟨rfl, rfl⟩))
        go_ret2
        exact ⟨_, rfl, (fun h => absurd h (by decide)), X, I, ⟨G, HG1.out⟩, Grow.of_kb Hk1.out⟩
      | false =>
        have hbg : Fsy.begin s = (Fsy.count s, 0) := by unfold Fsy.begin; rw [hd, if_neg Bool.false_ne_true, show ((s.cnt + 1 : Nat) : Int) = (s.cnt : Int) + 1 from rfl, if_neg hcr, ← hfl]; rfl
        unfold OpP
        rw [hbg]
        clear hG c0 hd hbg hW1 hG1 hk1 hcr hfl
        unfold ptrV at *
        go_enter Tryz.func38, Tryz.ntmps38
        go_wp2_with (first | (go_at_call 32; refine H0.out.mono ?_; rintro e w1 ⟨rfl, rfl⟩) | (go_at_call 55; refine HA.out.mono ?_; rintro e w2 ⟨rfl, rfl⟩) | (go_at_call 56; refine HF.out.mono ?_; rintro e w3 ⟨rfl, rfl⟩))
        go_ret2
        exact ⟨_, rfl, fun h => rfl, X, I, ⟨G, HG1.out⟩, Grow.of_kb Hk1.out⟩
end Go.Proofs.YtgilnjngphhhlaaGreat
