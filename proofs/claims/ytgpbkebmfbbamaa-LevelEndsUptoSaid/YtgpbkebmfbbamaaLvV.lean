/- Layer 24: the law LevelEnds: the walk's end. -/
import Derived.Test.YtgpbkebmfbbamaaLvU
namespace Go.Lec
/-- Whether level 0 has few files, and the levels below one are within their limits. -/
def fineTo (s : St) (f b fa : Int) (k : Nat) : Bool := decide ((s.n 0 : Int) < f) && (List.range k).all fun j => !big s b fa j
theorem fineTo_succ (s : St) (f b fa : Int) (k : Nat) : fineTo s f b fa (k + 1) = (fineTo s f b fa k && !big s b fa k) := by
  simp [fineTo, List.range_succ, Bool.and_assoc]
theorem fine_chosen (s : St) (f b fa : Int) : (chosen s f b fa == !(fineTo s f b fa 6)) = true := by
  have h6 : big s b fa 6 = false := decide_eq_false (fun h => by omega)
  unfold chosen fineTo
  rw [show (7 : Nat) = 6 + 1 from rfl, List.range_succ, List.any_append]
  simp only [List.any_cons, List.any_nil, h6, Bool.or_false]
  by_cases hf : (s.n 0 : Int) < f
  · have hf' : ¬ f ≤ (s.n 0 : Int) := by omega
    rw [decide_eq_true hf, decide_eq_false hf']
    simp [List.all_eq_not_any_not]
  · have hf' : f ≤ (s.n 0 : Int) := by omega
    rw [decide_eq_false hf, decide_eq_true hf']
    rfl
end Go.Lec
namespace Go.Proofs.Ytgpbkebmfbbamaa
open Go.RowKit Go.Lec

set_option maxRecDepth 10000 in
set_option maxHeartbeats 3200000 in
theorem w_LevelEnds (w : World) {B : Nat} {s : St} (hs : s.ok w B) (hB : B ≤ w.heap.size) (f b fa fi : Int) :
    Calls Try.prog 3 #[.agg s.arr, .agg #[.int .i64 f, .int .i64 b, .int .i64 fa, .int .i64 fi]] w fun e w' => e = .returned (.bool true) ∧ Below w.heap.size w w' := by
  have HS0 := (Bk.new_ w 26 s.arr).alloc (.cells #[.int .i64 f, .int .i64 b, .int .i64 fa, .int .i64 fi] 28)
  have HP0 := Bk.new_ (w.alloc (.cells s.arr 26)) 28 #[.int .i64 f, .int .i64 b, .int .i64 fa, .int .i64 fi]
  rw [World.size_alloc] at HP0
  have hb0 : Below w.heap.size w ((w.alloc (.cells s.arr 26)).alloc (.cells #[.int .i64 f, .int .i64 b, .int .i64 fa, .int .i64 fi] 28)) := ((Below.refl _ _).alloc (Nat.le_refl _) _).alloc (by simp) _
  have hz0 : ((w.alloc (.cells s.arr 26)).alloc (.cells #[.int .i64 f, .int .i64 b, .int .i64 fa, .int .i64 fi] 28)).heap.size = w.heap.size + 2 := by simp
  go_enter Try.func3, Try.ntmps3
  go_wp2_with fail
  refine (c_awake _).mono ?_
  rintro e w1 ⟨rfl, hb⟩
  rw [hz0] at hb
  have HS1 := HS0.below hb (by omega)
  have HP1 := HP0.below hb (by omega)
  have hb1 := hb0.trans (hb.mono (by omega))
  have hz1 : w.heap.size + 2 ≤ w1.heap.size := by have := hb.size; omega
  clear hb hb0 HS0 HP0 hz0
  have q0 := HS1.cell
  have q1 := HP1.cell
  go_wp2_with fail
  refine (c_few w1 (hs.below hb1 hB) (by omega)).mono ?_
  rintro e w2 ⟨r, rfl, hb⟩
  have HS2 := HS1.below hb (by omega)
  have HP2 := HP1.below hb (by omega)
  have hb2 := hb1.trans (hb.mono (by omega))
  have hz2 : w.heap.size + 2 ≤ w2.heap.size := by have := hb.size; omega
  clear hb hb1 HS1 HP1 hz1 q0 q1
  have q0 := HS2.cell
  have q1 := HP2.cell
  cases r
  · go_wp2
    go_ret
    exact ⟨rfl, hb2⟩
  go_wp2_with fail
  refine (c_rCheck w2 f b fa fi).mono ?_
  rintro e w3 ⟨r2, rfl, hok, hb⟩
  have HS3 := HS2.below hb (by omega)
  have HP3 := HP2.below hb (by omega)
  have hb3 := hb2.trans (hb.mono (by omega))
  have hz3 : w.heap.size + 2 ≤ w3.heap.size := by have := hb.size; omega
  clear hb hb2 HS2 HP2 hz2 q0 q1
  have q0 := HS3.cell
  have q1 := HP3.cell
  by_cases hr2 : r2 = 0
  · have hp := hok hr2
    subst hr2
    have Hp := Lib.hid hp
    clear hok hp
    go_wp2_with fail
    refine (c_ChooseAny w3 (hs.below hb3 hB) (by omega) Hp.out).mono ?_
    rintro e w4 ⟨x, A1, n1, c1, A2, n2, c2, A3, n3, c3, A4, n4, c4, y, rfl, hb⟩
    obtain ⟨ch, hch⟩ : ∃ ch, ch = chosen s f b fa := ⟨_, rfl⟩
    rw [← hch]
    have Hch := Lib.hid hch
    clear hch
    have HS4 := (HS3.below hb (by omega)).alloc (.cells #[.int .i64 x, .slice A1 n1 c1, .slice A2 n2 c2, .slice A3 n3 c3, .slice A4 n4 c4, .bool y] 34)
    have HP4 := (HP3.below hb (by omega)).alloc (.cells #[.int .i64 x, .slice A1 n1 c1, .slice A2 n2 c2, .slice A3 n3 c3, .slice A4 n4 c4, .bool y] 34)
    have hb4 := (hb3.trans (hb.mono (by omega))).alloc (by have := hb.size; omega) (.cells #[.int .i64 x, .slice A1 n1 c1, .slice A2 n2 c2, .slice A3 n3 c3, .slice A4 n4 c4, .bool y] 34)
    clear hb hb3 HS3 HP3 hz3 q0 q1
    have q0 := HS4.cell
    have q1 := HP4.cell
    obtain ⟨F1, hF1⟩ : ∃ F1, F1 = decide ((s.n 0 : Int) < f) := ⟨_, rfl⟩
    have HF1 := Lib.hid hF1
    clear hF1
    go_wp2
    go_loopw [8, 9] (fun v i wr => ∃ k : Nat, 1 ≤ k ∧ k ≤ 6 ∧ i = .int .i64 k ∧ v = .bool (fineTo s f b fa k) ∧ Bk wr w.heap.size 26 s.arr ∧ Bk wr (w.heap.size + 1) 28 #[.int .i64 f, .int .i64 b, .int .i64 fa, .int .i64 fi] ∧ Below w.heap.size w wr) (fun _ i _ => 6 - (intOf i).toNat)
    case atStart =>
      have hb0 : big s b fa 0 = false := decide_eq_false (fun h => by omega)
      refine ⟨1, by omega, by omega, rfl, ?_, HS4, HP4, hb4⟩
      unfold fineTo
      simp [List.range_succ, hb0]
    case round =>
      clear q0 q1 HS4 HP4 hb4
      obtain ⟨k, hk1, hk6, rfl, rfl, HS, HP, hb⟩ := hrel
      by_cases hlt : k ≤ 5
      · have hki : (k : Int) ≤ 5 := by omega
        have Hsucc := Lib.hid (fineTo_succ s f b fa k)
        cases hfk : fineTo s f b fa k
        · have hv : fineTo s f b fa (k + 1) = false := by rw [Hsucc.out, hfk]; rfl
          have Hv := Lib.hid hv
          clear hv hfk
          go_wp2
          go_quiet (fail)
          go_wp2
          go_roundw
          case rel => exact ⟨k + 1, by omega, by omega, by go_num, by rw [Hv.out], HS.drewN _, HP.drewN _, below_drewN hb _⟩
          case measure => simp [intOf]; omega
        · have c8 : wr.cell? ⟨w.heap.size, 8 + k, none⟩ = some (.slice (s.A k) (s.n k) (s.c k)) := by
            rw [HS.cell]
            match k, hk6 with
            | 0, _ => rfl
            | 1, _ => rfl
            | 2, _ => rfl
            | 3, _ => rfl
            | 4, _ => rfl
            | 5, _ => rfl
            | 6, _ => rfl
          have q1 := HP.cell
          obtain ⟨hlm, _, hln⟩ := (hs.below hb hB) k (by omega)
          have hBr : B ≤ wr.heap.size := by have := hb.size; omega
          have HSz := Lib.hid (c_rSize wr.drew (c := s.c k) hlm.drew hBr (by omega))
          have HLm := Lib.hid (fun W => c_rLimit W Hp.out k hk1 (by omega))
          have hC : ∀ W : World, Below wr.heap.size wr W → W.cell? ⟨w.heap.size, 8 + k, none⟩ = some (.slice (s.A k) (s.n k) (s.c k)) ∧ W.cell? ⟨w.heap.size + 1, 0, none⟩ = some (.int .i64 f) ∧ W.cell? ⟨w.heap.size + 1, 1, none⟩ = some (.int .i64 b) ∧ W.cell? ⟨w.heap.size + 1, 2, none⟩ = some (.int .i64 fa) ∧ W.cell? ⟨w.heap.size + 1, 3, none⟩ = some (.int .i64 fi) := fun W hW => ⟨(hW.cell (p := ⟨w.heap.size, 8 + k, none⟩) HS.lt).trans c8, (hW.cell (p := ⟨w.heap.size + 1, 0, none⟩) HP.lt).trans (q1 0), (hW.cell (p := ⟨w.heap.size + 1, 1, none⟩) HP.lt).trans (q1 1), (hW.cell (p := ⟨w.heap.size + 1, 2, none⟩) HP.lt).trans (q1 2), (hW.cell (p := ⟨w.heap.size + 1, 3, none⟩) HP.lt).trans (q1 3)⟩
          have HC := Lib.hid hC
          have hj0 : (0 : Int) ≤ (k : Int) := by omega
          have hj7 : (k : Int) < 7 := by omega
          clear hlm hln c8 q1 hC
          go_wp2
          go_region_held3 (fun W => W.cell? ⟨w.heap.size, 8 + k, none⟩ = some (.slice (s.A k) (s.n k) (s.c k)) ∧ W.cell? ⟨w.heap.size + 1, 0, none⟩ = some (.int .i64 f) ∧ W.cell? ⟨w.heap.size + 1, 1, none⟩ = some (.int .i64 b) ∧ W.cell? ⟨w.heap.size + 1, 2, none⟩ = some (.int .i64 fa) ∧ W.cell? ⟨w.heap.size + 1, 3, none⟩ = some (.int .i64 fi))
            ((refine HC.out _ ?_; first | exact Below.refl _ _ | exact (Below.refl _ _).drew | exact (Below.refl _ _).drew.trans hba | exact ((Below.refl _ _).drew.trans hba).trans (hbb.mono hba.size)))
            (first
              | (go_at_call 11; refine HSz.out.mono ?_; rintro e wa ⟨rfl, hba⟩)
              | (go_at_call 12; refine (HLm.out wa).mono ?_; rintro e wb ⟨rfl, hbb⟩))
          have hv : fineTo s f b fa (k + 1) = decide (mtSize (s.L k) ≤ limOf b fa k) := by
            rw [Hsucc.out, hfk, Bool.true_and]
            unfold big
            by_cases h : mtSize (s.L k) ≤ limOf b fa k
            · rw [decide_eq_true h, decide_eq_false (by omega)]; rfl
            · rw [decide_eq_false h, decide_eq_true (by omega)]; rfl
          have Hv := Lib.hid hv
          have hbw : Below wr.heap.size wr wb := ((Below.refl _ _).drew.trans hba).trans (hbb.mono hba.size)
          have HSb := HS.below hbw HS.lt
          have HPb := HP.below hbw HP.lt
          have hb' := hb.trans (hbw.mono hb.size)
          clear hv hfk hba hbb hbw HS HP hb HSz HLm HC
          go_wp2
          go_roundw
          case rel => exact ⟨k + 1, by omega, by omega, by go_num, by rw [Hv.out], HSb, HPb, hb'⟩
          case measure => simp [intOf]; omega
      · obtain rfl : k = 6 := by omega
        have hfin : (ch == !(fineTo s f b fa 6)) = true := by rw [Hch.out]; exact fine_chosen s f b fa
        go_wp2
        go_ret
        first
          | exact ⟨rfl, hb⟩
          | exact ⟨congrArg (fun z => Ending.returned (Value.bool z)) hfin, hb⟩
  · have hr2' : (r2 == 0) = false := by simpa using hr2
    clear hr2
    go_wp2
    go_ret
    exact ⟨rfl, hb3⟩
end Go.Proofs.Ytgpbkebmfbbamaa
