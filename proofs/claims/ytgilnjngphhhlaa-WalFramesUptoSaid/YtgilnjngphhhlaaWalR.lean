/- Layer 17: the law of frames. -/
import Derived.Test.YtgilnjngphhhlaaWalQ
namespace Go.Proofs.Ytgilnjngphhhlaa
open Go.RowKit Go.Lec

set_option maxRecDepth 40000 in
set_option maxHeartbeats 8000000 in
theorem w_WalFrames (w : World) {B : Nat} {A : Option Addr} {n c : Nat} {l : List (List UInt8)} (hr : Rws w B A n l) (hB : B ≤ w.heap.size) (hnc : n ≤ c) (hn : n ≤ 1048576) (hm : ∀ r ∈ l, r.length ≤ 1048576) (at_ cut : Int)
    {B' : Nat} {A' : Option Addr} {n' c' : Nat} {Y : List UInt8} (hr' : Rd w B' A' n' (bcs Y)) (hB' : B' ≤ w.heap.size) (hn' : n' ≤ 1099511627776) :
    Calls Try.prog 3 #[.slice A n c, .int .i64 at_, .int .i64 cut, .slice A' n' c'] w fun e w' => e = .returned (.bool true) ∧ Below w.heap.size w w' := by
  have Hln := Lib.hid hr.len
  have hly := hr'.1
  rw [bcs_length] at hly
  have Hly := Lib.hid hly
  have HA := Lib.hid (c_awake w)
  have HF : ∀ W, Below w.heap.size w W → Calls Try.prog 6 #[.slice A n c] W fun e w' => e = .returned (.bool (decide (n + lens l ≤ 6000))) ∧ Below W.heap.size W w' := fun W h => c_few W (hr.below h hB) (Nat.le_trans hB h.size) hn hm
  have HM := Lib.hid hm
  clear hly hm
  by_cases hfew : n + lens l ≤ 6000
  rotate_left
  · rw [decide_eq_false hfew] at HF
    have HF := Lib.hid HF
    clear hfew
    go_enter Try.func3, Try.ntmps3
    go_wp2_with (first
      | (go_at_call 5; refine HA.out.mono ?_; rintro e w1 ⟨rfl, hb1⟩)
      | (go_at_call 6; refine (HF.out _ hb1).mono ?_; rintro e w2 ⟨rfl, hb2⟩))
    go_ret
    exact ⟨rfl, hb1.trans (hb2.mono hb1.size)⟩
  rw [decide_eq_true hfew] at HF
  have HF := Lib.hid HF
  by_cases hY : n' ≤ 3000
  rotate_left
  · have hY' : decide ((3000 : Int) < (n' : Int)) = true := decide_eq_true (by omega)
    go_enter Try.func3, Try.ntmps3
    go_wp2_with (first
      | (go_at_call 5; refine HA.out.mono ?_; rintro e w1 ⟨rfl, hb1⟩)
      | (go_at_call 6; refine (HF.out _ hb1).mono ?_; rintro e w2 ⟨rfl, hb2⟩))
    go_ret
    exact ⟨rfl, hb1.trans (hb2.mono hb1.size)⟩
  have hY' : decide ((3000 : Int) < (n' : Int)) = false := decide_eq_false (by omega)
  have hl6 : ∀ r ∈ l, r.length ≤ 6000 := fun r h => by have := lens_mem h; omega
  have HL6 := Lib.hid hl6
  have hFl := framesF_len l []
  have Hfew := Lib.hid hfew
  go_enter Try.func3, Try.ntmps3
  go_wp2_with (first
    | (go_at_call 5; refine HA.out.mono ?_; rintro e w1 ⟨rfl, hb1⟩)
    | (go_at_call 6; refine (HF.out _ hb1).mono ?_; rintro e w2 ⟨rfl, hb2⟩))
  go_loopw [9, 32] (fun vb i wr => ∃ (k : Nat) (bl : List UInt8), k ≤ n ∧ i = .int .i64 k ∧ Lec.Own wr w.heap.size 5 vb (bcs bl) ∧ Hid (bl = framesF [] (l.take k)) ∧ bl.length ≤ 200000 ∧ Below w.heap.size w wr) (fun _ i _ => n - (intOf i).toNat)
  case atStart => exact ⟨0, [], Nat.zero_le _, rfl, Lec.Own.nil_ _ _ _, Lib.hid rfl, by simp, hb1.trans (hb2.mono hb1.size)⟩
  case round =>
    clear hb1 hb2 HF HA hfew hl6 hFl
    obtain ⟨k, bl, hk, rfl, hown, hbl, hbn, hb⟩ := hrel
    by_cases hlt : k < n
    · obtain ⟨b, o, Ak, ck, rfl, hbB, hd, hck, hrk⟩ := hr.at_ hlt
      have hkl : k < l.length := by rw [Hln.out]; exact hlt
      obtain ⟨r, hre⟩ : ∃ r, r = l[k] := ⟨_, rfl⟩
      rw [← hre] at hd hck hrk
      have hr6 : r.length ≤ 6000 := by rw [hre]; exact HL6.out _ (List.getElem_mem hkl)
      have hdw : wr.cell? ⟨b, o + k, none⟩ = some (.slice Ak r.length ck) := (hb.cell (p := ⟨b, o + k, none⟩) (by dsimp only; omega)).trans hd
      obtain ⟨E, hE⟩ : ∃ E, E = encL (bl.length % 512) r := ⟨_, rfl⟩
      have hEl : E.length ≤ 20000 := by rw [hE]; have := encL_len (bl.length % 512) r; omega
      have hnext : bl ++ E = framesF [] (l.take (k + 1)) := by
        rw [List.take_succ_eq_append_getElem hkl, framesF_snoc, ← hbl.out, hE, hre]
      have hnl : (bl ++ E).length ≤ 200000 := by
        rw [hnext]
        have h1 := framesF_len (l.take (k + 1)) []
        have h2 := lens_le l (k + 1)
        have h3 := Hfew.out
        have h4 : (l.take (k + 1)).length ≤ n := by rw [List.length_take, Hln.out]; omega
        simp only [List.length_nil] at h1
        omega
      have CE : ∀ W, Below w.heap.size w W → Calls Try.prog 7 #[.int .i64 (bl.length : Int), .slice Ak r.length ck] W (RetBE W E 0) := fun W h => by
        rw [hE]; exact c_Encode W bl.length (hrk.below h hB) (Nat.le_trans hB h.size) (by omega) hck
      have CrE : ∀ W, Below w.heap.size w W → Calls Try.prog 8 #[.int .i64 (bl.length : Int), .slice Ak r.length ck] W (RetBE W E 0) := fun W h => by
        rw [hE]; exact c_rEncode W bl.length (hrk.below h hB) (Nat.le_trans hB h.size) (by omega) hck
      have CE := Lib.hid CE
      have CrE := Lib.hid CrE
      have HNx := Lib.hid hnext
      have HNl := Lib.hid hnl
      obtain ⟨A9, c9, rfl, hc9⟩ := hown.shapeN (n := bl.length) (bcs_length _)
      have HO := Lib.hid hown
      by_cases hat : at_ < 0
      · have CN : ∀ W, Calls Try.prog 7 #[.int .i64 at_, .slice Ak r.length ck] W fun e w' => e = .returned (.tuple #[.slice none 0 0, .int .i64 1]) ∧ w' = W := fun W => c_Encode_no W at_ _ hat
        have CrN : ∀ W, Calls Try.prog 8 #[.int .i64 at_, .slice Ak r.length ck] W fun e w' => e = .returned (.tuple #[.slice none 0 0, .int .i64 1]) ∧ w' = W := fun W => c_rEncode_no W at_ _ hat
        have CN := Lib.hid CN
        have CrN := Lib.hid CrN
        have hn0 : ∀ W : World, (convert 23 9 (.slice none 0 0)).run Try.prog W = .ok (.string ⟨([] : List UInt8).toArray⟩) W := fun W => run_str (P := Try.prog) Try.underlying23 Try.underlying5 Try.underlying9 (c := 0) (Rd.nil_ : Rd W 0 none 0 (bcs []))
        clear hE hnext hnl hown hd hrk hre
        go_wp2_with (first
          | (go_at_call 7; (with_reducible refine (CE.out _ hb).mono ?_); rintro e w1 ⟨v1, rfl, ho1, hb1⟩; have hbw1 := hb.trans (hb1.mono hb.size); obtain ⟨A1, c1, rfl, hc1⟩ := ho1.shapeN (n := E.length) (bcs_length _))
          | (go_at_call 8; (with_reducible refine (CrE.out _ hbw1).mono ?_); rintro e w2 ⟨v2, rfl, ho2, hb2⟩; have hbw2 := hbw1.trans (hb2.mono hbw1.size); obtain ⟨A2, c2, rfl, hc2⟩ := ho2.shapeN (n := E.length) (bcs_length _); have hs1 := run_str (P := Try.prog) Try.underlying23 Try.underlying5 Try.underlying9 (c := c1) (ho1.below hb2 (Nat.le_refl _)).rd; have hs2 := run_str (P := Try.prog) Try.underlying23 Try.underlying5 Try.underlying9 (c := c2) ho2.rd)
          | (at_builtin; (refine wpList_app_sl rfl (.tmp 62) (.tmp 63) rfl slb (by decide) rfl ((HO.out.below hb1 (Nat.le_refl _)).below hb2 (Nat.le_refl _)) hbw2 hbw2.size rfl (ho1.below hb2 (Nat.le_refl _)).rd bcs_one (by simp only [bcs_length]; omega) ?_); intro v3 w3 ho3 hb3 hs3)
          | (go_at_call 7; (with_reducible refine (CN.out _).mono ?_); rintro e w4 ⟨rfl, rfl⟩)
          | (go_at_call 8; (with_reducible refine (CrN.out _).mono ?_); rintro e w5 ⟨rfl, rfl⟩))
        go_roundw
        case rel => exact ⟨k + 1, bl ++ E, by omega, by go_num, by rw [bcs_append]; exact ho3, HNx, HNl.out, hb3⟩
        case measure => simp [intOf]; omega
      · obtain ⟨a, rfl⟩ : ∃ a : Nat, at_ = (a : Int) := ⟨at_.toNat, by omega⟩
        obtain ⟨E2, hE2⟩ : ∃ E2, E2 = encL (a % 512) r := ⟨_, rfl⟩
        have CE2 : ∀ W, Below w.heap.size w W → Calls Try.prog 7 #[.int .i64 (a : Int), .slice Ak r.length ck] W (RetBE W E2 0) := fun W h => by
          rw [hE2]; exact c_Encode W a (hrk.below h hB) (Nat.le_trans hB h.size) (by omega) hck
        have CrE2 : ∀ W, Below w.heap.size w W → Calls Try.prog 8 #[.int .i64 (a : Int), .slice Ak r.length ck] W (RetBE W E2 0) := fun W h => by
          rw [hE2]; exact c_rEncode W a (hrk.below h hB) (Nat.le_trans hB h.size) (by omega) hck
        have CE2 := Lib.hid CE2
        have CrE2 := Lib.hid CrE2
        clear hE hE2 hnext hnl hown hd hrk hre
        go_wp2_with (first
          | (go_at_call 7; (with_reducible refine (CE.out _ hb).mono ?_); rintro e w1 ⟨v1, rfl, ho1, hb1⟩; have hbw1 := hb.trans (hb1.mono hb.size); obtain ⟨A1, c1, rfl, hc1⟩ := ho1.shapeN (n := E.length) (bcs_length _))
          | (go_at_call 8; (with_reducible refine (CrE.out _ hbw1).mono ?_); rintro e w2 ⟨v2, rfl, ho2, hb2⟩; have hbw2 := hbw1.trans (hb2.mono hbw1.size); obtain ⟨A2, c2, rfl, hc2⟩ := ho2.shapeN (n := E.length) (bcs_length _); have hs1 := run_str (P := Try.prog) Try.underlying23 Try.underlying5 Try.underlying9 (c := c1) (ho1.below hb2 (Nat.le_refl _)).rd; have hs2 := run_str (P := Try.prog) Try.underlying23 Try.underlying5 Try.underlying9 (c := c2) ho2.rd)
          | (at_builtin; (refine wpList_app_sl rfl (.tmp 62) (.tmp 63) rfl slb (by decide) rfl ((HO.out.below hb1 (Nat.le_refl _)).below hb2 (Nat.le_refl _)) hbw2 hbw2.size rfl (ho1.below hb2 (Nat.le_refl _)).rd bcs_one (by simp only [bcs_length]; omega) ?_); intro v3 w3 ho3 hb3 hs3)
          | (go_at_call 7; (with_reducible refine (CE2.out _ hb3).mono ?_); rintro e w4 ⟨v4, rfl, ho4, hb4⟩; have hbw4 := hb3.trans (hb4.mono hb3.size); obtain ⟨A4, c4, rfl, hc4⟩ := ho4.shapeN (n := E2.length) (bcs_length _))
          | (go_at_call 8; (with_reducible refine (CrE2.out _ hbw4).mono ?_); rintro e w5 ⟨v5, rfl, ho5, hb5⟩; have hbw5 := hbw4.trans (hb5.mono hbw4.size); obtain ⟨A5, c5, rfl, hc5⟩ := ho5.shapeN (n := E2.length) (bcs_length _); have hs4 := run_str (P := Try.prog) Try.underlying23 Try.underlying5 Try.underlying9 (c := c4) (ho4.below hb5 (Nat.le_refl _)).rd; have hs5 := run_str (P := Try.prog) Try.underlying23 Try.underlying5 Try.underlying9 (c := c5) ho5.rd))
        go_roundw
        case rel => exact ⟨k + 1, bl ++ E, by omega, by go_num, by rw [bcs_append]; exact (ho3.below hb4 (Nat.le_refl _)).below hb5 (Nat.le_refl _), HNx, HNl.out, hbw5⟩
        case measure => simp [intOf]; omega
    · obtain rfl : k = n := by omega
      have hF : bl = framesF [] l := by rw [hbl.out, List.take_of_length_le (by rw [Hln.out]; exact Nat.le_refl _)]
      obtain ⟨f, hf⟩ : ∃ f, f = bl.length := ⟨_, rfl⟩
      obtain ⟨A9, c9, rfl, hc9⟩ := hown.shapeN (n := f) (by rw [bcs_length, hf])
      have hrd1 : readB bl = (l, f) := by rw [hf, hF]; exact readB_frames l HM.out
      obtain ⟨C, hC, hCe, hT1, hT2⟩ := cut_in cut f
      have hcut := readB_cut bl l (by rw [hrd1]) C (by omega)
      have hl2 := readB_len (bl.take C)
      have hmore := readB_more l HM.out Y
      rw [← hF] at hmore
      have hl3 := readB_len (bl ++ Y)
      obtain ⟨⟨o2, n2⟩, hR2⟩ : ∃ R, R = readB (bl.take C) := ⟨_, rfl⟩
      obtain ⟨⟨o3, n3⟩, hR3⟩ : ∃ R, R = readB (bl ++ Y) := ⟨_, rfl⟩
      rw [← hR2] at hcut hl2
      rw [← hR3] at hmore hl3
      obtain ⟨hp2, hn2⟩ := hcut
      obtain ⟨hp3, hn3⟩ := hmore
      have ht2 : o2 = l.take o2.length := List.prefix_iff_eq_take.1 hp2
      have ht3 : l = o3.take k := by have h := List.prefix_iff_eq_take.1 hp3; rwa [Hln.out] at h
      have hpl2 : o2.length ≤ k := by have := hp2.length_le; rwa [Hln.out] at this
      have hpl3 : k ≤ o3.length := by have := hp3.length_le; rwa [Hln.out] at this
      dsimp only at hn2 hn3 hl2 hl3
      rw [List.length_append, ← hf, Hly.out] at hl3
      rw [← hf] at hn3 hbn
      obtain ⟨p, hp⟩ : ∃ p, p = o2.length := ⟨_, rfl⟩
      obtain ⟨t, ht⟩ : ∃ t, t = o3.length := ⟨_, rfl⟩
      rw [← hp] at ht2 hpl2
      rw [← ht] at hpl3 hl3
      have hO := hown.rd
      have CR1 : Calls Try.prog 9 #[.slice A9 f c9] wr (ReadPost wr (l, f)) := by
        rw [← hrd1]; exact c_Read wr hO (Nat.le_refl _) hc9 (by omega)
      have CR2 : ∀ W, Below wr.heap.size wr W → Calls Try.prog 9 #[.slice A9 C c9] W (ReadPost W (o2, n2)) := fun W h => by
        rw [hR2]
        have h1 := (hO.take_ (k := C) (by omega)).below h (Nat.le_refl _)
        rw [← bcs_take] at h1
        exact c_Read W h1 h.size (by omega) (by omega)
      have CR3 : ∀ W A c, Rd W W.heap.size A (f + n') (bcs (bl ++ Y)) → f + n' ≤ c → Calls Try.prog 9 #[.slice A (f + n') c] W (ReadPost W (o3, n3)) := fun W A c h hc => by
        rw [hR3]; exact c_Read W h (Nat.le_refl _) hc (by omega)
      have CR1 := Lib.hid CR1
      have CR2 := Lib.hid CR2
      have CR3 := Lib.hid CR3
      have hcutA := fun W => run_cutH (P := Try.prog) slb A9 f c9 C (by omega) .i64 (C : Int) rfl W
      have hcutB := fun W => run_cutH (P := Try.prog) slr A k c p (by omega) .i64 (p : Int) rfl W
      have d1 : decide ((C : Int) < (n2 : Int)) = false := decide_eq_false (by omega)
      have d2 : decide ((k : Int) < (p : Int)) = false := decide_eq_false (by omega)
      have d3 : decide ((f : Int) ≤ (n3 : Int)) = true := decide_eq_true (by omega)
      have d4 : decide ((k : Int) ≤ (t : Int)) = true := decide_eq_true (by omega)
      have HT2 := Lib.hid ht2
      have HT3 := Lib.hid ht3
      have HPp := Lib.hid hp
      have HTt := Lib.hid ht
      have HBL := Lib.hid hf
      clear hF hrd1 hR2 hR3 hp2 hp3 ht2 ht3 hp ht hf hbl hown hl2
      go_wp2_with (first
        | (go_at_call 9; (with_reducible refine CR1.out.mono ?_); rintro e x1 ⟨A3, m3, c3, rfl, hm3, hw3, hb3⟩; obtain rfl : k = m3 := (by have h := hw3.len; have h2 := Hln.out; dsimp only at h; omega))
        | (go_at_call 10; (with_reducible refine (c_same x1 (c := c3) (c' := c) hw3 (Nat.le_refl _) ((hr.below hb hB).below hb3 (Nat.le_trans hB hb.size)) (Nat.le_trans (Nat.le_trans hB hb.size) hb3.size) (by omega)).mono ?_); rw [decide_eq_true rfl]; rintro e x2 ⟨rfl, hb4⟩; have hq2 := hb3.trans (hb4.mono hb3.size))
        | (go_at_call 9; (with_reducible refine (CR2.out _ hq2).mono ?_); rintro e x3 ⟨A4, m4, c4, rfl, hm4, hw4, hb5⟩; obtain rfl : p = m4 := (by have h := hw4.len; have h2 := HPp.out; dsimp only at h; omega); have hq3 := hq2.trans (hb5.mono hq2.size))
        | (go_at_call 10; (with_reducible refine (c_same x3 (c := c4) (c' := c) hw4 (Nat.le_refl _) (((hr.below hb hB).below hq3 (Nat.le_trans hB hb.size)).take_ hpl2) (Nat.le_trans (Nat.le_trans hB hb.size) hq3.size) (by omega)).mono ?_); rw [decide_eq_true HT2.out]; rintro e x4 ⟨rfl, hb6⟩; have hq4 := hq3.trans (hb6.mono hq3.size))
        | (at_builtin; (refine wpList_app_sl rfl (.const (.slice none 0 0)) (.tmp 143) rfl slb (by decide) rfl (Lec.Own.nil_ x4 x4.heap.size _) (Below.refl _ _) (Nat.le_refl _) rfl (hO.below hq4 (Nat.le_refl _)) bcs_one (by simp only [List.length_nil]; omega) ?_); intro v5 x5 ho5 hb7 hs7; rw [List.nil_append] at ho5)
        | (at_builtin; (refine wpList_app_sl rfl (.tmp 144) (.tmp 145) rfl slb (by decide) rfl ho5 hb7 hs7 rfl (((hr'.below hb hB').below hq4 (Nat.le_trans hB' hb.size)).below hb7 (Nat.le_trans (Nat.le_trans hB' hb.size) hq4.size)) bcs_one (by rw [bcs_length, ← HBL.out]; omega) ?_); intro v6 x6 ho6 hb8 hs8; obtain ⟨A6, c6, rfl, hc6⟩ := ho6.shapeN (n := f + n') (by rw [List.length_append, bcs_length, bcs_length, ← HBL.out, Hly.out]); have hq6 := hq4.trans (hb8.mono hq4.size); have hrd6 := ho6.rd; rw [← bcs_append] at hrd6)
        | (go_at_call 9; (with_reducible refine (CR3.out _ _ _ hrd6 hc6).mono ?_); rintro e x7 ⟨A7, m7, c7, rfl, hm7, hw7, hb9⟩; obtain rfl : t = m7 := (by have h := hw7.len; have h2 := HTt.out; dsimp only at h; omega); have hq7 := hq6.trans (hb9.mono hq6.size); have hcutC := fun W => run_cutH (P := Try.prog) slr A7 t c7 k (by omega) .i64 (k : Int) rfl W)
        | (go_at_call 10; (with_reducible refine (c_same x7 (c := c7) (c' := c) (hw7.take_ hpl3) (Nat.le_refl _) ((hr.below hb hB).below hq7 (Nat.le_trans hB hb.size)) (Nat.le_trans (Nat.le_trans hB hb.size) hq7.size) (by omega)).mono ?_); rw [decide_eq_true HT3.out.symm]; rintro e x8 ⟨rfl, hb10⟩; have hq8 := hq7.trans (hb10.mono hq7.size)))
      go_ret
      exact ⟨rfl, hb.trans (hq8.mono hb.size)⟩
end Go.Proofs.Ytgilnjngphhhlaa
