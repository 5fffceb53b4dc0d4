/- Layer 16: the walk of the reference's Encode. -/
import Derived.Test.YteokhnjjneeeeaaIkC
namespace Go.Proofs.Yteokhnjjneeeeaa
open Go.RowKit Go.Lec

set_option maxHeartbeats 1600000 in
theorem c_rEncode_ok (w : World) (q sq kd : Int) {B : Nat} {A : Option Addr} {n c : Nat} {l t : List UInt8} (hr : Rd w B A n (bcs l)) (hB : B ≤ w.heap.size) (hn : n ≤ 65536)
    (hq : okEpoch q = true) (hs : okSeq sq = true) (h4 : 0 ≤ kd) (h5 : kd ≤ 1) (ht : t.length ≤ 1024) :
    Calls Try.prog 9 #[.agg #[.int .i64 q, .slice A n c, .int .i64 sq, .int .i64 kd, .string ⟨t.toArray⟩]] w (RetBE 5 w (be 2 q.toNat ++ escT l ++ stampB sq ++ [UInt8.ofNat (1 - kd).toNat] ++ t) 0) := by
  obtain ⟨h0, h1⟩ := okEpoch_true hq
  obtain ⟨h2, h3⟩ := okSeq_true hs
  clear hq hs
  have hln := hr.1
  rw [bcs_length] at hln
  obtain ⟨X, hX⟩ : ∃ X, X = be 2 q.toNat ++ escT l ++ stampB sq := ⟨_, rfl⟩
  obtain ⟨Y, hY⟩ : ∃ Y, Y = be 2 q.toNat ++ escT l := ⟨_, rfl⟩
  obtain ⟨Z, hZ⟩ : ∃ Z, Z = X ++ [UInt8.ofNat (1 - kd).toNat] ++ t := ⟨_, rfl⟩
  rw [← hX, ← hZ]
  have hXY : X = Y ++ stampB sq := by rw [hX, hY]
  have hYl : Y.length ≤ 200000 := by have := escT_len l; rw [hY]; simp only [List.length_append, be_length]; omega
  have hXl : X.length ≤ 200006 := by rw [hXY]; simp only [List.length_append, stampB, be_length]; omega
  obtain ⟨q, rfl⟩ := Int.eq_ofNat_of_zero_le h0
  rw [Int.toNat_natCast] at hY
  have HZ := Lib.hid hZ; have HY := Lib.hid hY; have HXY := Lib.hid hXY; have H := Lib.hid hln
  clear hX hY hXY hln hZ
  have htn : ¬ 1024 < t.length := by omega
  have ht2 : ¬ 65536 < n := by omega
  have g0 : ¬ (q : Int) < 0 := by omega
  have g1 : ¬ 65535 < (q : Int) := by omega
  have g2 : ¬ sq < 0 := by omega
  have g3 : ¬ 281474976710655 < sq := by omega
  have g4 : ¬ kd < 0 := by omega
  have g5 : ¬ 1 < kd := by omega
  have hbox := World.cell?_alloc_new w #[.int .i64 q, .slice A n c, .int .i64 sq, .int .i64 kd, .string ⟨t.toArray⟩] 24
  go_enter Try.func9, Try.ntmps9
  go_wp2_with fail
  go_cut [4] (fun v4 wr => Own wr (w.heap.size + 1) 5 v4 (bcs Y) ∧ Below (w.heap.size + 1) (w.alloc (.cells #[.int .i64 q, .slice A n c, .int .i64 sq, .int .i64 kd, .string ⟨t.toArray⟩] 24)) wr ∧ w.heap.size + 1 ≤ wr.heap.size)
  case first =>
    go_region_held3 (fun w' => w'.cell? ⟨w.heap.size, 0, none⟩ = some (.int .i64 q) ∧ w'.cell? ⟨w.heap.size, 1, none⟩ = some (.slice A n c)) (go_keep)
      (first
        | (go_at_call 28; go_must (refine (c_high _ q 2 (by omega) (by decide)).mono ?_); rintro e wa ⟨va, rfl, howna, hba⟩; have hBa : Below (w.heap.size + 1) (w.alloc (.cells #[.int .i64 q, .slice A n c, .int .i64 sq, .int .i64 kd, .string ⟨t.toArray⟩] 24)) wa := (by first | exact (Below.refl _ _).drew.trans (hba.mono (by simp)) | exact hBb.trans (hba.mono hzb)); have hza : w.heap.size + 1 ≤ wa.heap.size := (by have := hBa.size; simp at this; omega); have hka := fun o => (hBa.cell (p := ⟨w.heap.size, o, none⟩) (by simp)).trans (hbox o); have hra : Rd wa B A n (bcs l) := (hr.alloc hB _).below hBa (by omega); (try have howna' : Own wa (w.heap.size + 1) 5 va (bcs (be 2 q)) := howna.mono (by first | (simp; done) | omega)); (try have hrb' := hrb.below hba (Nat.le_refl _)))
        | (go_at_call 18; (first | refine (c_rEscape _ (c := c) hra (by omega) (by omega)).mono ?_ | refine (c_rEscape _ (c := c) (hr.alloc hB _).drew (by simp; omega) (by omega)).mono ?_); rintro e wb ⟨vb, rfl, hownb, hbb⟩; obtain ⟨Ab, cb, rfl, hcb⟩ := hownb.shape; have hrb := hownb.rd; have hBb : Below (w.heap.size + 1) (w.alloc (.cells #[.int .i64 q, .slice A n c, .int .i64 sq, .int .i64 kd, .string ⟨t.toArray⟩] 24)) wb := (by first | exact (Below.refl _ _).drew.trans (hbb.mono (by simp)) | exact hBa.trans (hbb.mono hza)); have hzb : w.heap.size + 1 ≤ wb.heap.size := (by have := hBb.size; simp at this; omega); have hkb := fun o => (hBb.cell (p := ⟨w.heap.size, o, none⟩) (by simp)).trans (hbox o); (try have hownab := howna'.below hbb (Nat.le_refl _)))
        | (refine at_app (.tmp 45) (.tmp 48) ?_; refine step_app_rd rfl (.tmp 45) (.tmp 48) rfl slb (by decide) rfl (xs := bcs (be 2 q)) (base := w.heap.size + 1) (w0 := (w.alloc (.cells #[.int .i64 q, .slice A n c, .int .i64 sq, .int .i64 kd, .string ⟨t.toArray⟩] 24))) ?_ ?_ ?_ rfl (news := bcs (escT l)) ?_ bcs_one ?_ ?_; (first | exact hownab | exact howna'); (first | exact hBb | exact hBa); (first | exact hzb | exact hza); (first | exact hrb | exact hrb'.more hba.size); (have := escT_len l; have := H.out; simp only [bcs_length, List.length_append, be_length]; omega); intro v3 w3 hown3 hb3 hg3 hs3; have hk3 := fun o => (hb3.cell (p := ⟨w.heap.size, o, none⟩) (by simp)).trans (hbox o)))
    all_goals
      go_wp2_with fail
      go_meet
      refine ⟨?_, hb3, hs3⟩
      rw [HY.out, bcs_append]
      exact hown3
  case rest =>
    obtain ⟨hown, hb, hs1⟩ := hcut
    have hk1 := fun o => (hb.cell (p := ⟨w.heap.size, o, none⟩) (by simp)).trans (hbox o)
    clear hbox
    have hst : (281474976710655 - sq).toNat ≤ 9223372036854775807 := by omega
    have hcast : ((281474976710655 - sq).toNat : Int) = 281474976710655 - sq := by omega
    have Hc := Lib.hid hcast; clear hcast
    have e1 : IntKind.i64.wrap (1 - kd) = 1 - kd := IntWalk.i64_in _ (by omega)
    have e2 : IntKind.u8.wrap (1 - kd) = 1 - kd := IntWalk.u8_in _ (by omega)
    go_wp2_with (first | (go_at_call 28; rw [← Hc.out]; go_must (refine (c_high wc _ 6 hst (by decide)).mono ?_); rintro e w2 ⟨v2, rfl, hown2, hb2⟩; obtain ⟨A2, c2, rfl, hc2⟩ := hown2.shape; have hr2 := hown2.rd; have hown1 := hown.below hb2 (Nat.le_refl _); have hb12 := hb.trans (hb2.mono hs1); have hs2 := Nat.le_trans hs1 hb2.size) | (at_builtin; (refine wpList_app_sl rfl (.tmp 50) (.tmp 54) rfl slb (by decide) rfl hown1 hb12 hs2 rfl hr2 bcs_one (by simp only [bcs_length, be_length]; omega) ?_); intro v3 w3 hown3 hb3 hs3; have hk3 : w3.cell? ⟨w.heap.size, 3, none⟩ = some (.int .i64 kd) := (hb3.cell (p := ⟨w.heap.size, 3, none⟩) (by simp)).trans (World.cell?_alloc_new _ _ _ _); have hk4 : w3.cell? ⟨w.heap.size, 4, none⟩ = some (.string ⟨t.toArray⟩) := (hb3.cell (p := ⟨w.heap.size, 4, none⟩) (by simp)).trans (World.cell?_alloc_new _ _ _ _)))
    clear hk1
    go_region_held3 (fun w' => w'.cell? ⟨w.heap.size, 3, none⟩ = some (.int .i64 kd) ∧ w'.cell? ⟨w.heap.size, 4, none⟩ = some (.string ⟨t.toArray⟩)) (go_keep)
      (first
        | (refine at_app (.tmp 56) (.tmp 61) ?_; refine step_app_rd rfl (.tmp 56) (.tmp 61) rfl slb (by decide) rfl (hown3.alloc _).drew (hb3.alloc hs3 _).drew ?_ rfl (Rd.lit _ [.int .u8 (1 - kd)] _) ?_ ?_ ?_; (simp; omega); (simp [Value.oneCell']); (simp only [bcs_length, List.length_append, be_length, List.length_cons, List.length_nil]; omega); intro v4 w4 hown4 hb4 hg4 hs4; have hk43 : w4.cell? ⟨w.heap.size, 3, none⟩ = some (.int .i64 kd) := (hb4.cell (p := ⟨w.heap.size, 3, none⟩) (by simp)).trans (World.cell?_alloc_new _ _ _ _); have hk44 : w4.cell? ⟨w.heap.size, 4, none⟩ = some (.string ⟨t.toArray⟩) := (hb4.cell (p := ⟨w.heap.size, 4, none⟩) (by simp)).trans (World.cell?_alloc_new _ _ _ _))
        | (refine at_app (.tmp 62) (.tmp 64) ?_; refine step_app_str rfl (.tmp 62) (.tmp 64) rfl slb Try.underlying9 t rfl hown4 hb4 hs4 rfl ?_ ?_; (simp only [bcs_length, List.length_append, be_length, List.length_cons, List.length_nil]; omega); intro v5 w5 hown5 hb5 hg5 hs5; have hk53 : w5.cell? ⟨w.heap.size, 3, none⟩ = some (.int .i64 kd) := (hb5.cell (p := ⟨w.heap.size, 3, none⟩) (by simp)).trans (World.cell?_alloc_new _ _ _ _); have hk54 : w5.cell? ⟨w.heap.size, 4, none⟩ = some (.string ⟨t.toArray⟩) := (hb5.cell (p := ⟨w.heap.size, 4, none⟩) (by simp)).trans (World.cell?_alloc_new _ _ _ _)))
    go_wp2
    go_ret2
    refine ⟨_, rfl, ?_, ((Below.refl _ _).alloc (Nat.le_refl _) _).trans (hb5.mono (Nat.le_succ _))⟩
    rw [HZ.out, HXY.out, bcs_append, bcs_append, bcs_append, ← byte_wrap_one _ h4 h5]
    exact hown5.mono (Nat.le_succ _)

set_option maxHeartbeats 1600000 in
theorem c_rEncode_r (w : World) (q sq kd : Int) {A : Option Addr} {n c : Nat} {t : List UInt8} (h : ¬ (okEpoch q = true ∧ okSeq sq = true ∧ 0 ≤ kd ∧ kd ≤ 1)) :
    Calls Try.prog 9 #[.agg #[.int .i64 q, .slice A n c, .int .i64 sq, .int .i64 kd, .string ⟨t.toArray⟩]] w (RetBE 5 w [] 1) := by
  by_cases h0 : q < 0
  · clear h
    go_enter Try.func9, Try.ntmps9
    go_wp2
    go_ret2
    exact RetBE_box
  · by_cases h1 : 65535 < q
    · clear h
      go_enter Try.func9, Try.ntmps9
      go_wp2
      go_ret2
      exact RetBE_box
    · by_cases h2 : sq < 0
      · clear h
        go_enter Try.func9, Try.ntmps9
        go_wp2
        go_ret2
        exact RetBE_box
      · by_cases h3 : 281474976710655 < sq
        · clear h
          go_enter Try.func9, Try.ntmps9
          go_wp2
          go_ret2
          exact RetBE_box
        · by_cases h4 : kd < 0
          · clear h
            go_enter Try.func9, Try.ntmps9
            go_wp2
            go_ret2
            exact RetBE_box
          · have h5 : 1 < kd := by
              refine Int.lt_of_not_ge fun h5 => h ⟨?_, ?_, by omega, h5⟩
              · simp only [okEpoch, Bool.and_eq_true, decide_eq_true_eq]; omega
              · simp only [okSeq, Bool.and_eq_true, decide_eq_true_eq]; omega
            clear h
            go_enter Try.func9, Try.ntmps9
            go_wp2
            go_ret2
            exact RetBE_box

set_option maxHeartbeats 1600000 in
theorem c_rEncode_l (w : World) (q sq kd : Int) {A : Option Addr} {n c : Nat} {t : List UInt8} (hn : n ≤ 65536)
    (hq : okEpoch q = true) (hs : okSeq sq = true) (h4 : 0 ≤ kd) (h5 : kd ≤ 1) (ht : 1024 < t.length) :
    Calls Try.prog 9 #[.agg #[.int .i64 q, .slice A n c, .int .i64 sq, .int .i64 kd, .string ⟨t.toArray⟩]] w (RetBE 5 w [] 2) := by
  obtain ⟨h0, h1⟩ := okEpoch_true hq
  obtain ⟨h2, h3⟩ := okSeq_true hs
  have g0 : ¬ q < 0 := by omega
  have g1 : ¬ 65535 < q := by omega
  have g2 : ¬ sq < 0 := by omega
  have g3 : ¬ 281474976710655 < sq := by omega
  have g4 : ¬ kd < 0 := by omega
  have g5 : ¬ 1 < kd := by omega
  have g6 : ¬ 65536 < n := by omega
  clear hq hs
  go_enter Try.func9, Try.ntmps9
  go_wp2
  go_ret2
  exact RetBE_box

theorem c_rEncode (w : World) (q sq kd : Int) {B : Nat} {A : Option Addr} {n c : Nat} {l t : List UInt8} (hr : Rd w B A n (bcs l)) (hB : B ≤ w.heap.size) (hn : n ≤ 65536) :
    Calls Try.prog 9 #[.agg #[.int .i64 q, .slice A n c, .int .i64 sq, .int .i64 kd, .string ⟨t.toArray⟩]] w (RetBE 5 w (encB q l sq kd t) (encE q sq kd t)) := by
  unfold encB encE
  by_cases hk : okKey q sq kd = true
  · rw [if_pos hk, if_pos hk]
    simp only [okKey, Bool.and_eq_true, decide_eq_true_eq] at hk
    obtain ⟨⟨⟨hq, hs⟩, h4⟩, h5⟩ := hk
    by_cases ht : 1024 < t.length
    · rw [if_pos ht, if_pos ht]
      exact c_rEncode_l w q sq kd hn hq hs h4 h5 ht
    · rw [if_neg ht, if_neg ht]
      exact c_rEncode_ok w q sq kd hr hB hn hq hs h4 h5 (by omega)
  · rw [if_neg hk, if_neg hk]
    refine c_rEncode_r w q sq kd fun h => hk ?_
    simp only [okKey, Bool.and_eq_true, decide_eq_true_eq]
    exact ⟨⟨⟨h.1, h.2.1⟩, h.2.2.1⟩, h.2.2.2⟩
end Go.Proofs.Yteokhnjjneeeeaa
