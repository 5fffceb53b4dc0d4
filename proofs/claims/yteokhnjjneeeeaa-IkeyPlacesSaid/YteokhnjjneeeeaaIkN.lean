/- Layer 16: the law IkeyWrites: any internal key is written as the document says, or refused, and read back as it is: the walk. -/
import Derived.Test.YteokhnjjneeeeaaIkM
namespace Go.Proofs.Yteokhnjjneeeeaa
open Go.RowKit Go.Lec

/-- What is written is read back as it was. -/
theorem dec_enc (q : Nat) (hq : q ≤ 65535) (l t : List UInt8) (sq kd : Int) (h2 : 0 ≤ sq) (h3 : sq ≤ 281474976710655) (h4 : 0 ≤ kd) (h5 : kd ≤ 1) (hl : l.length ≤ 65536) (ht : t.length ≤ 1024) :
    dec (be 2 q ++ escT l ++ stampB sq ++ [UInt8.ofNat (1 - kd).toNat] ++ t) = .ok ⟨q, l, sq, kd, t⟩ := by
  have e2 : (be 2 q ++ escT l ++ stampB sq ++ [UInt8.ofNat (1 - kd).toNat] ++ t).drop 2 = escT l ++ (stampB sq ++ UInt8.ofNat (1 - kd).toNat :: t) := by
    simp only [List.append_assoc]
    rw [List.drop_append_of_le_length (by rw [be_length]; omega), List.drop_eq_nil_of_le (by rw [be_length]; omega)]
    simp
  have t2 : (be 2 q ++ escT l ++ stampB sq ++ [UInt8.ofNat (1 - kd).toNat] ++ t).take 2 = be 2 q := by
    simp only [List.append_assoc]
    rw [List.take_append_of_le_length (by rw [be_length]; omega), List.take_of_length_le (by rw [be_length]; omega)]
  have hsl : (stampB sq).length = 6 := be_length _ _
  have d6 : (stampB sq ++ UInt8.ofNat (1 - kd).toNat :: t).drop 6 = UInt8.ofNat (1 - kd).toNat :: t := by
    rw [List.drop_append_of_le_length (by omega), List.drop_eq_nil_of_le (by omega)]
    simp
  have t6 : (stampB sq ++ UInt8.ofNat (1 - kd).toNat :: t).take 6 = stampB sq := by
    rw [List.take_append_of_le_length (by omega), List.take_of_length_le (by omega)]
  have hx : (UInt8.ofNat (1 - kd).toNat).toNat = (1 - kd).toNat := by rw [UInt8.toNat_ofNat']; omega
  unfold dec
  rw [if_neg (by simp only [List.length_append, be_length]; omega), e2, unesc_escT, t2]
  simp only
  rw [List.drop_left, if_neg (by simp only [List.length_append]; omega), d6, t6]
  simp only
  rw [hx, if_neg (by omega), if_neg (by omega)]
  have hn2 : num (be 2 q) = q := by rw [num_be]; omega
  have hn6 : (num (stampB sq) : Int) = 281474976710655 - sq := by
    unfold stampB
    rw [num_be, Nat.mod_eq_of_lt (by omega)]
    omega
  rw [hn2, hn6]
  congr 2 <;> omega

set_option maxHeartbeats 3200000 in
theorem w_IkeyWrites (w : World) (q sq kd : Int) {B : Nat} {A : Option Addr} {n c : Nat} {l t : List UInt8} (hr : Rd w B A n (bcs l)) (hB : B ≤ w.heap.size) :
    Calls Try.prog 3 #[.agg #[.int .i64 q, .slice A n c, .int .i64 sq, .int .i64 kd, .string ⟨t.toArray⟩]] w (RetB0 (.bool true) w) := by
  have hln := hr.1
  rw [bcs_length] at hln
  have Hln := Lib.hid hln; clear hln
  have HK0 := Bk.new_ w 24 #[.int .i64 q, .slice A n c, .int .i64 sq, .int .i64 kd, .string ⟨t.toArray⟩]
  go_enter Try.func3, Try.ntmps3
  go_wp2_with fail
  refine (c_awake _).mono ?_
  rintro e w1 ⟨rfl, hb⟩
  rw [World.size_alloc] at hb
  have HK1 := HK0.below hb (Nat.lt_succ_self _)
  have hB1 : Below w.heap.size w w1 := ((Below.refl _ _).alloc (Nat.le_refl _) _).trans (hb.mono (by omega))
  have hs1 := HK1.lt
  clear hb HK0
  have hk := HK1.cell
  go_wp2_with fail
  refine (c_few w1 q sq kd).mono ?_
  rintro e w2 ⟨rfl, hb⟩
  have HK2 := HK1.below hb hs1
  have hB2 := hB1.trans (hb.mono hB1.size)
  have hs2 := HK2.lt
  clear hb HK1 hB1 hk hs1
  have hk := HK2.cell
  by_cases hfew : n ≤ 3000 ∧ t.length ≤ 3000
  · rw [show (decide (n ≤ 3000) && decide (t.length ≤ 3000)) = true from by simp [hfew]]
    obtain ⟨hn, ht3⟩ := hfew
    go_wp2_with fail
    refine (c_Encode w2 q sq kd (hr.below hB2 hB) (Nat.le_trans hB hB2.size) (by omega)).mono ?_
    rintro e w3 ⟨vb, rfl, ho3, hb⟩
    have HK3 := HK2.below hb hs2
    have hB3 := hB2.trans (hb.mono hB2.size)
    have hs3 := HK3.lt
    clear HK2 hB2 hk hs2
    have hk := HK3.cell
    go_wp2_with fail
    refine (c_rEncode w3 q sq kd (hr.below hB3 hB) (Nat.le_trans hB hB3.size) (by omega)).mono ?_
    rintro e w4 ⟨vw, rfl, ho4, hb4⟩
    have HK4 := HK3.below hb4 hs3
    have hB4 := hB3.trans (hb4.mono hB3.size)
    have hs4 := HK4.lt
    have ho34 := ho3.below hb4 (Nat.le_refl _)
    clear HK3 hB3 hk hs3 hb hb4 ho3
    have hk := HK4.cell
    obtain ⟨E, hE⟩ : ∃ E, E = encB q l sq kd t := ⟨_, rfl⟩
    obtain ⟨er, her⟩ : ∃ er, er = encE q sq kd t := ⟨_, rfl⟩
    rw [← hE] at ho34 ho4
    rw [← her]
    have HE := Lib.hid hE
    have HEr := Lib.hid her
    clear hE her
    obtain ⟨Ab, cb, rfl, hcb⟩ := ho34.shape
    obtain ⟨Aw, cw, rfl, hcw⟩ := ho4.shape
    have hcon1 := run_str (P := Try.prog) Try.underlying22 Try.underlying5 Try.underlying9 (c := cb) ho34.rd
    have hcon2 := run_str (P := Try.prog) Try.underlying22 Try.underlying5 Try.underlying9 (c := cw) ho4.rd
    by_cases he0 : er = 0
    · subst he0
      have hok : okKey q sq kd = true ∧ ¬ 1024 < t.length := by
        have := HEr.out
        unfold encE at this
        by_cases h : okKey q sq kd = true
        · rw [if_pos h] at this
          by_cases h' : 1024 < t.length
          · rw [if_pos h'] at this; cases this
          · exact ⟨h, h'⟩
        · rw [if_neg h] at this; cases this
      obtain ⟨hk0, ht1⟩ := hok
      have hEe : E = be 2 q.toNat ++ escT l ++ stampB sq ++ [UInt8.ofNat (1 - kd).toNat] ++ t := by rw [HE.out]; unfold encB; rw [if_pos hk0, if_neg ht1]
      simp only [okKey, Bool.and_eq_true, decide_eq_true_eq] at hk0
      obtain ⟨⟨⟨hq, hs⟩, h4⟩, h5⟩ := hk0
      obtain ⟨hq0, hq1⟩ := okEpoch_true hq
      obtain ⟨h2, h3⟩ := okSeq_true hs
      have hdec := dec_enc q.toNat (by omega) l t sq kd h2 h3 h4 h5 (by have := Hln.out; omega) (by omega)
      rw [← hEe] at hdec
      have hEl : E.length ≤ 20000 := by have := escT_len l; have := Hln.out; rw [hEe]; simp only [List.length_append, be_length, stampB, List.length_cons, List.length_nil]; omega
      have hpe : preE q l = 0 := by unfold preE; rw [if_pos hq, if_neg (by have := Hln.out; omega)]
      have Hpe := Lib.hid hpe
      have Hdec := Lib.hid hdec
      obtain ⟨q, rfl⟩ := Int.eq_ofNat_of_zero_le hq0
      have hqn : (Int.toNat (q : Int)) = q := Int.toNat_natCast q
      clear hEe hdec hpe hs hq HE HEr
      go_wp2_with fail
      clear hcon1 hcon2 ho4 hcw
      refine (c_Decode w4 ho34.rd (Nat.le_refl _) hcb (by rw [bcs_length]; omega)).mono ?_
      rintro e w5 (⟨K, v, hu, rfl, ho5, hb⟩ | ⟨err, hu, rfl, hb⟩)
      · rw [Hdec.out] at hu
        cases hu
        have HK5 := HK4.below hb hs4
        have hB5 := hB4.trans (hb.mono hB4.size)
        have ho35 := ho34.below hb (Nat.le_refl _)
        have hs5 := HK5.lt
        clear HK4 hB4 hk hs4 hb ho34
        have hk := HK5.cell
        obtain ⟨Av, cv, rfl, hcv⟩ := ho5.shape
        unfold keyVal
        dsimp only at *
        clear hqn
        go_wp2_with fail
        have HO6 := Bk.new_ w5 24 #[.int .i64 q, .slice Av (bcs l).length cv, .int .i64 sq, .int .i64 kd, .string ⟨t.toArray⟩]
        refine (c_Split _ ((ho35.alloc _).rd) (Nat.le_refl _) hcb (by rw [bcs_length]; omega) Hdec.out (by have := Hln.out; dsimp only; omega)).mono ?_
        rintro e w6 ⟨p, rfl, ho6, hb⟩
        rw [World.size_alloc] at ho6 hb
        dsimp only at ho6 ⊢
        rw [Int.toNat_natCast] at *
        have HK6 := (HK5.alloc (.cells #[.int .i64 q, .slice Av (bcs l).length cv, .int .i64 sq, .int .i64 kd, .string ⟨t.toArray⟩] 24)).below hb (by omega)
        have HO7 := HO6.below hb (Nat.lt_succ_self _)
        have hB6 := (hB5.alloc (by omega) (.cells #[.int .i64 q, .slice Av (bcs l).length cv, .int .i64 sq, .int .i64 kd, .string ⟨t.toArray⟩] 24)).trans (hb.mono (by omega))
        have ho56 := (ho5.alloc (.cells #[.int .i64 q, .slice Av (bcs l).length cv, .int .i64 sq, .int .i64 kd, .string ⟨t.toArray⟩] 24)).below hb (by simp)
        have hs6 := HK6.lt
        have hso := HO7.lt
        have hne : w.heap.size ≠ w5.heap.size := by omega
        generalize w5.heap.size = g at *
        clear HK5 hB5 hk hs5 hb ho5 HO6 ho35
        have hk := HK6.cell
        have hok := HO7.cell
        obtain ⟨Ap, cp, rfl, hcp⟩ := ho6.shape
        rw [Hpe.out]
        go_wp2_with fail
        refine (c_rPrefix w6 q (hr.below hB6 hB) (Nat.le_trans hB hB6.size) (by omega)).mono ?_
        rintro e w7 ⟨pq, rfl, ho7, hb⟩
        rw [Hpe.out]
        have HK7 := HK6.below hb hs6
        have HO8 := HO7.below hb hso
        have hB7 := hB6.trans (hb.mono hB6.size)
        have ho57 := ho56.below hb (Nat.le_refl _)
        have ho67 := ho6.below hb (Nat.le_refl _)
        have hs7 := HK7.lt
        clear HK6 HO7 hB6 ho56 ho6 hk hok hb hs6
        have hk := HK7.cell
        have hok := HO8.cell
        obtain ⟨Aq, cq, rfl, hcq⟩ := ho7.shape
        go_wp2_with fail
        refine (c_same w7 q sq kd ho57.rd ((hr.below hB7 hB).more (Nat.le_trans hB hB7.size)) (Nat.le_refl _)).mono ?_
        rintro e w8 ⟨rfl, hb⟩
        have HK8 := HK7.below hb hs7
        have HO9 := HO8.below hb HO8.lt
        have hB8 := hB7.trans (hb.mono hB7.size)
        have hcon1 := run_str (P := Try.prog) Try.underlying22 Try.underlying5 Try.underlying9 (c := cp) (ho67.below hb (Nat.le_refl _)).rd
        have hcon2 := run_str (P := Try.prog) Try.underlying22 Try.underlying5 Try.underlying9 (c := cq) (ho7.below hb (Nat.le_refl _)).rd
        clear HK7 HO8 hB7 ho57 ho67 ho7 hk hok hb hs7
        have hk := HK8.cell
        have hok := HO9.cell
        go_wp2
        go_ret
        exact ⟨by simp, hB8⟩
      · rw [Hdec.out] at hu
        cases hu
    · have he1 : (er != 0) = true := by simpa using he0
      clear he0
      go_wp2
      go_ret
      exact ⟨rfl, hB4⟩
  · rw [show (decide (n ≤ 3000) && decide (t.length ≤ 3000)) = false from by simpa using fun h => Nat.lt_of_not_le fun h' => hfew ⟨h, h'⟩]
    go_wp2
    go_ret
    exact ⟨rfl, hB2⟩
end Go.Proofs.Yteokhnjjneeeeaa
