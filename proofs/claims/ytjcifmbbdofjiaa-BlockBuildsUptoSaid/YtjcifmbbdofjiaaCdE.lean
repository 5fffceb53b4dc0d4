/- Layer 2: numbers of varying length read: the walks. -/
import Derived.Test.YtjcifmbbdofjiaaCdC
import Derived.Deep.CutRange
namespace Go.Lec
open Go.RowKit
theorem and_127 : ∀ x : Fin 256, x.val &&& 127 = x.val % 128 := by decide +kernel
theorem and127 (x : Nat) (hx : x < 256) : bits .and .u8 (x : Int) 127 = ((x % 128 : Nat) : Int) := by
  refine (show bits .and .u8 (x : Int) 127 = bits .and .u8 (x : Int) ((127 : Nat) : Int) from rfl).trans ((u8_and_nat x 127 hx (by omega)).trans ?_)
  rw [and_127 ⟨x, hx⟩]
theorem rdUF_nil {i a : Nat} : rdUF [] i a = .error 20 := rfl
section
variable {c : UInt8} {r : List UInt8} {i a x : Nat}
theorem rdUF_over (hx : x = c.toNat) (h : i = 9 ∧ 1 < x) : rdUF (c :: r) i a = .error 21 := by subst hx; rw [rdUF, if_pos h]
theorem rdUF_zero (hx : x = c.toNat) (h : ¬ (i = 9 ∧ 1 < x)) (hs : x < 128) (hz : x = 0 ∧ 0 < i) : rdUF (c :: r) i a = .error 21 := by subst hx; rw [rdUF, if_neg h, if_pos hs, if_pos hz]
theorem rdUF_end (hx : x = c.toNat) (h : ¬ (i = 9 ∧ 1 < x)) (hs : x < 128) (hz : ¬ (x = 0 ∧ 0 < i)) : rdUF (c :: r) i a = .ok (a + x % 128 * 128 ^ i, i + 1) := by subst hx; rw [rdUF, if_neg h, if_pos hs, if_neg hz]
theorem rdUF_on (hx : x = c.toNat) (h : ¬ (i = 9 ∧ 1 < x)) (hs : ¬ x < 128) : rdUF (c :: r) i a = rdUF r (i + 1) (a + x % 128 * 128 ^ i) := by subst hx; rw [rdUF, if_neg h, if_neg hs]
end
end Go.Lec
namespace Go.Proofs.Ytjcifmbbdofjiaa
open Go.RowKit Go.Lec
/-- The program's reading of a number: it answers, or throws. -/
def RUPost (w : World) (l : List UInt8) (e : Ending) (w' : World) : Prop :=
  (∃ v k : Nat, rdU l = .ok (v, k) ∧ e = .returned (.tuple #[.int .u64 (v : Int), .int .i64 (k : Int)]) ∧ w = w') ∨ (∃ err, rdU l = .error err ∧ e = .panicked [{ v := cdFailVal err, recovered := false }] ∧ w = w')

set_option maxRecDepth 40000 in
set_option maxHeartbeats 1600000 in
theorem c_readUint (w : World) {B n c : Nat} {A : Option Addr} {l : List UInt8} (hr : Rd w B A n (bcs l)) (hn : n ≤ 1099511627776) :
    Calls Try.prog 78 #[.slice A n c] w (RUPost w l) := by
  have hln := hr.1
  rw [bcs_length] at hln
  have Hln := Lib.hid hln
  clear hln
  go_enter Try.func78, Try.ntmps78
  go_wp2
  go_loop [4, 6] (fun v i => ∃ j a : Nat, j ≤ 9 ∧ i = .int .i64 j ∧ v = .int .u64 (a : Int) ∧ Hid (a < 128 ^ j) ∧ Hid (rdU l = rdUF (l.drop j) j a)) (fun _ i => 10 - (intOf i).toNat)
  case atStart => exact ⟨0, 0, by omega, rfl, rfl, Lib.hid (by decide), Lib.hid rfl⟩
  case round =>
    obtain ⟨j, a, hj, rfl, rfl, Ha, HR⟩ := hrel
    have hj10 : (j : Int) < 10 := by omega
    by_cases hlt : j < n
    · have hjl : j < l.length := by rw [Hln.out]; exact hlt
      obtain ⟨b, o, rfl, hbB, hcell⟩ := hr.byte hlt
      have hc := hcell j hjl
      clear hcell
      obtain ⟨x, hx⟩ : ∃ x, x = (l[j]'hjl).toNat := ⟨_, rfl⟩
      have hxb : x < 256 := by rw [hx]; exact UInt8.toNat_lt _
      have hdr : l.drop j = l[j] :: l.drop (j + 1) := List.drop_eq_getElem_cons hjl
      rw [← hx] at hc
      have Hx := Lib.hid hx
      have Hdr := Lib.hid hdr
      have e128 : (128 : Nat) ^ j = 2 ^ (7 * j) := by rw [Nat.pow_mul]
      clear hx hdr
      obtain ⟨y, hy⟩ : ∃ y, y = x % 128 := ⟨_, rfl⟩
      have hand := and127 x hxb
      rw [← hy] at hand
      have hyb : y < 128 := by omega
      have Hy := Lib.hid hy
      by_cases hov : j = 9 ∧ 1 < x
      · obtain ⟨rfl, h1⟩ := hov
        have hfin := Lib.hid (show rdU l = .error 21 from by rw [HR.out, Hdr.out]; exact rdUF_over Hx.out ⟨rfl, h1⟩)
        clear e128 hand hy
        go_wp2_with (first | (go_at_call 81; refine (c_cdMust_ok _ _ _ ?_).mono ?_; (first | rfl | (simp; done) | (simp; omega) | (simp [*]; done)); rintro e w' ⟨rfl, rfl⟩) | (go_at_call 81; refine (c_cdMust_no _ _ _ ?_).mono ?_; (first | rfl | (simp; done) | (simp; omega) | (simp [*]; done)); rintro e w' ⟨rfl, rfl⟩))
        exact ⟨rfl, .inr ⟨21, hfin.out, rfl, rfl⟩⟩
      · have HO := Lib.hid (or_step a y (7 * j) (by rw [← e128]; exact Ha.out) (by
          by_cases h9 : j = 9
          · have : x ≤ 1 := by omega
            have h1 : (y + 1) * 2 ^ (7 * j) ≤ 2 * 2 ^ 63 := by rw [h9]; exact Nat.mul_le_mul (by omega) (Nat.le_refl _)
            omega
          · have h1 : 2 ^ (7 * j) ≤ 2 ^ 56 := Nat.pow_le_pow_right (by decide) (by omega)
            have h2 : (y + 1) * 2 ^ (7 * j) ≤ 128 * 2 ^ 56 := Nat.mul_le_mul (by omega) h1
            omega))
        have H128 := Lib.hid e128
        clear e128 hy
        go_upto_region 6 with ((go_at_call 81; refine (c_cdMust_ok _ _ _ ?_).mono ?_; (first | rfl | (simp; done) | (simp; omega) | (simp [*]; done)); rintro e w' ⟨rfl, rfl⟩))
        go_cut [] from 14 to 23 (fun wx => wx = w)
        case first =>
          clear HO H128 Ha HR Hdr Hx hand Hy
          by_cases h9 : j = 9
          · have h1 : x ≤ 1 := by omega
            subst h9
            go_wp2_with (first | (go_at_call 81; refine (c_cdMust_ok _ _ _ ?_).mono ?_; (first | rfl | (simp; done) | (simp; omega) | (simp [*]; done)); rintro e w' ⟨rfl, rfl⟩))
            go_meet
            case rel => exact rfl
          · have h1 : (j : Int) < 9 := by omega
            go_wp2_with (first | (go_at_call 81; refine (c_cdMust_ok _ _ _ ?_).mono ?_; (first | rfl | (simp; done) | (simp; omega) | (simp [*]; done)); rintro e w' ⟨rfl, rfl⟩))
            go_meet
            case rel => exact rfl
        case rest =>
          subst hcut
          by_cases hs : x < 128
          · by_cases hz : x = 0 ∧ 0 < j
            · have hfin := Lib.hid (show rdU l = .error 21 from by rw [HR.out, Hdr.out]; exact rdUF_zero Hx.out hov hs hz)
              obtain ⟨h0, h1⟩ := hz
              have h2 : ((x : Int) != 0) = false := by rw [h0]; rfl
              have h3 : ((j : Int) == 0) = false := by rw [beq_eq_false_iff_ne]; omega
              clear HR h0
              go_wp2_with (first | (go_at_call 81; refine (c_cdMust_no _ _ _ ?_).mono ?_; (first | rfl | (simp; done) | (simp; omega) | (simp [*]; done)); rintro e w' ⟨rfl, rfl⟩))
              exact ⟨rfl, .inr ⟨21, hfin.out, rfl, rfl⟩⟩
            · have hfin := Lib.hid (show rdU l = .ok (a + y * 2 ^ (7 * j), j + 1) from by rw [HR.out, Hdr.out, ← H128.out, Hy.out]; exact rdUF_end Hx.out hov hs hz)
              clear HR
              by_cases h0 : j = 0
              · have h3 : ((j : Int) == 0) = true := by rw [h0]; rfl
                clear h0 hz
                go_wp2_with (first | (go_at_call 81; refine (c_cdMust_ok _ _ _ ?_).mono ?_; (first | rfl | (simp; done) | (simp; omega) | (simp [*]; done)); rintro e w' ⟨rfl, rfl⟩))
                go_ret2
                exact .inl ⟨_, _, hfin.out, by rw [HO.out]; rfl, rfl⟩
              · have h3 : ((j : Int) == 0) = false := by rw [beq_eq_false_iff_ne]; omega
                have h2 : ((x : Int) != 0) = true := by rw [bne_iff_ne]; omega
                clear h0 hz
                go_wp2_with (first | (go_at_call 81; refine (c_cdMust_ok _ _ _ ?_).mono ?_; (first | rfl | (simp; done) | (simp; omega) | (simp [*]; done)); rintro e w' ⟨rfl, rfl⟩))
                go_ret2
                exact .inl ⟨_, _, hfin.out, by rw [HO.out]; rfl, rfl⟩
          · have hfin := Lib.hid (show rdU l = rdUF (l.drop (j + 1)) (j + 1) (a + y * 2 ^ (7 * j)) from by rw [HR.out, Hdr.out, ← H128.out, Hy.out]; exact rdUF_on Hx.out hov hs)
            clear HR
            have hlast : j ≤ 8 := by
              by_cases h9 : j = 9
              · exact absurd ⟨h9, by omega⟩ hov
              · omega
            have Ha2 := Lib.hid (show a + y * 2 ^ (7 * j) < 128 ^ (j + 1) from by
              have h1 := Ha.out
              rw [Nat.pow_succ, H128.out] at *
              have h2 : y * 2 ^ (7 * j) ≤ 127 * 2 ^ (7 * j) := Nat.mul_le_mul_right _ (by omega)
              omega)
            go_wp2
            go_round
            case rel => exact ⟨j + 1, _, by omega, by go_num, by rw [HO.out], Ha2, hfin⟩
            case measure => simp [intOf]; omega
    · have hfin := Lib.hid (show rdU l = .error 20 from by rw [HR.out, List.drop_of_length_le (by rw [Hln.out]; omega)]; rfl)
      clear HR
      go_wp2_with (first | (go_at_call 81; refine (c_cdMust_no _ _ _ ?_).mono ?_; (first | rfl | (simp; done) | (simp; omega) | (simp [*]; done)); rintro e w' ⟨rfl, rfl⟩))
      exact ⟨rfl, .inr ⟨20, hfin.out, rfl, rfl⟩⟩

/-- What the document's reading answers. -/
def RUrPost (w : World) (l : List UInt8) (e : Ending) (w' : World) : Prop :=
  (∃ v k : Nat, rdU l = .ok (v, k) ∧ e = .returned (.tuple #[.int .u64 (v : Int), .int .i64 (k : Int), .int .i64 0]) ∧ w = w') ∨ (∃ err, rdU l = .error err ∧ e = .returned (.tuple #[.int .u64 0, .int .i64 0, .int .i64 err]) ∧ w = w')
set_option maxRecDepth 40000 in
set_option maxHeartbeats 1600000 in
theorem c_rReadUint (w : World) {B n c : Nat} {A : Option Addr} {l : List UInt8} (hr : Rd w B A n (bcs l)) (hn : n ≤ 1099511627776) :
    Calls Try.prog 72 #[.slice A n c] w (RUrPost w l) := by
  have hln := hr.1
  rw [bcs_length] at hln
  have Hln := Lib.hid hln
  clear hln
  go_enter Try.func72, Try.ntmps72
  go_wp2
  go_loop [5, 6] (fun v i => ∃ j a : Nat, j ≤ 9 ∧ j ≤ n ∧ i = .int .i64 j ∧ v = .int .u64 (a : Int) ∧ Hid (a < 128 ^ j) ∧ Hid (rdU l = rdUF (l.drop j) j a)) (fun _ i => 10 - (intOf i).toNat)
  case atStart => exact ⟨0, 0, by omega, Nat.zero_le _, rfl, rfl, Lib.hid (by decide), Lib.hid rfl⟩
  case round =>
    obtain ⟨j, a, hj, hjn, rfl, rfl, Ha, HR⟩ := hrel
    by_cases hlt : j < n
    · have hjl : j < l.length := by rw [Hln.out]; exact hlt
      obtain ⟨b, o, rfl, hbB, hcell⟩ := hr.byte hlt
      have hc := hcell j hjl
      clear hcell
      have h10 : ((j : Int) == 10) = false := by rw [beq_eq_false_iff_ne]; omega
      obtain ⟨x, hx⟩ : ∃ x, x = (l[j]'hjl).toNat := ⟨_, rfl⟩
      have hxb : x < 256 := by rw [hx]; exact UInt8.toNat_lt _
      have hdr : l.drop j = l[j] :: l.drop (j + 1) := List.drop_eq_getElem_cons hjl
      rw [← hx] at hc
      have Hx := Lib.hid hx
      have Hdr := Lib.hid hdr
      have e128 : (128 : Nat) ^ j = 2 ^ (7 * j) := by rw [Nat.pow_mul]
      clear hx hdr
      obtain ⟨y, hy⟩ : ∃ y, y = x % 128 := ⟨_, rfl⟩
      have hand : (x : Int) % 128 = (y : Int) := by omega
      have hyb : y < 128 := by omega
      have Hy := Lib.hid hy
      by_cases hov : j = 9 ∧ 1 < x
      · obtain ⟨rfl, h1⟩ := hov
        have hfin := Lib.hid (show rdU l = .error 21 from by rw [HR.out, Hdr.out]; exact rdUF_over Hx.out ⟨rfl, h1⟩)
        clear e128 hand hy
        go_wp2
        go_ret3
        exact .inr ⟨21, hfin.out, rfl, rfl⟩
      · have HO := Lib.hid (or_step a y (7 * j) (by rw [← e128]; exact Ha.out) (by
          by_cases h9 : j = 9
          · have : x ≤ 1 := by omega
            have h1 : (y + 1) * 2 ^ (7 * j) ≤ 2 * 2 ^ 63 := by rw [h9]; exact Nat.mul_le_mul (by omega) (Nat.le_refl _)
            omega
          · have h1 : 2 ^ (7 * j) ≤ 2 ^ 56 := Nat.pow_le_pow_right (by decide) (by omega)
            have h2 : (y + 1) * 2 ^ (7 * j) ≤ 128 * 2 ^ 56 := Nat.mul_le_mul (by omega) h1
            omega))
        have H128 := Lib.hid e128
        clear e128 hy
        go_upto_region 5 with fail
        go_cut [25] from 13 to 25 (fun v wx => v = .bool false ∧ wx = w)
        case first =>
          clear HO H128 Ha HR Hdr Hx hand Hy
          by_cases h9 : j = 9
          · have h1 : ¬ 1 < x := by omega
            have h2 : ((j : Int) == 9) = true := by rw [h9]; rfl
            clear h9 hov
            go_wp2
            go_meet
            case rel => exact ⟨by rw [decide_eq_false (by omega)], rfl⟩
          · have h2 : ((j : Int) == 9) = false := by rw [beq_eq_false_iff_ne]; omega
            go_wp2
            go_meet
            case rel => exact ⟨rfl, rfl⟩
        case rest =>
          obtain ⟨rfl, rfl⟩ := hcut
          by_cases hs : x < 128
          · by_cases hz : x = 0 ∧ 0 < j
            · have hfin := Lib.hid (show rdU l = .error 21 from by rw [HR.out, Hdr.out]; exact rdUF_zero Hx.out hov hs hz)
              obtain ⟨h0, h1⟩ := hz
              have h2 : ((x : Int) == 0) = true := by rw [h0]; rfl
              have h3 : (0 : Int) < (j : Int) := by omega
              clear HR h0
              go_wp2
              go_ret3
              exact .inr ⟨21, hfin.out, rfl, rfl⟩
            · have hfin := Lib.hid (show rdU l = .ok (a + y * 2 ^ (7 * j), j + 1) from by rw [HR.out, Hdr.out, ← H128.out, Hy.out]; exact rdUF_end Hx.out hov hs hz)
              clear HR
              by_cases h0 : x = 0
              · have h3 : ¬ (0 : Int) < (j : Int) := by omega
                have h2 : ((x : Int) == 0) = true := by rw [h0]; rfl
                clear h0 hz
                go_wp2
                go_ret3
                exact .inl ⟨_, _, hfin.out, by rw [HO.out]; rfl, rfl⟩
              · have h2 : ((x : Int) == 0) = false := by rw [beq_eq_false_iff_ne]; omega
                clear h0 hz
                go_wp2
                go_ret3
                exact .inl ⟨_, _, hfin.out, by rw [HO.out]; rfl, rfl⟩
          · have hfin := Lib.hid (show rdU l = rdUF (l.drop (j + 1)) (j + 1) (a + y * 2 ^ (7 * j)) from by rw [HR.out, Hdr.out, ← H128.out, Hy.out]; exact rdUF_on Hx.out hov hs)
            clear HR
            have hlast : j ≤ 8 := by
              by_cases h9 : j = 9
              · exact absurd ⟨h9, by omega⟩ hov
              · omega
            have Ha2 := Lib.hid (show a + y * 2 ^ (7 * j) < 128 ^ (j + 1) from by
              have h1 := Ha.out
              rw [Nat.pow_succ, H128.out] at *
              have h2 : y * 2 ^ (7 * j) ≤ 127 * 2 ^ (7 * j) := Nat.mul_le_mul_right _ (by omega)
              omega)
            go_wp2
            go_round
            case rel => exact ⟨j + 1, _, by omega, by omega, by go_num, by rw [HO.out], Ha2, hfin⟩
            case measure => simp [intOf]; omega
    · have hfin := Lib.hid (show rdU l = .error 20 from by rw [HR.out, List.drop_of_length_le (by rw [Hln.out]; omega)]; rfl)
      clear HR
      go_wp2
      go_ret3
      exact .inr ⟨20, hfin.out, rfl, rfl⟩
end Go.Proofs.Ytjcifmbbdofjiaa
