/- Layer 2: numbers written, seven bits a byte: the walks. -/
import Derived.Test.YtjcifmbbdofjiaaRows
import Derived.Test.YtjcifmbbdofjiaaMemB
import Derived.Test.YtjcifmbbdofjiaaCdPlain
import Derived.Test.YtjcifmbbdofjiaaIkPlain
import Derived.Lib.SliceRun
import Derived.Laws.BitsAllLaws
namespace Go.Proofs.Ytjcifmbbdofjiaa
open Go.RowKit Go.Lec
theorem info5 : (Try.prog.info? 5).map (fun i => (i.zero, i.size, i.bytes)) = some (some (.int .u8 0), 1, 1) := by kernel_rfl
theorem slb : SlT Try.prog 25 5 (.int .u8 0) 1 := ⟨Try.underlying25, info_parts info5, rfl⟩
theorem or_128 : ∀ x : Fin 256, x.val ||| 128 = x.val % 128 + 128 := by decide +kernel
theorem bcs1 (x : Nat) (h : x < 256) : bcs [UInt8.ofNat x] = [.int .u8 (x : Int)] := by simp [bcs, bcell, ofNat_toNat h]
theorem or128 (m : Nat) : bits .or .u8 ((m : Int) % 256) 128 = (m : Int) % 128 + 128 := by
  have h1 : ((m : Int) % 256) = ((m % 256 : Nat) : Int) := by omega
  have h2 := u8_or_nat (m % 256) 128 (by omega) (by omega)
  rw [h1]
  refine (show bits .or .u8 ((m % 256 : Nat) : Int) 128 = bits .or .u8 ((m % 256 : Nat) : Int) ((128 : Nat) : Int) from rfl).trans (h2.trans ?_)
  rw [or_128 ⟨m % 256, by omega⟩]
  show ((m % 256 % 128 + 128 : Nat) : Int) = _
  omega
set_option maxRecDepth 20000 in
set_option maxHeartbeats 800000 in
theorem c_Uint (w : World) (n : Nat) (hn : n ≤ 9223372036854775807) : Calls Try.prog 64 #[.int .u64 (n : Int)] w (RetB 5 w (uvar n)) := by
  have hlen : (uvar n).length ≤ 10 := uvar_len 9 n (Nat.lt_of_le_of_lt hn (by decide))
  go_enter Try.func64, Try.ntmps64
  go_wp2
  go_loopw [0, 3] (fun x v wr => ∃ (m : Nat) (acc : List UInt8), x = .int .u64 (m : Int) ∧ m ≤ n ∧ Hid (uvar n = acc ++ uvar m) ∧ Lec.Own wr w.heap.size 5 v (bcs acc) ∧ Below w.heap.size w wr) (fun x _ _ => (intOf x).toNat)
  case atStart => exact ⟨n, [], rfl, Nat.le_refl _, Lib.hid rfl, Own.nil_ _ _ _, Below.refl _ _⟩
  case round =>
    obtain ⟨m, acc, rfl, hm, Hac, hown, hb⟩ := hrel
    have hal : acc.length ≤ 10 := by have := congrArg List.length Hac.out; rw [List.length_append] at this; omega
    by_cases hs : m < 128
    · have Hu := Lib.hid (uvar_small hs)
      go_wp2_with (first | (at_builtin; (refine wpList_app_lit rfl _ _ rfl slb (by decide) rfl hown hb hb.size [.int .u8 (m : Int)] rfl (by simp [Value.oneCell']) (by simp only [bcs_length, List.length_cons, List.length_nil]; omega) ?_); intro v1 w1 hown1 hb1 hs1))
      go_ret
      exact ⟨_, rfl, by rw [Hac.out, Hu.out, bcs_append]; simpa [bcs, bcell_ofNat, Nat.mod_eq_of_lt (show m < 256 by omega)] using hown1, hb1⟩
    · have Hu := Lib.hid (uvar_big hs)
      have h8 := or128 m
      go_wp2_with (first | (at_builtin; (refine wpList_app_lit rfl _ _ rfl slb (by decide) rfl hown hb hb.size [.int .u8 ((m : Int) % 128 + 128)] rfl (by simp [Value.oneCell']) (by simp only [bcs_length, List.length_cons, List.length_nil]; omega) ?_); intro v1 w1 hown1 hb1 hs1))
      go_roundw
      case rel => exact ⟨m / 128, acc ++ [UInt8.ofNat (m % 128 + 128)], by go_num, by omega, Lib.hid (by rw [Hac.out, Hu.out]; simp), by rw [bcs_append, bcs1 _ (by omega), show ((m % 128 + 128 : Nat) : Int) = (m : Int) % 128 + 128 from by omega]; exact hown1, hb1⟩
      case measure => simp [intOf]; omega

set_option maxRecDepth 20000 in
set_option maxHeartbeats 800000 in
theorem c_rUint (w : World) (n : Nat) (hn : n ≤ 9223372036854775807) : Calls Try.prog 54 #[.int .u64 (n : Int)] w (RetB 5 w (uvar n)) := by
  have hlen : (uvar n).length ≤ 10 := uvar_len 9 n (Nat.lt_of_le_of_lt hn (by decide))
  go_enter Try.func54, Try.ntmps54
  go_wp2
  go_loopw [0, 3] (fun x v wr => ∃ (m : Nat) (acc : List UInt8), x = .int .u64 (m : Int) ∧ m ≤ n ∧ Hid (uvar n = acc ++ uvar m) ∧ Lec.Own wr w.heap.size 5 v (bcs acc) ∧ Below w.heap.size w wr) (fun x _ _ => (intOf x).toNat)
  case atStart => exact ⟨n, [], rfl, Nat.le_refl _, Lib.hid rfl, Own.nil_ _ _ _, Below.refl _ _⟩
  case round =>
    obtain ⟨m, acc, rfl, hm, Hac, hown, hb⟩ := hrel
    have hal : acc.length ≤ 10 := by have := congrArg List.length Hac.out; rw [List.length_append] at this; omega
    by_cases hs : m < 128
    · have Hu := Lib.hid (uvar_small hs)
      go_wp2_with (first | (at_builtin; (refine wpList_app_lit rfl _ _ rfl slb (by decide) rfl hown hb hb.size [.int .u8 (m : Int)] rfl (by simp [Value.oneCell']) (by simp only [bcs_length, List.length_cons, List.length_nil]; omega) ?_); intro v1 w1 hown1 hb1 hs1))
      go_ret
      exact ⟨_, rfl, by rw [Hac.out, Hu.out, bcs_append]; simpa [bcs, bcell_ofNat, Nat.mod_eq_of_lt (show m < 256 by omega)] using hown1, hb1⟩
    · have Hu := Lib.hid (uvar_big hs)
      have h1 : (m : Int) % 128 + 128 < 256 := by omega
      go_wp2_with (first | (at_builtin; (refine wpList_app_lit rfl _ _ rfl slb (by decide) rfl hown hb hb.size [.int .u8 ((m : Int) % 128 + 128)] rfl (by simp [Value.oneCell']) (by simp only [bcs_length, List.length_cons, List.length_nil]; omega) ?_); intro v1 w1 hown1 hb1 hs1))
      go_roundw
      case rel => exact ⟨m / 128, acc ++ [UInt8.ofNat (m % 128 + 128)], by go_num, by omega, Lib.hid (by rw [Hac.out, Hu.out]; simp), by rw [bcs_append, bcs1 _ (by omega), show ((m % 128 + 128 : Nat) : Int) = (m : Int) % 128 + 128 from by omega]; exact hown1, hb1⟩
      case measure => simp [intOf]; omega
end Go.Proofs.Ytjcifmbbdofjiaa
