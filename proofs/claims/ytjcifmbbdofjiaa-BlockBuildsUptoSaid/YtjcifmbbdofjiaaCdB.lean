/- Layer 2: numbers written in four bytes: the walks. -/
import Derived.Test.YtjcifmbbdofjiaaCdA
namespace Go.Proofs.Ytjcifmbbdofjiaa
open Go.RowKit Go.Lec
set_option maxRecDepth 20000 in
set_option maxHeartbeats 800000 in
theorem c_Fixed (w : World) (x : Nat) (hx : x < 4294967296) : Calls Try.prog 52 #[.int .u64 (x : Int), .int .i64 4] w (RetBE 5 w (le 4 x) 0) := by
  have hx' : (x : Int) / 4294967296 = 0 := by omega
  go_enter Try.func52, Try.ntmps52
  go_wp2_with (first | (at_make; (refine wpList_make_n rfl _ _ rfl slb (by decide) rfl (Nat.le_refl _) 4 rfl rfl rfl rfl (by omega) ?_); intro w1 hown hb1 hs1))
  clear hx'
  go_loopw [29] (fun i wr => ∃ (j : Nat), j ≤ 4 ∧ i = .int .i64 (j : Int) ∧
      Lec.Own wr w.heap.size 5 (.slice (some ⟨w.heap.size, 0, none⟩) 4 4) (bcs ((le 4 x).take j) ++ List.replicate (4 - j) (.int .u8 0)) ∧ Below w.heap.size w wr) (fun i _ => 4 - (intOf i).toNat)
  case atStart => exact ⟨0, Nat.zero_le _, rfl, by simpa [bcs] using hown, hb1⟩
  case round =>
    obtain ⟨j, hj, rfl, hown, hb⟩ := hrel
    by_cases hlt : j < 4
    · have hfz := hown.frozenAt j
      have hcell := hown.cellAt j hlt
      have hlj : (bcs ((le 4 x).take j)).length = j := by rw [bcs_length, List.length_take, le_length]; omega
      rw [List.getElem?_append_right (by rw [hlj]; exact Nat.le_refl _), hlj, Nat.sub_self, List.getElem?_replicate, if_pos (by omega)] at hcell
      have hst := hown.stored j (bcell (UInt8.ofNat (x / 256 ^ j)))
      rw [le_set 4 x j hlt] at hst
      have hbs : Below w.heap.size w (wr.setCell ⟨w.heap.size, j, none⟩ (bcell (UInt8.ofNat (x / 256 ^ j)))) := hb.setCell (Nat.le_refl _) _
      rw [← byte_sh] at hst hbs
      have Hst := Lib.hid hst; clear hst
      have Hbs := Lib.hid hbs; clear hbs
      clear hlj hown hb hs1 hb1
      go_wp2
      go_roundw
      case rel => exact ⟨j + 1, by omega, by go_num, Hst.out, Hbs.out⟩
      case measure => simp [intOf]; omega
    · obtain rfl : j = 4 := by omega
      go_wp2
      go_ret2
      exact ⟨_, rfl, by rw [Nat.sub_self, List.replicate_zero, List.append_nil, List.take_of_length_le (by rw [le_length]; exact Nat.le_refl _)] at hown; exact hown, hb⟩

theorem le_take_succ (k x j : Nat) (h : j < k) : (le k x).take (j + 1) = (le k x).take j ++ [UInt8.ofNat (x / 256 ^ j % 256)] := by
  have hi : j < (le k x).length := by rw [le_length]; exact h
  rw [List.take_succ_eq_append_getElem hi]
  have := le_get k x j h
  rw [List.getElem?_eq_getElem hi] at this
  rw [Option.some.inj this]
  congr 2
  exact UInt8.toNat_inj.1 (by rw [UInt8.toNat_ofNat', UInt8.toNat_ofNat']; omega)
set_option maxRecDepth 20000 in
set_option maxHeartbeats 800000 in
theorem c_rFixed (w : World) (x : Nat) (hx : x < 4294967296) : Calls Try.prog 55 #[.int .u64 (x : Int), .int .i64 4] w (RetBE 5 w (le 4 x) 0) := by
  have hx' : (x : Int) / 4294967296 = 0 := by omega
  go_enter Try.func55, Try.ntmps55
  go_wp2
  clear hx'
  go_loopw [0, 6, 7] (fun y v i wr => ∃ (j : Nat), j ≤ 4 ∧ i = .int .i64 (j : Int) ∧ y = .int .u64 ((x / 256 ^ j : Nat) : Int) ∧ Lec.Own wr w.heap.size 5 v (bcs ((le 4 x).take j)) ∧ Below w.heap.size w wr) (fun _ _ i _ => 4 - (intOf i).toNat)
  case atStart => exact ⟨0, Nat.zero_le _, rfl, by simp, Own.nil_ _ _ _, Below.refl _ _⟩
  case round =>
    obtain ⟨j, hj, rfl, rfl, hown, hb⟩ := hrel
    have hll : ((le 4 x).take j).length ≤ 4 := by rw [List.length_take, le_length]; omega
    by_cases hlt : j < 4
    · have hd : x / 256 ^ (j + 1) = x / 256 ^ j / 256 := by rw [Nat.pow_succ, Nat.div_div_eq_div_mul]
      have HT := Lib.hid (le_take_succ 4 x j hlt)
      have Hd := Lib.hid hd
      clear hd
      obtain ⟨y, hy⟩ : ∃ y, y = x / 256 ^ j := ⟨_, rfl⟩
      have hyb : y < 4294967296 := by rw [hy]; exact Nat.lt_of_le_of_lt (Nat.div_le_self _ _) hx
      rw [← hy] at HT Hd ⊢
      clear hy
      go_wp2_with (first | (at_builtin; (refine wpList_app_lit rfl _ _ rfl slb (by decide) rfl hown hb hb.size [.int .u8 ((y : Int) % 256)] rfl (by simp [Value.oneCell']) (by simp only [bcs_length, List.length_cons, List.length_nil]; omega) ?_); intro v1 w1 hown1 hb1 hs1))
      go_roundw
      case rel => exact ⟨j + 1, by omega, by go_num, by rw [Hd.out]; go_num, by rw [HT.out, bcs_append, bcs1 _ (by omega), show ((y % 256 : Nat) : Int) = (y : Int) % 256 from by omega]; exact hown1, hb1⟩
      case measure => simp [intOf]; omega
    · obtain rfl : j = 4 := by omega
      rw [List.take_of_length_le (by rw [le_length]; exact Nat.le_refl _)] at hown
      go_wp2
      go_ret2
      exact ⟨_, rfl, hown, hb⟩
end Go.Proofs.Ytjcifmbbdofjiaa
