/- Layer 16: the program's reader: numbers; decode; Decode. -/
import Derived.Test.YteokhnjjneeeeaaIkG
namespace Go.Proofs.Yteokhnjjneeeeaa
open Go.RowKit Go.Lec

/-- What the reader's 'number' leaves: the number, and the reader stands behind it; or it throws. -/
def NumPost (W : World) (g B n : Nat) (wide : Nat) (l : List UInt8) (e : Ending) (w' : World) : Prop :=
  (∃ A' c', wide ≤ n ∧ e = .returned (.int .i64 (num (l.take wide) : Nat)) ∧ n - wide ≤ c' ∧ Rd W B A' (n - wide) (bcs (l.drop wide)) ∧ w' = W.setCell ⟨g, 0, none⟩ (.slice A' (n - wide) c')) ∨
  (n < wide ∧ e = .panicked [{ v := failVal 160, recovered := false }] ∧ w' = W)

set_option maxHeartbeats 1600000 in
theorem c_number (W : World) (g : Nat) {B : Nat} {A : Option Addr} {n c : Nat} {l : List UInt8} (wide : Nat) (hr : Rd W B A n (bcs l)) (hc : n ≤ c) (hn : n ≤ 1099511627) (hw : 1 ≤ wide) (hw6 : wide ≤ 6)
    (h0 : W.cell? ⟨g, 0, none⟩ = some (.slice A n c)) (hz : W.frozen? ⟨g, 0, none⟩ = false) :
    Calls Try.prog 37 #[.pointer (some ⟨g, 0, none⟩), .int .i64 wide] W (NumPost W g B n wide l) := by
  have hln := hr.1
  rw [bcs_length] at hln
  by_cases hlt : n < wide
  · have hlt' : ¬ ((wide : Int) ≤ n) := by omega
    clear hln
    go_enter Try.func37, Try.ntmps37
    go_wp2_with (first | (go_at_call 38; refine (c_must_no _ _ _ ?_).mono ?_; (first | rfl | (simp; done) | (simp; omega) | (simp [*]; done)); rintro e w' ⟨rfl, rfl⟩))
    exact ⟨rfl, .inr ⟨hlt, rfl, rfl⟩⟩
  · have hle : wide ≤ n := by omega
    have hle' : ((wide : Int) ≤ n) := by omega
    have hle2 : ((wide : Int) ≤ c) := by omega
    obtain ⟨b, o, rfl, hbB, hcell⟩ := hr.byte (k := 0) (by omega)
    have Hcut := Lib.hid (hr.cut hle hc)
    have Hln := Lib.hid hln
    clear hln
    go_enter Try.func37, Try.ntmps37
    go_wp2_with (first | (go_at_call 38; refine (c_must_ok _ _ _ ?_).mono ?_; (first | rfl | (simp; done) | (simp; omega) | (simp [*]; done)); rintro e w' ⟨rfl, rfl⟩))
    go_loop [5, 7, 23] (fun x _ i => ∃ k : Nat, k ≤ wide ∧ i = .int .i64 k ∧ x = .int .i64 (num (l.take k) : Nat)) (fun _ _ i => wide - (intOf i).toNat)
    case atStart => exact ⟨0, Nat.zero_le _, rfl, rfl⟩
    case round =>
      obtain ⟨k, hk, rfl, rfl⟩ := hrel
      by_cases hkw : k < wide
      · have hkl : k < l.length := by rw [Hln.out]; omega
        have hck := hcell k hkl
        have hnl := num_lt (l.take k)
        have hnl2 : num (l.take k) < 1099511627776 := by
          refine Nat.lt_of_lt_of_le hnl ?_
          rw [List.length_take, Nat.min_eq_left (by omega)]
          exact Nat.le_trans (Nat.pow_le_pow_right (by decide) (show k ≤ 5 by omega)) (by decide)
        clear hnl hcell
        have hbt := l[k].toNat_lt
        have hor := bits_or_byte (num (l.take k)) l[k].toNat hnl2 hbt
        have Hnt := Lib.hid (num_take l k hkl)
        go_wp2
        go_round
        case rel => exact ⟨k + 1, by omega, by go_num, by rw [Hnt.out]; simp⟩
        case measure => simp [intOf]; omega
      · obtain rfl : k = wide := by omega
        clear hcell
        have Hd : Hid (bcs (l.drop k) = (bcs l).drop k) := by simp [bcs, Hid]
        by_cases hck : c = k
        · have hcut := Hcut.out
          rw [if_pos hck, ← Hd.out] at hcut
          have Hcut' := Lib.hid hcut
          clear hcut Hcut
          go_wp2
          all_goals go_ret
          all_goals first | (refine .inl ⟨_, _, hle, rfl, ?_, Hcut'.out, rfl⟩; omega) | (exfalso; omega)
        · have hcut := Hcut.out
          rw [if_neg hck, ← Hd.out] at hcut
          simp only [Option.map_some, Addr.add_lit] at hcut
          have Hcut' := Lib.hid hcut
          clear hcut Hcut
          go_wp2
          all_goals go_ret
          all_goals first | (refine .inl ⟨_, _, hle, rfl, ?_, Hcut'.out, rfl⟩; omega) | (exfalso; omega)
end Go.Proofs.Yteokhnjjneeeeaa
