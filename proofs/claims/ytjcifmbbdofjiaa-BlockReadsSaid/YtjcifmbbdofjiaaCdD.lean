/- Layer 2: numbers read of four bytes by the document: the walk. -/
import Derived.Test.YtjcifmbbdofjiaaCdC
namespace Go.Lec
theorem unle_drop (l : List UInt8) (k : Nat) (h : k < l.length) : unle (l.drop k) = l[k].toNat + 256 * unle (l.drop (k + 1)) := by
  rw [List.drop_eq_getElem_cons h, unle]
end Go.Lec
namespace Go.Proofs.Ytjcifmbbdofjiaa
open Go.RowKit Go.Lec
/-- What the document's reading answers. -/
def rRF (w : World) (x : Nat) (e : Ending) (w' : World) : Prop := e = .returned (.tuple #[.int .u64 (x : Int), .int .i64 4, .int .i64 0]) ∧ w = w'
set_option maxRecDepth 40000 in
set_option maxHeartbeats 800000 in
theorem c_rReadFixed (w : World) {B n c : Nat} {A : Option Addr} {l : List UInt8} (hr : Rd w B A n (bcs l)) (h4 : 4 ≤ n) (hn : n ≤ 1099511627776) :
    Calls Try.prog 58 #[.slice A n c, .int .i64 4] w (rRF w (unle (l.take 4))) := by
  have hln := hr.1
  rw [bcs_length] at hln
  have Hln := Lib.hid hln
  clear hln
  obtain ⟨b, o, rfl, hbB, hcell⟩ := hr.byte (k := 0) (by omega)
  have HC := Lib.hid hcell
  clear hcell
  go_enter Try.func58, Try.ntmps58
  go_wp2
  go_loop [7, 8] (fun a i => ∃ j : Nat, j ≤ 4 ∧ i = .int .i64 ((j : Int) - 1) ∧ a = .int .u64 (unle ((l.take 4).drop j) : Nat)) (fun _ i => (intOf i + 1).toNat)
  case atStart => exact ⟨4, Nat.le_refl _, rfl, by rw [List.drop_of_length_le (by rw [List.length_take]; omega)]; rfl⟩
  case round =>
    obtain ⟨j, hj, rfl, rfl⟩ := hrel
    rcases j with _ | j
    · rw [List.drop_zero]
      go_wp2
      go_ret3
      exact ⟨rfl, rfl⟩
    · have hlt4 : j < (l.take 4).length := by rw [List.length_take, Hln.out]; omega
      have hc := HC.out j (by rw [Hln.out]; omega)
      have hg : (l.take 4)[j] = l[j]'(by rw [Hln.out]; omega) := List.getElem_take
      have HT := Lib.hid (unle_drop (l.take 4) j hlt4)
      have hb := unle_lt ((l.take 4).drop (j + 1))
      have hb2 : (256 : Nat) ^ ((l.take 4).drop (j + 1)).length ≤ 256 ^ 3 := Nat.pow_le_pow_right (by decide) (by rw [List.length_drop, List.length_take]; omega)
      rw [hg] at HT
      obtain ⟨a, ha⟩ : ∃ a, a = unle ((l.take 4).drop (j + 1)) := ⟨_, rfl⟩
      obtain ⟨x, hx⟩ : ∃ x, x = (l[j]'(by rw [Hln.out]; omega)).toNat := ⟨_, rfl⟩
      have hab : a < 16777216 := by omega
      have hxb : x < 256 := by rw [hx]; exact UInt8.toNat_lt _
      rw [← ha] at HT ⊢
      rw [← hx] at hc HT
      have i1 : (j : Int) + 1 - 1 = (j : Int) := by omega
      rw [show (((j + 1 : Nat) : Int) - 1) = (j : Int) from by omega]
      clear ha hx hg hb hb2 i1
      go_wp2
      go_round
      case rel => exact ⟨j, by omega, by go_num, by rw [HT.out]; go_num⟩
      case measure => simp [intOf]
end Go.Proofs.Ytjcifmbbdofjiaa
