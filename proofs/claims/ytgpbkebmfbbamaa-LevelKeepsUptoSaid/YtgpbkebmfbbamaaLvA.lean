/- Layer 24: sizes, limits, numbers. -/
import Derived.Test.YtgpbkebmfbbamaaMetas
import Derived.Test.YtgpbkebmfbbamaaChecked
namespace Go.Proofs.Ytgpbkebmfbbamaa
open Go.RowKit Go.Lec

set_option maxHeartbeats 1600000 in
theorem c_Size (w : World) {B : Nat} {A : Option Addr} {n c : Nat} {L : List Mt} (hr : Mts w B A n L) (hB : B ≤ w.heap.size) (hn : n ≤ 1099511627776) :
    Calls Try.prog 63 #[.slice A n c] w fun e w' => e = .returned (.int .i64 (mtSize L)) ∧ Below w.heap.size w w' := by
  have hln := hr.len
  have Hln := Lib.hid hln; clear hln
  go_enter Try.func63, Try.ntmps63
  go_wp2
  go_loopw [3, 8] (fun s i wr => ∃ k : Nat, k ≤ n ∧ i = .int .i64 k ∧ s = .int .i64 (mtSize (L.take k)) ∧ Below w.heap.size w wr) (fun _ i _ => n - (intOf i).toNat)
  case atStart => exact ⟨0, by omega, rfl, rfl, Below.refl _ _⟩
  case round =>
    obtain ⟨k, hk, rfl, rfl, hb⟩ := hrel
    by_cases hlt : k < n
    · obtain ⟨b, o, m, rfl, hbB, hm, htk, hok, hcell⟩ := hr.cell5 hlt
      have Htk := Lib.hid htk
      obtain ⟨h0, h1, h2, h3, h4⟩ := hcell wr (hb.mono hB)
      have hrg := mtSize_rng (L.take k)
      have hsn := Lib.hid (mtSize_snoc (L.take k) m)
      have hlt' : b < wr.heap.size := by have := hb.size; omega
      have hk := (Bk.new_ wr 44 #[.int .i64 m.num, .int .i64 m.size, .int .i64 m.cnt, .slice m.A1 m.n1 m.c1, .slice m.A2 m.n2 m.c2]).cell
      clear hm htk hok hcell
      generalize mtSize (L.take k) = s at *
      go_wp2
      go_roundw
      case rel => exact ⟨k + 1, by omega, by go_num, by rw [Htk.out, hsn.out]; congr 1; split <;> split <;> omega, hb.alloc hb.size _⟩
      case measure => simp [intOf]; omega
    · obtain rfl : k = n := by omega
      rw [List.take_of_length_le (by rw [Hln.out]; exact Nat.le_refl _)]
      go_wp2
      go_ret
      exact ⟨rfl, hb⟩
end Go.Proofs.Ytgpbkebmfbbamaa
