/- Layer 24, LevelSees: pairs are few; a number among numbers. -/
import Derived.Test.YtgpbkebmfbbamaaPairsB
import Derived.Test.YtgpbkebmfbbamaaLvB
import Derived.Test.YtgpbkebmfbbamaaSeesLaw
namespace Go.Lec
open Go.RowKit
/-- How long pairs are. -/
def plen (L : List Pr) : Nat := (L.map fun m => m.n1 + m.n2).sum
theorem plen_take (L : List Pr) (k : Nat) (m : Pr) (h : L.take (k + 1) = L.take k ++ [m]) : plen (L.take (k + 1)) = plen (L.take k) + (m.n1 + m.n2) := by rw [h]; simp [plen]
theorem plen_bound (L : List Pr) (M : Nat) (h : ∀ m ∈ L, m.n1 + m.n2 ≤ M) : ∀ k, plen (L.take k) ≤ M * k
  | 0 => by simp [plen]
  | k + 1 => by
    have ih := plen_bound L M h k
    by_cases hk : k < L.length
    · rw [plen_take L k L[k] (List.take_succ_eq_append_getElem hk), Nat.mul_succ]
      have := h L[k] (List.getElem_mem hk)
      omega
    · rw [List.take_of_length_le (by omega)] at ih ⊢
      rw [Nat.mul_succ]
      omega
end Go.Lec
namespace Go.Proofs.Ytgpbkebmfbbamaa
open Go.RowKit Go.Lec

set_option maxRecDepth 20000 in
set_option maxHeartbeats 800000 in
theorem c_small (w : World) {B : Nat} {A : Option Addr} {n c : Nat} {L : List Pr} (hr : Prs w B A n L) (hB : B ≤ w.heap.size) (hn : n ≤ 1048576) (hm : ∀ m ∈ L, m.n1 + m.n2 ≤ 4194304) :
    Calls Try.prog 17 #[.slice A n c] w fun e w' => e = .returned (.bool (decide (n + plen L ≤ 5000))) ∧ Below w.heap.size w w' := by
  have Hln := Lib.hid hr.len
  have HM := Lib.hid hm
  clear hm
  obtain ⟨R, hR⟩ : ∃ R, R = decide (n + plen L ≤ 5000) := ⟨_, rfl⟩
  rw [← hR]
  have HR := Lib.hid hR
  clear hR
  go_enter Try.func17, Try.ntmps17
  go_wp2
  go_loopw [3, 10] (fun s i wr => ∃ k : Nat, k ≤ n ∧ i = .int .i64 k ∧ s = .int .i64 ((n + plen (L.take k) : Nat) : Int) ∧ Below w.heap.size w wr) (fun _ i _ => n - (intOf i).toNat)
  case atStart => exact ⟨0, Nat.zero_le _, rfl, by simp [plen], Below.refl _ _⟩
  case round =>
    obtain ⟨k, hk, rfl, rfl, hb⟩ := hrel
    have hbd := plen_bound L 4194304 HM.out k
    have hbk : 4194304 * k ≤ 4194304 * 1048576 := Nat.mul_le_mul_left _ (by omega)
    obtain ⟨S, hS⟩ : ∃ S, S = n + plen (L.take k) := ⟨_, rfl⟩
    have hSb : S ≤ 5000000000000 := by omega
    rw [← hS]
    have HS := Lib.hid hS
    clear hS hbd hbk
    by_cases hlt : k < n
    · obtain ⟨b, o, m, rfl, hbB, hmk, htk, hok, hcell⟩ := hr.cell2 hlt
      obtain ⟨h0, h1⟩ := hcell wr (hb.mono hB)
      have hml := HM.out m (List.mem_of_getElem? hmk)
      have HT := Lib.hid (plen_take L k m htk)
      have hk1 := (Bk.new_ wr 82 #[.slice m.A1 m.n1 m.c1, .slice m.A2 m.n2 m.c2]).cell
      have hb1 := hb.alloc hb.size (.cells #[.slice m.A1 m.n1 m.c1, .slice m.A2 m.n2 m.c2] 82)
      have HB1 := Lib.hid hb1
      clear hmk htk hok hcell hb1
      go_wp2
      go_roundw
      case rel => exact ⟨k + 1, by omega, by go_num, by rw [HT.out]; have := HS.out; go_num, HB1.out⟩
      case measure => simp [intOf]; omega
    · obtain rfl : k = n := by omega
      have hS2 : S = k + plen L := by rw [HS.out, List.take_of_length_le (by rw [Hln.out]; exact Nat.le_refl _)]
      have hRv : R = decide ((S : Int) ≤ 5000) := by rw [HR.out, hS2]; congr 1; simp only [eq_iff_iff]; omega
      clear HS HR hS2
      go_wp2
      go_ret
      exact ⟨by rw [hRv]; rfl, hb⟩
end Go.Proofs.Ytgpbkebmfbbamaa
