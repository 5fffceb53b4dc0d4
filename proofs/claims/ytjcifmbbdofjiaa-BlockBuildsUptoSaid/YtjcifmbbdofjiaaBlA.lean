/- Layer 20: how many bytes two keys have in common: the walks, the program's and the document's; a number's bytes. -/
import Derived.Test.YtjcifmbbdofjiaaCdK
import Derived.Test.YtjcifmbbdofjiaaBlG
import Derived.Test.YtjcifmbbdofjiaaByX
import Derived.Test.YtjcifmbbdofjiaaBlPlain
import Derived.BigQuiet
namespace Go.Proofs.Ytjcifmbbdofjiaa
open Go.RowKit Go.Lec
theorem belowN {B : Nat} {a w : World} (h : Below B a w) (n : Nat) : Below B a (w.drewN n) := ⟨h.os, h.tape, h.output, h.size, h.block⟩
set_option maxRecDepth 20000 in
set_option maxHeartbeats 1600000 in
theorem c_common (w : World) {B B' : Nat} {A A' : Option Addr} {n c n' c' : Nat} {l m : List UInt8} (hr : Rd w B A n (bcs l)) (hB : B ≤ w.heap.size) (hr' : Rd w B' A' n' (bcs m)) (hB' : B' ≤ w.heap.size) (hn : n ≤ 1099511627776) (hn' : n' ≤ 1099511627776) :
    Calls Try.prog 50 #[.slice A n c, .slice A' n' c'] w fun e w' => e = .returned (.int .i64 (com l m : Nat)) ∧ Below w.heap.size w w' := by
  have hln := hr.1
  have hln' := hr'.1
  rw [bcs_length] at hln hln'
  have Hln := Lib.hid hln
  have Hln' := Lib.hid hln'
  clear hln hln'
  obtain ⟨R, hR⟩ : ∃ R, R = com l m := ⟨_, rfl⟩
  rw [← hR]
  have HR := Lib.hid hR
  clear hR
  go_enter Try.func50, Try.ntmps50
  go_wp2
  go_loopw [5] (fun i wr => ∃ k : Nat, k ≤ n ∧ k ≤ n' ∧ i = .int .i64 k ∧ Hid (R = k + com (l.drop k) (m.drop k)) ∧ Below w.heap.size w wr) (fun i _ => n - (intOf i).toNat)
  case atStart => exact ⟨0, Nat.zero_le _, Nat.zero_le _, rfl, Lib.hid (by rw [HR.out, List.drop_zero, List.drop_zero, Nat.zero_add]), Below.refl _ _⟩
  case round =>
    obtain ⟨k, hk, hk', rfl, HK, hb⟩ := hrel
    by_cases hlt : k < n
    · by_cases hlt' : k < n'
      · obtain ⟨b1, o1, rfl, hb1, hc1⟩ := (hr.below hb hB).byte hlt
        obtain ⟨b2, o2, rfl, hb2, hc2⟩ := (hr'.below hb hB').byte hlt'
        have hk1 : k < l.length := by rw [Hln.out]; exact hlt
        have hk2 : k < m.length := by rw [Hln'.out]; exact hlt'
        have hd1 := hc1 k hk1
        have hd2 := hc2 k hk2
        clear hc1 hc2 hr hr'
        obtain ⟨x, hx⟩ : ∃ x, x = l[k] := ⟨_, rfl⟩
        obtain ⟨y, hy⟩ : ∃ y, y = m[k] := ⟨_, rfl⟩
        rw [← hx] at hd1
        rw [← hy] at hd2
        have Hx := Lib.hid hx
        have Hy := Lib.hid hy
        clear hx hy
        by_cases hxy : x = y
        · subst hxy
          have HS := Lib.hid (show R = (k + 1) + com (l.drop (k + 1)) (m.drop (k + 1)) from by rw [HK.out, com_on hk1 hk2 (by rw [← Hx.out, ← Hy.out])]; omega)
          clear Hx Hy HK
          have hne : ((x.toNat : Int) == (x.toNat : Int)) = true := by simp
          go_wp2
          go_quiet (fail)
          go_wp2
          go_roundw
          case rel => exact ⟨k + 1, by omega, by omega, by go_num, HS, belowN hb _⟩
          case measure => simp [intOf]; omega
        · have hne : ((x.toNat : Int) == (y.toNat : Int)) = false := by
            have : x.toNat ≠ y.toNat := fun h => hxy (UInt8.toNat_inj.1 h)
            simp; omega
          have HN := Lib.hid (show R = k from by rw [HK.out, com_off hk1 hk2 (by rw [← Hx.out, ← Hy.out]; exact hxy)]; omega)
          clear Hx Hy HK hxy
          go_wp2
          go_quiet (fail)
          go_wp2
          go_ret
          exact ⟨by rw [HN.out]; rfl, belowN hb _⟩
      · obtain rfl : k = n' := by omega
        have HN := Lib.hid (show R = k from by rw [HK.out, com_nil (.inr (List.drop_of_length_le (by rw [Hln'.out]; exact Nat.le_refl _)))]; omega)
        clear HK hr hr'
        go_wp2
        go_quiet (fail)
        go_wp2
        go_ret
        exact ⟨by rw [HN.out]; rfl, belowN hb _⟩
    · obtain rfl : k = n := by omega
      have HN := Lib.hid (show R = k from by rw [HK.out, com_nil (.inl (List.drop_of_length_le (by rw [Hln.out]; exact Nat.le_refl _)))]; omega)
      clear HK hr hr'
      go_wp2
      go_quiet (fail)
      go_wp2
      go_ret
      exact ⟨by rw [HN.out]; rfl, belowN hb _⟩

set_option maxRecDepth 20000 in
set_option maxHeartbeats 1600000 in
theorem c_rcommon (w : World) {B B' : Nat} {A A' : Option Addr} {n c n' c' : Nat} {l m : List UInt8} (hr : Rd w B A n (bcs l)) (hB : B ≤ w.heap.size) (hr' : Rd w B' A' n' (bcs m)) (hB' : B' ≤ w.heap.size) (hn : n ≤ 1099511627776) (hn' : n' ≤ 1099511627776) :
    Calls Try.prog 53 #[.slice A n c, .slice A' n' c'] w fun e w' => e = .returned (.int .i64 (com l m : Nat)) ∧ Below w.heap.size w w' := by
  have hln := hr.1
  have hln' := hr'.1
  rw [bcs_length] at hln hln'
  have Hln := Lib.hid hln
  have Hln' := Lib.hid hln'
  clear hln hln'
  obtain ⟨R, hR⟩ : ∃ R, R = com l m := ⟨_, rfl⟩
  rw [← hR]
  have HR := Lib.hid hR
  clear hR
  go_enter Try.func53, Try.ntmps53
  go_wp2
  go_loopw [5] (fun i wr => ∃ k : Nat, k ≤ n ∧ k ≤ n' ∧ i = .int .i64 k ∧ Hid (R = k + com (l.drop k) (m.drop k)) ∧ Below w.heap.size w wr) (fun i _ => n - (intOf i).toNat)
  case atStart => exact ⟨0, Nat.zero_le _, Nat.zero_le _, rfl, Lib.hid (by rw [HR.out, List.drop_zero, List.drop_zero, Nat.zero_add]), Below.refl _ _⟩
  case round =>
    obtain ⟨k, hk, hk', rfl, HK, hb⟩ := hrel
    by_cases hlt : k < n
    · by_cases hlt' : k < n'
      · obtain ⟨b1, o1, rfl, hb1, hc1⟩ := (hr.below hb hB).byte hlt
        obtain ⟨b2, o2, rfl, hb2, hc2⟩ := (hr'.below hb hB').byte hlt'
        have hk1 : k < l.length := by rw [Hln.out]; exact hlt
        have hk2 : k < m.length := by rw [Hln'.out]; exact hlt'
        have hd1 := hc1 k hk1
        have hd2 := hc2 k hk2
        clear hc1 hc2 hr hr'
        obtain ⟨x, hx⟩ : ∃ x, x = l[k] := ⟨_, rfl⟩
        obtain ⟨y, hy⟩ : ∃ y, y = m[k] := ⟨_, rfl⟩
        rw [← hx] at hd1
        rw [← hy] at hd2
        have Hx := Lib.hid hx
        have Hy := Lib.hid hy
        clear hx hy
        by_cases hxy : x = y
        · subst hxy
          have HS := Lib.hid (show R = (k + 1) + com (l.drop (k + 1)) (m.drop (k + 1)) from by rw [HK.out, com_on hk1 hk2 (by rw [← Hx.out, ← Hy.out])]; omega)
          clear Hx Hy HK
          have hne : ((x.toNat : Int) == (x.toNat : Int)) = true := by simp
          go_wp2
          go_quiet (fail)
          go_wp2
          go_roundw
          case rel => exact ⟨k + 1, by omega, by omega, by go_num, HS, belowN hb _⟩
          case measure => simp [intOf]; omega
        · have hne : ((x.toNat : Int) == (y.toNat : Int)) = false := by
            have : x.toNat ≠ y.toNat := fun h => hxy (UInt8.toNat_inj.1 h)
            simp; omega
          have HN := Lib.hid (show R = k from by rw [HK.out, com_off hk1 hk2 (by rw [← Hx.out, ← Hy.out]; exact hxy)]; omega)
          clear Hx Hy HK hxy
          go_wp2
          go_quiet (fail)
          go_wp2
          go_ret
          exact ⟨by rw [HN.out]; rfl, belowN hb _⟩
      · obtain rfl : k = n' := by omega
        have HN := Lib.hid (show R = k from by rw [HK.out, com_nil (.inr (List.drop_of_length_le (by rw [Hln'.out]; exact Nat.le_refl _)))]; omega)
        clear HK hr hr'
        go_wp2
        go_quiet (fail)
        go_wp2
        go_ret
        exact ⟨by rw [HN.out]; rfl, belowN hb _⟩
    · obtain rfl : k = n := by omega
      have HN := Lib.hid (show R = k from by rw [HK.out, com_nil (.inl (List.drop_of_length_le (by rw [Hln.out]; exact Nat.le_refl _)))]; omega)
      clear HK hr hr'
      go_wp2
      go_quiet (fail)
      go_wp2
      go_ret
      exact ⟨by rw [HN.out]; rfl, belowN hb _⟩


theorem c_num (w : World) (n : Nat) (hn : n ≤ 9223372036854775807) : Calls Try.prog 51 #[.int .i64 (n : Int)] w (RetB 5 w (uvar n)) := by
  go_enter Try.func51, Try.ntmps51
  go_wp2_with fail
  refine (c_Uint w n hn).mono ?_
  rintro e w1 ⟨v, rfl, ho, hb⟩
  obtain ⟨A, c, rfl, hc⟩ := ho.shape
  go_wp2
  go_ret
  exact ⟨_, rfl, ho, hb⟩
end Go.Proofs.Ytjcifmbbdofjiaa
