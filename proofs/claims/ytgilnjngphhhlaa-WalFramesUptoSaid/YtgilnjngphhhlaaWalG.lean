/- Layer 17: two lists of bytes are alike. -/
import Derived.Test.YtgilnjngphhhlaaWalF
import Derived.BigQuiet
namespace Go.Proofs.Ytgilnjngphhhlaa
open Go.RowKit Go.Lec
theorem belowN {B : Nat} {a w : World} (h : Below B a w) (n : Nat) : Below B a (w.drewN n) := ⟨h.os, h.tape, h.output, h.size, h.block⟩

theorem take_step {l m : List UInt8} {k : Nat} (h : l.take k = m.take k) (hk : k < l.length) (hm : k < m.length) (he : l[k] = m[k]) : l.take (k + 1) = m.take (k + 1) := by
  rw [List.take_succ_eq_append_getElem hk, List.take_succ_eq_append_getElem hm, h, he]

set_option maxRecDepth 20000 in
set_option maxHeartbeats 800000 in
theorem c_Equal (w : World) {B B' : Nat} {A A' : Option Addr} {n c n' c' : Nat} {l m : List UInt8} (hr : Rd w B A n (bcs l)) (hB : B ≤ w.heap.size) (hr' : Rd w B' A' n' (bcs m)) (hB' : B' ≤ w.heap.size) (hn : n ≤ 1099511627776) :
    Calls Try.prog 23 #[.slice A n c, .slice A' n' c'] w fun e w' => e = .returned (.bool (decide (l = m))) ∧ Below w.heap.size w w' := by
  have hln := hr.1
  have hln' := hr'.1
  rw [bcs_length] at hln hln'
  have Hln := Lib.hid hln
  have Hln' := Lib.hid hln'
  clear hln hln'
  obtain ⟨R, hR⟩ : ∃ R, R = decide (l = m) := ⟨_, rfl⟩
  rw [← hR]
  have HR := Lib.hid hR
  clear hR
  by_cases hnn : n = n'
  · subst hnn
    go_enter Try.func23, Try.ntmps23
    go_wp2
    go_loopw [13] (fun i wr => ∃ k : Nat, k ≤ n ∧ i = .int .i64 k ∧ l.take k = m.take k ∧ Below w.heap.size w wr) (fun i _ => n - (intOf i).toNat)
    case atStart => exact ⟨0, Nat.zero_le _, rfl, rfl, Below.refl _ _⟩
    case round =>
      obtain ⟨k, hk, rfl, ht, hb⟩ := hrel
      have Ht := Lib.hid ht
      clear ht
      by_cases hlt : k < n
      · obtain ⟨b1, o1, rfl, hb1, hc1⟩ := (hr.below hb hB).byte hlt
        obtain ⟨b2, o2, rfl, hb2, hc2⟩ := (hr'.below hb hB').byte hlt
        have hk1 : k < l.length := by rw [Hln.out]; exact hlt
        have hk2 : k < m.length := by rw [Hln'.out]; exact hlt
        have hd1 := hc1 k hk1
        have hd2 := hc2 k hk2
        clear hc1 hc2 hr hr'
        obtain ⟨x, hx⟩ : ∃ x, x = l[k] := ⟨_, rfl⟩
        obtain ⟨y, hy⟩ : ∃ y, y = m[k] := ⟨_, rfl⟩
        rw [← hx] at hd1
        rw [← hy] at hd2
        have Hx := Lib.hid hx
        have Hy := Lib.hid hy
        clear hx hy
        have hbd : Below w.heap.size w wr.drew := hb.drew
        by_cases hxy : x = y
        · subst hxy
          have HS := Lib.hid (take_step Ht.out hk1 hk2 (by rw [← Hx.out, ← Hy.out]))
          clear Hx Hy Ht
          have hne : ((x.toNat : Int) != (x.toNat : Int)) = false := by simp
          go_wp2
          go_quiet (fail)
          go_wp2
          go_roundw
          case rel => exact ⟨k + 1, by omega, by go_num, HS.out, belowN hb _⟩
          case measure => simp [intOf]; omega
        · have hne : ((x.toNat : Int) != (y.toNat : Int)) = true := by
            have : x.toNat ≠ y.toNat := fun h => hxy (UInt8.toNat_inj.1 h)
            simp; omega
          have HN : l ≠ m := by rintro rfl; exact hxy (by rw [Hx.out, Hy.out])
          have hRf : R = false := by rw [HR.out, decide_eq_false HN]
          clear HR HN
          subst hRf
          clear Hx Hy Ht hxy
          go_wp2
          go_quiet (fail)
          go_wp2
          go_ret
          exact ⟨rfl, belowN hb _⟩
      · obtain rfl : k = n := by omega
        have he : l = m := by
          have := Ht.out
          rwa [List.take_of_length_le (by rw [Hln.out]; exact Nat.le_refl _), List.take_of_length_le (by rw [Hln'.out]; exact Nat.le_refl _)] at this
        have hRt : R = true := by rw [HR.out, decide_eq_true he]
        clear HR he Ht
        subst hRt
        go_wp2
        go_ret
        exact ⟨rfl, hb⟩
  · have HN : l ≠ m := by rintro rfl; exact hnn (by rw [← Hln.out, ← Hln'.out])
    have hRf : R = false := by rw [HR.out, decide_eq_false HN]
    clear HR HN
    subst hRf
    have hne : ((n : Int) != (n' : Int)) = true := by simp; omega
    go_enter Try.func23, Try.ntmps23
    go_wp2
    go_ret
    exact ⟨rfl, Below.refl _ _⟩
end Go.Proofs.Ytgilnjngphhhlaa
