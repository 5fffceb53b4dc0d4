/- Layer 1: which names may be: the walk of may. -/
import Derived.Test.YtaanmnplfppdeaaFsQ
namespace Go.Proofs.Ytaanmnplfppdeaa
open Go.RowKit Go.Lec Go.Fsy Go.Op Go.Maps
set_option maxRecDepth 40000 in
set_option maxHeartbeats 800000 in
theorem c_may (w : World) (n : Bs) (hn : n.length ≤ 4294967296) :
    Calls Try.prog 25 #[.string ⟨n.toArray⟩] w fun e w' => e = .returned (.bool (may n)) ∧ w' = w := by
  obtain ⟨v, hv⟩ : ∃ v, v = may n := ⟨_, rfl⟩
  have hvE : v = (decide (1 ≤ n.length) && decide (n.length ≤ 32) && n.all mayC) := hv
  rw [← hv]
  clear hv
  have hsz : (⟨n.toArray⟩ : ByteArray).size = n.length := by simp [ByteArray.size]
  have Hv := Lib.hid hvE
  clear hvE
  by_cases h1 : n.length < 1
  · have h1' : ((n.length : Int) < 1) := by omega
    go_enter Try.func25, Try.ntmps25
    go_wp2
    go_ret
    exact ⟨by rw [Hv.out]; simp [show ¬ 1 ≤ n.length by omega], rfl⟩
  · have h1' : ¬ ((n.length : Int) < 1) := by omega
    by_cases h2 : 32 < n.length
    · have h2' : (32 : Int) < (n.length : Int) := by omega
      go_enter Try.func25, Try.ntmps25
      go_wp2
      go_ret
      exact ⟨by rw [Hv.out]; simp [show ¬ n.length ≤ 32 by omega], rfl⟩
    · have h2' : ¬ (32 : Int) < (n.length : Int) := by omega
      go_enter Try.func25, Try.ntmps25
      go_wp2
      go_loopw [14] (fun i wr => ∃ k : Nat, k ≤ n.length ∧ i = .int .i64 (k : Int) ∧ (n.take k).all mayC = true ∧ wr = w) (fun i _ => n.length - (intOf i).toNat)
      case atStart => exact ⟨0, Nat.zero_le _, rfl, rfl, rfl⟩
      case round =>
        obtain ⟨k, hk, rfl, hall, rfl⟩ := hrel
        by_cases hlt : k < n.length
        · have hki : (k : Int) < (n.length : Int) := by omega
          obtain ⟨z, hz⟩ : ∃ z, ((⟨n.toArray⟩ : ByteArray)[k]'(by rw [hsz]; exact hlt)).toNat = z := ⟨_, rfl⟩
          have hzc : n[k].toNat = z := hz
          have hmz : mayC n[k] = !(decide (z < 33) || decide (126 < z) || z == 47) := by unfold mayC; rw [hzc]
          have hHall := Lib.hid hall
          clear hall
          have hno : mayC n[k] = false → Ending.returned (.bool false) = Ending.returned (.bool v) := fun hm => by
            have : n.all mayC = false := by
              rw [Bool.eq_false_iff]
              intro h
              have := List.all_eq_true.1 h n[k] (List.getElem_mem hlt)
              rw [hm] at this; cases this
            rw [Hv.out, this, Bool.and_false]
          have Hno := Lib.hid hno
          have Hmz := Lib.hid hmz
          clear hno hmz hzc
          by_cases z1 : z < 33
          · have z1' : (z : Int) < 33 := by omega
            go_wp2
            go_ret
            exact ⟨Hno.out (by rw [Hmz.out]; simp [z1]), rfl⟩
          · have z1' : ¬ (z : Int) < 33 := by omega
            by_cases z2 : 126 < z
            · have z2' : (126 : Int) < (z : Int) := by omega
              go_wp2
              go_ret
              exact ⟨Hno.out (by rw [Hmz.out]; simp [z2]), rfl⟩
            · have z2' : ¬ (126 : Int) < (z : Int) := by omega
              by_cases z3 : z = 47
              · subst z3
                go_wp2
                go_ret
                exact ⟨Hno.out (by rw [Hmz.out]; simp), rfl⟩
              · have z3' : ((z : Int) == 47) = false := by rw [beq_eq_false_iff_ne]; omega
                go_wp2
                go_roundw
                case rel =>
                  refine ⟨k + 1, by omega, by go_num, ?_, by trivial⟩
                  rw [List.take_succ_eq_append_getElem hlt, List.all_append, hHall.out, List.all_cons, Hmz.out]
                  simp [z1, z2, z3]
                case measure => simp [intOf]; omega
        · obtain rfl : k = n.length := by omega
          rw [List.take_length] at hall
          go_wp2
          go_ret
          exact ⟨by rw [Hv.out, hall]; simp; omega, rfl⟩
end Go.Proofs.Ytaanmnplfppdeaa
