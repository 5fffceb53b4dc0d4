/- Layer 18: pairs that are alike are told alike (the document's Same). -/
import Derived.Test.YtjkjlekfeelfpaaPairsB
import Derived.Test.YtjkjlekfeelfpaaProg
import Derived.BigQuiet
namespace Go.Proofs.Ytjkjlekfeelfpaa
open Go.RowKit Go.Lec

set_option maxRecDepth 40000 in
set_option maxHeartbeats 1600000 in
theorem c_SameP (w : World) {B n1 n2 c1 c2 : Nat} {A1 A2 : Option Addr} {L1 L2 : List Pr} (h1 : Prs w B A1 n1 L1) (h2 : Prs w B A2 n2 L2) (hB : B ≤ w.heap.size) (he : L1.map Pr.pl = L2.map Pr.pl) (hn : n1 ≤ 1099511627776) :
    Calls Try.prog 12 #[.slice A1 n1 c1, .slice A2 n2 c2] w fun e w' => e = .returned (.bool true) ∧ Below w.heap.size w w' := by
  obtain rfl : n1 = n2 := by rw [← h1.len, ← h2.len]; simpa using congrArg List.length he
  have He := Lib.hid he
  clear he
  go_enter Try.func12, Try.ntmps12
  go_wp2
  go_loopw [5] (fun i wr => ∃ k : Nat, k ≤ n1 ∧ i = .int .i64 k ∧ Below w.heap.size w wr) (fun i _ => n1 - (intOf i).toNat)
  case atStart => exact ⟨0, Nat.zero_le _, rfl, Below.refl _ _⟩
  case round =>
    obtain ⟨k, hk, rfl, hb⟩ := hrel
    by_cases hlt : k < n1
    · obtain ⟨b1, o1, m1, rfl, hbB1, hm1, -, hok1, hc1⟩ := h1.cell2 hlt
      obtain ⟨b2, o2, m2, rfl, hbB2, hm2, -, hok2, hc2⟩ := h2.cell2 hlt
      have hpl : m1.pl = m2.pl := by
        have := congrArg (fun l => l[k]?) He.out
        simpa [List.getElem?_map, hm1, hm2] using this
      clear hm1 hm2
      obtain ⟨D1, n3, d1, key, D2, n4, d2, vl⟩ := m1
      obtain ⟨E1, n5, e1, key', E2, n6, e2, vl'⟩ := m2
      simp only [Pr.pl, Prod.mk.injEq] at hpl
      obtain ⟨rfl, rfl⟩ := hpl
      have g1 := fun j : Nat => run_str (P := Try.prog) Try.underlying34 Try.underlying5 Try.underlying9 (c := d1) ((hok1.1.below hb hB).drewN j)
      have g2 := fun j : Nat => run_str (P := Try.prog) Try.underlying34 Try.underlying5 Try.underlying9 (c := e1) ((hok2.1.below hb hB).drewN j)
      have g3 := fun j : Nat => run_str (P := Try.prog) Try.underlying34 Try.underlying5 Try.underlying9 (c := d2) ((hok1.2.1.below hb hB).drewN j)
      have g4 := fun j : Nat => run_str (P := Try.prog) Try.underlying34 Try.underlying5 Try.underlying9 (c := e2) ((hok2.2.1.below hb hB).drewN j)
      obtain ⟨q1, q2⟩ := hc1 wr (hb.mono hB)
      obtain ⟨q3, q4⟩ := hc2 wr (hb.mono hB)
      dsimp only at *
      have i1 : (0 : Int) ≤ (k : Int) := by omega
      have i2 : (k : Int) < (n1 : Int) := by omega
      clear hc1 hc2 hok1 hok2
      go_wp2
      go_quiet (fail)
      go_wp2
      go_roundw
      case rel => exact ⟨k + 1, by omega, by go_num, below_drewN hb _⟩
      case measure => simp [intOf]; omega
    · obtain rfl : k = n1 := by omega
      go_wp2
      go_ret
      exact ⟨rfl, hb⟩
end Go.Proofs.Ytjkjlekfeelfpaa
