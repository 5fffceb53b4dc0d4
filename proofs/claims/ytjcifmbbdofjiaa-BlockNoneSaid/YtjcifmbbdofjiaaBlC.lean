/- Layer 20: whether what was read is a block: the walks. -/
import Derived.Test.YtjcifmbbdofjiaaBlB
import Derived.Test.YtjcifmbbdofjiaaBlWhole
namespace Go.Proofs.Ytjcifmbbdofjiaa
open Go.RowKit Go.Lec Go.Op
set_option maxRecDepth 40000 in
set_option maxHeartbeats 3200000 in
theorem c_is (w : World) (b1 b2 : Nat) {B n c np cp every : Nat} {A Ap : Option Addr} {X : List Ex} {ps : List Nat} (hE : Els encEx w B A n X) (hP : Rd w B Ap np (ncs ps)) (hB : B ≤ w.heap.size) (hn : n ≤ 1048576) (hnp : np ≤ 1048576) (h1 : 1 ≤ every) (h2 : every ≤ 1048576)
    (q1 : w.cell? ⟨b1, 0, none⟩ = some (.slice A n c)) (q2 : w.cell? ⟨b2, 0, none⟩ = some (.slice Ap np cp)) :
    Calls Try.prog 71 #[.int .i64 (every : Int), .pointer (some ⟨b1, 0, none⟩), .pointer (some ⟨b2, 0, none⟩)] w fun e w' => e = .returned (.bool (isW every (X.map Ex.en) ps)) ∧ Below w.heap.size w w' := by
  have hXl := hE.2.1
  have hpl := hP.1
  rw [ncs_length] at hpl
  have HXl := Lib.hid hXl
  have Hpl := Lib.hid hpl
  clear hXl hpl
  have l1 := World.block_lt_of_cell? w _ q1
  have l2 := World.block_lt_of_cell? w _ q2
  dsimp only at l1 l2
  have hne : ((every : Int) == 0) = false := by rw [beq_eq_false_iff_ne]; omega
  obtain ⟨R, hR⟩ : ∃ R, R = isW every (X.map Ex.en) ps := ⟨_, rfl⟩
  rw [← hR]
  have HR := Lib.hid hR
  clear hR
  by_cases hd : (n + every - 1) / every = np
  · have hd1 : (((n : Int) + (every : Int) - 1) / (every : Int) != (np : Int)) = false := by
      rw [bne_eq_false_iff_eq]
      have : ((n + every - 1 : Nat) : Int) = (n : Int) + (every : Int) - 1 := by omega
      rw [← this, ← Int.natCast_ediv, hd]
    have Hd := Lib.hid hd
    clear hd
    go_enter Try.func71, Try.ntmps71
    go_wp2
    go_quiet (fail)
    obtain ⟨W, hW⟩ : ∃ W, W = w.drewN nq := ⟨_, rfl⟩
    have hbW : Below w.heap.size w W := by rw [hW]; exact belowN (Below.refl _ _) _
    rw [← hW]
    clear hW
    have q1' := (hbW.cell (p := ⟨b1, 0, none⟩) l1).trans q1
    go_wp2
    go_loopw [19] (fun i wr => ∃ k : Nat, k ≤ n ∧ i = .int .i64 k ∧ Hid ((List.range k).all (okAt every (X.map Ex.en) ps) = true) ∧ Below w.heap.size w wr) (fun i _ => n - (intOf i).toNat)
    case atStart => exact ⟨0, Nat.zero_le _, rfl, Lib.hid rfl, hbW⟩
    case round =>
      clear q1' hd1 q1
      obtain ⟨k, hk, rfl, HA, hb⟩ := hrel
      by_cases hlt : k < n
      · obtain ⟨b, o, m, rfl, hbB, hmk, _, _, hcell⟩ := hE.at hlt
        have hcw := fun j u h => hcell wr (hb.mono hB) j u h
        have c0 := hcw 0 _ rfl
        have c1 := hcw 1 _ rfl
        have c2 := hcw 2 _ rfl
        have c3 := hcw 3 _ rfl
        have c4 := hcw 4 _ rfl
        rw [show o + k * encEx.k + 0 = o + k * 5 from rfl] at c0
        rw [show encEx.k = 5 from rfl] at c1 c2 c3 c4
        have HP := Bk.new_ wr 74 #[.int .i64 (m.at_ : Int), .slice m.A1 m.n1 m.c1, .slice m.A2 m.n2 m.c2, .int .i64 (m.has : Int), .int .i64 (m.may : Int)]
        have hb3 := hb.alloc hb.size (.cells #[.int .i64 (m.at_ : Int), .slice m.A1 m.n1 m.c1, .slice m.A2 m.n2 m.c2, .int .i64 (m.has : Int), .int .i64 (m.may : Int)] 74)
        have q2' := (hb3.cell (p := ⟨b2, 0, none⟩) l2).trans q2
        have hpc := HP.cell
        have hok : okAt every (X.map Ex.en) ps k = if k % every = 0 then decide (m.has = 0) && decide (ps[k / every]? = some m.at_) else decide (m.has = m.may) := by
          rw [okAt, List.getElem?_map, hmk]; rfl
        have Hok := Lib.hid hok
        have hki : k / every < np := by
          have h3 := Hd.out
          rw [← h3]
          exact (Nat.div_lt_iff_lt_mul (by omega)).2 (by
            have := Nat.div_mul_le_self (n + every - 1) every
            have h4 := Nat.lt_div_mul_add (a := n + every - 1) (b := every) (by omega)
            omega)
        obtain ⟨bp, op, rfl, hbp, hpcell⟩ := hP.natAt hki
        have hcpl : k / every < ps.length := by rw [Hpl.out]; exact hki
        have hpc2 := hpcell _ (hb3.mono hB) (k / every) ps[k / every] (List.getElem?_eq_getElem hcpl)
        obtain ⟨y, hy⟩ : ∃ y, y = ps[k / every] := ⟨_, rfl⟩
        rw [← hy] at hpc2
        have hyo : ps[k / every]? = some y := by rw [hy]; exact List.getElem?_eq_getElem hcpl
        have Hyo := Lib.hid hyo
        have hkm : ((k : Int) % (every : Int)) = ((k % every : Nat) : Int) := by simp
        have hkd0 : 0 ≤ (k : Int) / (every : Int) := by rw [← Int.natCast_ediv]; exact Int.natCast_nonneg _
        have hkd1 : (k : Int) / (every : Int) < (np : Int) := by rw [← Int.natCast_ediv]; exact Int.ofNat_lt.2 hki
        have hkd2 : ¬ (np : Int) ≤ (k : Int) / (every : Int) := Int.not_le.2 hkd1
        have Hkm := Lib.hid hkm
        clear hcell hcw hok hyo hy hmk hpcell hE hP hkm
        go_upto_region 6 with fail
        obtain ⟨W1, hW1⟩ : ∃ W, W = wr.alloc (.cells #[.int .i64 (m.at_ : Int), .slice m.A1 m.n1 m.c1, .slice m.A2 m.n2 m.c2, .int .i64 (m.has : Int), .int .i64 (m.may : Int)] 74) := ⟨_, rfl⟩
        rw [← hW1] at HP hb3 hpc q2' hpc2 ⊢
        obtain ⟨G, hG⟩ : ∃ G, G = wr.heap.size := ⟨_, rfl⟩
        rw [← hG] at HP hpc ⊢
        clear hW1 hG c0 c1 c2 c3 c4 q2
        by_cases hz : k % every = 0
        · have hzz : (((k : Int) % (every : Int)) == 0) = true := by rw [Hkm.out, hz]; rfl
          have Hz := Lib.hid hz
          clear hz
          by_cases ha : m.has = 0
          · have haa : ((m.has : Int) != 0) = false := by rw [ha]; rfl
            have Ha := Lib.hid ha
            clear ha
            by_cases hyy : y = m.at_
            · have hyc : ((y : Int) != (m.at_ : Int)) = false := by rw [hyy]; simp
              have HS := Lib.hid (show (List.range (k + 1)).all (okAt every (X.map Ex.en) ps) = true from by rw [all_snoc, HA.out, Hok.out, if_pos Hz.out, Ha.out, Hyo.out, hyy]; simp)
              clear hyy HA Hok
              go_wp2
              go_quiet (fail)
              go_wp2
              go_roundw
              case rel => exact ⟨k + 1, by omega, by go_num, HS, belowN hb3 _⟩
              case measure => simp [intOf]; omega
            · have hyc : ((y : Int) != (m.at_ : Int)) = true := by rw [bne_iff_ne]; omega
              have hF : okAt every (X.map Ex.en) ps k = false := by rw [Hok.out, if_pos Hz.out, Hyo.out]; simp [hyy]
              clear hyy Hok
              have HRf := Lib.hid (show R = false from by rw [HR.out, isW, List.length_map, HXl.out, all_get hlt hF, Bool.and_false])
              clear hF
              go_wp2
              go_quiet (fail)
              go_wp2
              go_ret
              exact ⟨by rw [HRf.out]; rfl, belowN hb3 _⟩
          · have haa : ((m.has : Int) != 0) = true := by rw [bne_iff_ne]; omega
            have hF : okAt every (X.map Ex.en) ps k = false := by rw [Hok.out, if_pos Hz.out, decide_eq_false ha]; rfl
            clear ha Hok
            have HRf := Lib.hid (show R = false from by rw [HR.out, isW, List.length_map, HXl.out, all_get hlt hF, Bool.and_false])
            clear hF
            go_wp2
            go_quiet (fail)
            go_wp2
            go_ret
            exact ⟨by rw [HRf.out]; rfl, belowN hb3 _⟩
        · have hzz : (((k : Int) % (every : Int)) == 0) = false := by rw [Hkm.out, beq_eq_false_iff_ne]; omega
          have Hz := Lib.hid hz
          clear hz
          by_cases ha : m.has = m.may
          · have haa : ((m.has : Int) != (m.may : Int)) = false := by rw [ha]; simp
            have HS := Lib.hid (show (List.range (k + 1)).all (okAt every (X.map Ex.en) ps) = true from by rw [all_snoc, HA.out, Hok.out, if_neg Hz.out, decide_eq_true ha]; rfl)
            clear ha HA Hok
            go_wp2
            go_roundw
            case rel => exact ⟨k + 1, by omega, by go_num, HS, hb3⟩
            case measure => simp [intOf]; omega
          · have haa : ((m.has : Int) != (m.may : Int)) = true := by rw [bne_iff_ne]; omega
            have hF : okAt every (X.map Ex.en) ps k = false := by rw [Hok.out, if_neg Hz.out, decide_eq_false ha]
            have HRf := Lib.hid (show R = false from by rw [HR.out, isW, List.length_map, HXl.out, all_get hlt hF, Bool.and_false])
            clear ha Hok hF
            go_wp2
            go_ret
            exact ⟨by rw [HRf.out]; rfl, hb3⟩
      · obtain rfl : k = n := by omega
        have HRt := Lib.hid (show R = true from by rw [HR.out, isW, List.length_map, HXl.out, HA.out, Hd.out, decide_eq_true Hpl.out.symm]; rfl)
        clear HA
        go_wp2
        go_ret
        exact ⟨by rw [HRt.out]; rfl, hb⟩
  · have hd1 : (((n : Int) + (every : Int) - 1) / (every : Int) != (np : Int)) = true := by
      rw [bne_iff_ne]
      have : ((n + every - 1 : Nat) : Int) = (n : Int) + (every : Int) - 1 := by omega
      rw [← this, ← Int.natCast_ediv]
      omega
    have HRf := Lib.hid (show R = false from by rw [HR.out, isW, List.length_map, HXl.out, Hpl.out, decide_eq_false hd, Bool.false_and])
    clear hd
    go_enter Try.func71, Try.ntmps71
    go_wp2
    go_quiet (fail)
    go_wp2
    go_ret
    exact ⟨by rw [HRf.out]; rfl, belowN (Below.refl _ _) _⟩
end Go.Proofs.Ytjcifmbbdofjiaa
