/- Layer 20: whether what was read is a block: the walks. -/
import Derived.Test.YtjcifmbbdofjiaaBlB
import Derived.Test.YtjcifmbbdofjiaaBlWhole
namespace Go.Proofs.Ytjcifmbbdofjiaa
open Go.RowKit Go.Lec Go.Op
set_option maxRecDepth 40000 in
set_option maxHeartbeats 3200000 in
theorem c_is (w : World) (b1 b2 : Nat) {B n c np cp every : Nat} {A Ap : Option Addr} {X : List Ex} {ps : List Nat} (hE : Els encEx w B A n X) (hP : Rd w B Ap np (ncs ps)) (hB : B ≤ w.heap.size) (hn : n ≤ 1048576) (hnp : np ≤ 1048576) (h1 : 1 ≤ every) (h2 : every ≤ 1048576)
    (q1 : w.cell? ⟨b1, 0, none⟩ = some (.slice A n c)) (q2 : w.cell? ⟨b2, 0, none⟩ = some (.slice Ap np cp)) :
    Calls Try.prog 71 #[.int .i64 (every : Int), .pointer (some ⟨b1, 0, none⟩), .pointer (some ⟨b2, 0, none⟩)] w fun e w' => e = .returned (.bool (isW every (X.map Ex.en) ps)) ∧ Below w.heap.size w w' := by
  have hXl := hE.2.1
  have hpl := hP.1
  rw [ncs_length] at hpl
  have HXl := Lib.hid hXl
  have Hpl := Lib.hid hpl
  clear hXl hpl
  have l1 := World.block_lt_of_cell? w _ q1
  have l2 := World.block_lt_of_cell? w _ q2
  dsimp only at l1 l2
  have hne : ((every : Int) == 0) = false := by rw [beq_eq_false_iff_ne]; omega
  obtain ⟨R, hR⟩ : ∃ R, R = isW every (X.map Ex.en) ps := ⟨_, rfl⟩
  rw [← hR]
  have HR := Lib.hid hR
  clear hR
  by_cases hd : (n + every - 1) / every = np
  · have hd1 : (((n : Int) + (every : Int) - 1) / (every : Int) != (np : Int)) = false := by
      rw [bne_eq_false_iff_eq]
      have : ((n + every - 1 : Nat) : Int) = (n : Int) + (every : Int) - 1 := by omega
      rw [← this, ← Int.natCast_ediv, hd]
    have Hd := Lib.hid hd
    clear hd
    go_enter Try.func71, Try.ntmps71
    go_wp2
    go_quiet (fail)
    obtain ⟨W, hW⟩ : ∃ W, W = w.drewN nq := ⟨_, rfl⟩
    have hbW : Below w.heap.size w W := by rw [hW]; exact belowN (Below.refl _ _) _
    rw [← hW]
    clear hW
    have q1' := (hbW.cell (p := ⟨b1, 0, none⟩) l1).trans q1
    go_wp2
    go_loopw [19] (fun i wr => ∃ k : Nat, k ≤ n ∧ i = .int .i64 k ∧ Hid ((List.range k).all (okAt every (X.map Ex.en) ps) = true) ∧ Below w.heap.size w wr) (fun i _ => n - (intOf i).toNat)
    case atStart => exact ⟨0, Nat.zero_le _, rfl, Lib.hid rfl, hbW⟩
    case round =>
      clear q1' hd1 q1
      obtain ⟨k, hk, rfl, HA, hb⟩ := hrel
      by_cases hlt : k < n
      · obtain ⟨b, o, m, rfl, hbB, hmk, _, _, hcell⟩ := hE.at hlt
        have hcw := fun j u h => hcell wr (hb.mono hB) j u h
        have c0 := hcw 0 _ rfl
        have c1 := hcw 1 _ rfl
        have c2 := hcw 2 _ rfl
        have c3 := hcw 3 _ rfl
        have c4 := hcw 4 _ rfl
        rw [show o + k * encEx.k + 0 = o + k * 5 from rfl] at c0
        rw [show encEx.k = 5 from rfl] at c1 c2 c3 c4
        have HP := Bk.new_ wr 74 #[.int .i64 (m.at_ : Int), .slice m.A1 m.n1 m.c1, .slice m.A2 m.n2 m.c2, .int .i64 (m.has : Int), .int .i64 (m.may : Int)]
        have hb3 := hb.alloc hb.size (.cells #[.int .i64 (m.at_ : Int), .slice m.A1 m.n1 m.c1, .slice m.A2 m.n2 m.c2, .int .i64 (m.has : Int), .int .i64 (m.may : Int)] 74)
        have q2' := (hb3.cell (p := ⟨b2, 0, none⟩) l2).trans q2
        have hpc := HP.cell
        have hok : okAt every (X.map Ex.en) ps k = if k % every = 0 then decide (m.has = 0) && decide (ps[k / every]? = some m.at_) else decide (m.has = m.may) := by
          rw [okAt, List.getElem?_map, hmk]; rfl
        have Hok := Lib.hid hok
        have hki : k / every < np := by
          have h3 := Hd.out
          rw [← h3]
          exact (Nat.div_lt_iff_lt_mul (by omega)).2 (by
            have := Nat.div_mul_le_self (n + every - 1) every
            have h4 := Nat.lt_div_mul_add (a := n + every - 1) (b := every) (by omega)
            omega)
        obtain ⟨bp, op, rfl, hbp, hpcell⟩ := hP.natAt hki
        have hcpl : k / every < ps.length := by rw [Hpl.out]; exact hki
        have hpc2 := hpcell _ (hb3.mono hB) (k / every) ps[k / every] (List.getElem?_eq_getElem hcpl)
        obtain ⟨y, hy⟩ : ∃ y, y = ps[k / every] := ⟨_, rfl⟩
        rw [← hy] at hpc2
        have hyo : ps[k / every]? = some y := by rw [hy]; exact List.getElem?_eq_getElem hcpl
        have Hyo := Lib.hid hyo
        have hkm : ((k : Int) % (every : Int)) = ((k % every : Nat) : Int) := by simp
        have hkd0 : 0 ≤ (k : Int) / (every : Int) := by rw [← Int.natCast_ediv]; exact Int.natCast_nonneg _
        have hkd1 : (k : Int) / (every : Int) < (np : Int) := by rw [← Int.natCast_ediv]; exact Int.ofNat_lt.2 hki
        have hkd2 : ¬ (np : Int) ≤ (k : Int) / (every : Int) := Int.not_le.2 hkd1
        have Hkm := Lib.hid hkm
        clear hcell hcw hok hyo hy hmk hpcell hE hP hkm
        go_upto_region 6 with fail
        obtain ⟨W1, hW1⟩ : ∃ W, W = wr.alloc (.cells #[.int .i64 (m.at_ : Int), .slice m.A1 m.n1 m.c1, .slice m.A2 m.n2 m.c2, .int .i64 (m.has : Int), .int .i64 (m.may : Int)] 74) := ⟨_, rfl⟩
        rw [← hW1] at HP hb3 hpc q2' hpc2 ⊢
        obtain ⟨G, hG⟩ : ∃ G, G = wr.heap.size := ⟨_, rfl⟩
        rw [← hG] at HP hpc ⊢
        clear hW1 hG c0 c1 c2 c3 c4 q2
        by_cases hz : k % every = 0
        · have hzz : (((k : Int) % (every : Int)) == 0) = true := by rw [Hkm.out, hz]; rfl
          have Hz := Lib.hid hz
          clear hz
          by_cases ha : m.has = 0
          · have haa : ((m.has : Int) != 0) = false := by rw [ha]; rfl
            have Ha := Lib.hid ha
            clear ha
            by_cases hyy : y = m.at_
            · have hyc : ((y : Int) != (m.at_ : Int)) = false := by rw [hyy]; simp
              have HS := Lib.hid (show (List.range (k + 1)).all (okAt every (X.map Ex.en) ps) = true from by rw [all_snoc, HA.out, Hok.out, if_pos Hz.out, Ha.out, Hyo.out, hyy]; simp)
              clear hyy HA Hok
              go_wp2
              go_quiet (fail)
              go_wp2
              go_roundw
              case rel => exact ⟨k + 1, by omega, by go_num, HS, belowN hb3 _⟩
              case measure => simp [intOf]; omega
            · have hyc : ((y : Int) != (m.at_ : Int)) = true := by rw [bne_iff_ne]; omega
              have hF : okAt every (X.map Ex.en) ps k = false := by rw [Hok.out, if_pos Hz.out, Hyo.out]; simp [hyy]
              clear hyy Hok
              have HRf := Lib.hid (show R = false from by rw [HR.out, isW, List.length_map, HXl.out, all_get hlt hF, Bool.and_false])
              clear hF
              go_wp2
              go_quiet (fail)
              go_wp2
              go_ret
              exact ⟨by rw [HRf.out]; rfl, belowN hb3 _⟩
          · have haa : ((m.has : Int) != 0) = true := by rw [bne_iff_ne]; omega
            have hF : okAt every (X.map Ex.en) ps k = false := by rw [Hok.out, if_pos Hz.out, decide_eq_false ha]; rfl
            clear ha Hok
            have HRf := Lib.hid (show R = false from by rw [HR.out, isW, List.length_map, HXl.out, all_get hlt hF, Bool.and_false])
            clear hF
            go_wp2
            go_quiet (fail)
            go_wp2
            go_ret
            exact ⟨by rw [HRf.out]; rfl, belowN hb3 _⟩
        · have hzz : (((k : Int) % (every : Int)) == 0) = false := by rw [Hkm.out, beq_eq_false_iff_ne]; omega
          have Hz := Lib.hid hz
          clear hz
          by_cases ha : m.has = m.may
          · have haa : ((m.has : Int) != (m.may : Int)) = false := by rw [ha]; simp
            have HS := Lib.hid (show (List.range (k + 1)).all (okAt every (X.map Ex.en) ps) = true from by rw [all_snoc, HA.out, Hok.out, if_neg Hz.out, decide_eq_true ha]; rfl)
            clear ha HA Hok
            go_wp2
            go_roundw
            case rel => exact ⟨k + 1, by omega, by go_num, HS, hb3⟩
            case measure => simp [intOf]; omega
          · have haa : ((m.has : Int) != (m.may : Int)) = true := by rw [bne_iff_ne]; omega
            have hF : okAt every (X.map Ex.en) ps k = false := by rw [Hok.out, if_neg Hz.out, decide_eq_false ha]
            have HRf := Lib.hid (show R = false from by rw [HR.out, isW, List.length_map, HXl.out, all_get hlt hF, Bool.and_false])
            clear ha Hok hF
            go_wp2
            go_ret
            exact ⟨by rw [HRf.out]; rfl, hb3⟩
      · obtain rfl : k = n := by omega
        have HRt := Lib.hid (show R = true from by rw [HR.out, isW, List.length_map, HXl.out, HA.out, Hd.out, decide_eq_true Hpl.out.symm]; rfl)
        clear HA
        go_wp2
        go_ret
        exact ⟨by rw [HRt.out]; rfl, hb⟩
  · have hd1 : (((n : Int) + (every : Int) - 1) / (every : Int) != (np : Int)) = true := by
      rw [bne_iff_ne]
      have : ((n + every - 1 : Nat) : Int) = (n : Int) + (every : Int) - 1 := by omega
      rw [← this, ← Int.natCast_ediv]
      omega
    have HRf := Lib.hid (show R = false from by rw [HR.out, isW, List.length_map, HXl.out, Hpl.out, decide_eq_false hd, Bool.false_and])
    clear hd
    go_enter Try.func71, Try.ntmps71
    go_wp2
    go_quiet (fail)
    go_wp2
    go_ret
    exact ⟨by rw [HRf.out]; rfl, belowN (Below.refl _ _) _⟩
end Go.Proofs.Ytjcifmbbdofjiaa
/- Layer 20: whether what was read is a block: the walk of whole. -/
namespace Go.Proofs.Ytjcifmbbdofjiaa
open Go.RowKit Go.Lec Go.Op

set_option maxRecDepth 40000 in
set_option maxHeartbeats 3200000 in
theorem c_whole (w : World) {B n c np cp : Nat} {A Ap : Option Addr} {X : List Ex} {ps : List Nat} (hE : Els encEx w B A n X) (hP : Rd w B Ap np (ncs ps)) (hB : B ≤ w.heap.size) (hn : n ≤ 1048576) (hnp : np ≤ 1048576) :
    Calls Try.prog 57 #[.slice A n c, .slice Ap np cp] w fun e w' => e = .returned (.bool (whole (X.map Ex.en) ps)) ∧ Below w.heap.size w w' := by
  have hmf : ∀ (fn : Fn) (first cap : Array Value) (w : World), (Instr.makeFunc fn first cap).run Try.prog w = .ok (.func fn first cap) w := fun _ _ _ _ => rfl
  have hXl := hE.2.1
  have hpl := hP.1
  rw [ncs_length] at hpl
  have HXl := Lib.hid hXl
  have Hpl := Lib.hid hpl
  clear hXl hpl
  obtain ⟨R, hR⟩ : ∃ R, R = whole (X.map Ex.en) ps := ⟨_, rfl⟩
  rw [← hR]
  rw [whole, List.length_map, HXl.out, Hpl.out] at hR
  have hb0 := ((Below.refl w.heap.size w).alloc (Nat.le_refl _) (.cells #[.slice A n c] 63)).alloc (by simp) (.cells #[.slice Ap np cp] 40)
  have H0 := ((Bk.new_ w 63 #[.slice A n c]).alloc (.cells #[.slice Ap np cp] 40)).cell 0
  have H1 := (Bk.new_ (w.alloc (.cells #[.slice A n c] 63)) 40 #[.slice Ap np cp]).cell 0
  rw [World.size_alloc] at H1
  by_cases h0 : n = 0
  · by_cases hp0 : np = 0
    · have HRt := Lib.hid (show R = true from by rw [hR, if_pos (.inl h0), decide_eq_true ⟨h0, hp0⟩])
      have i0 : ((n : Int) == 0) = true := by rw [h0]; rfl
      have i1 : ((np : Int) == 0) = true := by rw [hp0]; rfl
      clear h0 hp0 hR
      go_enter Try.func57, Try.ntmps57
      go_wp2
      go_ret
      exact ⟨by rw [HRt.out]; rfl, hb0⟩
    · have HRt := Lib.hid (show R = false from by rw [hR, if_pos (.inl h0), decide_eq_false (fun h => hp0 h.2)])
      have i0 : ((n : Int) == 0) = true := by rw [h0]; rfl
      have i1 : ((np : Int) == 0) = false := by rw [beq_eq_false_iff_ne]; omega
      clear h0 hp0 hR
      go_enter Try.func57, Try.ntmps57
      go_wp2
      go_ret
      exact ⟨by rw [HRt.out]; rfl, hb0⟩
  · have i0 : ((n : Int) == 0) = false := by rw [beq_eq_false_iff_ne]; omega
    by_cases hp0 : np = 0
    · have HRt := Lib.hid (show R = false from by rw [hR, if_pos (.inr hp0), decide_eq_false (fun h => h0 h.1)])
      have i1 : ((np : Int) == 0) = true := by rw [hp0]; rfl
      clear h0 hp0 hR
      go_enter Try.func57, Try.ntmps57
      go_wp2
      go_ret
      exact ⟨by rw [HRt.out]; rfl, hb0⟩
    · have i1 : ((np : Int) == 0) = false := by rw [beq_eq_false_iff_ne]; omega
      rw [if_neg (by omega)] at hR
      have HR := Lib.hid hR
      clear h0 hR
      obtain ⟨b1, hb1⟩ : ∃ b, b = w.heap.size := ⟨_, rfl⟩
      obtain ⟨b2, hb2⟩ : ∃ b, b = w.heap.size + 1 := ⟨_, rfl⟩
      obtain ⟨W0, hW0⟩ : ∃ W, W = (w.alloc (.cells #[.slice A n c] 63)).alloc (.cells #[.slice Ap np cp] 40) := ⟨_, rfl⟩
      have hsz : W0.heap.size = w.heap.size + 2 := by rw [hW0]; simp
      go_enter Try.func57, Try.ntmps57
      go_upto_region 1 with fail
      rw [← hW0] at H0 H1 hb0 ⊢
      rw [← hb2] at H1 ⊢
      rw [← hb1] at H0 ⊢
      have q1 : W0.cell? ⟨b1, 0, none⟩ = some (.slice A n c) := H0
      have q2 : W0.cell? ⟨b2, 0, none⟩ = some (.slice Ap np cp) := H1
      have l1 := World.block_lt_of_cell? W0 _ q1
      have l2 := World.block_lt_of_cell? W0 _ q2
      dsimp only at l1 l2
      clear hW0 hb1 hb2 H0 H1 hsz
      by_cases h2 : 1 < np
      · obtain ⟨bp, op, rfl, hbp, hpcell⟩ := hP.natAt h2
        have hcpl : 1 < ps.length := by rw [Hpl.out]; exact h2
        have Hp1 := Lib.hid (hpcell _ (hb0.mono hB) 1 ps[1] (List.getElem?_eq_getElem hcpl))
        obtain ⟨y, hy⟩ : ∃ y, y = ps[1] := ⟨_, rfl⟩
        rw [← hy] at Hp1
        have HEo := Lib.hid (show everyOf (X.map Ex.en) ps = lastAt (X.map Ex.en) y n n from by rw [everyOf, List.getElem?_eq_getElem hcpl, ← hy]; simp only [List.length_map, HXl.out])
        have hi2 : (1 : Int) < (np : Int) := by omega
        clear hy hpcell hcpl
        go_wp2
        go_loopw [6, 33] (fun e i wr => ∃ k : Nat, k ≤ n ∧ i = .int .i64 k ∧ e = .int .i64 (lastAt (X.map Ex.en) y n k : Nat) ∧ Below W0.heap.size W0 wr) (fun _ i _ => n - (intOf i).toNat)
        case atStart => exact ⟨0, Nat.zero_le _, rfl, rfl, Below.refl _ _⟩
        case round =>
          obtain ⟨k, hk, rfl, rfl, hb⟩ := hrel
          have q1' := (hb.cell (p := ⟨b1, 0, none⟩) l1).trans q1
          have q2' := (hb.cell (p := ⟨b2, 0, none⟩) l2).trans q2
          have hbw := hb0.trans (hb.mono hb0.size)
          have hEvn := lastAt_le (X.map Ex.en) y n k
          rw [Nat.max_def] at hEvn
          obtain ⟨Ev, hEvk⟩ : ∃ Ev, Ev = lastAt (X.map Ex.en) y n k := ⟨_, rfl⟩
          rw [← hEvk] at hEvn ⊢
          by_cases hlt : k < n
          · obtain ⟨b, o, m, rfl, hbB, hmk, _, _, hcell⟩ := hE.at hlt
            have hcw := fun j u h => hcell wr (hbw.mono hB) j u h
            have c0 := hcw 0 _ rfl
            have c1 := hcw 1 _ rfl
            have c2 := hcw 2 _ rfl
            have c3 := hcw 3 _ rfl
            have c4 := hcw 4 _ rfl
            rw [show o + k * encEx.k + 0 = o + k * 5 from rfl] at c0
            rw [show encEx.k = 5 from rfl] at c1 c2 c3 c4
            have HP := Bk.new_ wr 74 #[.int .i64 (m.at_ : Int), .slice m.A1 m.n1 m.c1, .slice m.A2 m.n2 m.c2, .int .i64 (m.has : Int), .int .i64 (m.may : Int)]
            have hb3 := hb.alloc hb.size (.cells #[.int .i64 (m.at_ : Int), .slice m.A1 m.n1 m.c1, .slice m.A2 m.n2 m.c2, .int .i64 (m.has : Int), .int .i64 (m.may : Int)] 74)
            have q2'' := (hb3.cell (p := ⟨b2, 0, none⟩) l2).trans q2
            have hbw3 := hb0.trans (hb3.mono hb0.size)
            have hpc := HP.cell
            have hp2 := ((hbw3.mono hB).cell (p := ⟨bp, op + 1, none⟩) hbp).trans (((hb0.mono hB).cell (p := ⟨bp, op + 1, none⟩) hbp).symm.trans Hp1.out)
            have HL := Lib.hid (show lastAt (X.map Ex.en) y n (k + 1) = if m.at_ = y then k else Ev from by rw [lastAt, List.getElem?_map, hmk, hEvk]; simp [Ex.en])
            clear hcell hcw hmk q1' q2' hEvk hEvn
            go_upto_region 9 with fail
            obtain ⟨W1, hW1⟩ : ∃ W, W = wr.alloc (.cells #[.int .i64 (m.at_ : Int), .slice m.A1 m.n1 m.c1, .slice m.A2 m.n2 m.c2, .int .i64 (m.has : Int), .int .i64 (m.may : Int)] 74) := ⟨_, rfl⟩
            rw [← hW1] at HP hb3 hpc q2'' hp2 hbw3 ⊢
            obtain ⟨G, hG⟩ : ∃ G, G = wr.heap.size := ⟨_, rfl⟩
            rw [← hG] at HP hpc ⊢
            clear hW1 hG c0 c1 c2 c3 c4
            by_cases hy : m.at_ = y
            · have hyc : ((m.at_ : Int) == (y : Int)) = true := by rw [hy]; simp
              have HL' := Lib.hid (show lastAt (X.map Ex.en) y n (k + 1) = k from by rw [HL.out, if_pos hy])
              clear hy HL
              go_quiet (fail)
              go_wp2
              go_roundw
              case rel => exact ⟨k + 1, by omega, by go_num, by rw [HL'.out], belowN hb3 _⟩
              case measure => simp [intOf]; omega
            · have hyc : ((m.at_ : Int) == (y : Int)) = false := by rw [beq_eq_false_iff_ne]; omega
              have HL' := Lib.hid (show lastAt (X.map Ex.en) y n (k + 1) = Ev from by rw [HL.out, if_neg hy])
              clear hy HL
              go_quiet (fail)
              go_wp2
              go_roundw
              case rel => exact ⟨k + 1, by omega, by go_num, by rw [HL'.out], belowN hb3 _⟩
              case measure => simp [intOf]; omega
          · obtain rfl : k = n := by omega
            have hEv : everyOf (X.map Ex.en) ps = Ev := by rw [HEo.out, hEvk]
            replace hEvn : Ev ≤ 1048576 := by split at hEvn <;> omega
            clear hEvk q1 q2 hb0
            have HEv := Lib.hid hEv
            have hEn' : Ev ≤ 1048576 := hEvn
            clear hEv hEvn
            by_cases g1 : 1 ≤ Ev
            · have g1' : (1 : Int) ≤ (Ev : Int) := by omega
              by_cases g2 : Ev ≤ 1024
              · have g2' : (Ev : Int) ≤ 1024 := by omega
                have HRt := Lib.hid (show R = isW Ev (X.map Ex.en) ps from by rw [HR.out, HEv.out, decide_eq_true g1, decide_eq_true g2]; rfl)
                have HC := Lib.hid (c_is wr b1 b2 (c := c) (cp := cp) (hE.below hbw hB) (hP.below hbw hB) (Nat.le_trans hB (hbw).size) hn hnp g1 hEn' q1' q2')
                go_wp2_with (first | (go_at_call 71; refine HC.out.mono ?_; rintro e w' ⟨rfl, hb9⟩))
                go_ret
                exact ⟨by rw [HRt.out]; rfl, (hbw).trans (hb9.mono (hbw).size)⟩
              · have g2' : ¬ (Ev : Int) ≤ 1024 := by omega
                have HRt := Lib.hid (show R = false from by rw [HR.out, HEv.out, decide_eq_false g2]; simp)
                go_wp2
                go_ret
                exact ⟨by rw [HRt.out]; rfl, hbw⟩
            · have g1' : ¬ (1 : Int) ≤ (Ev : Int) := by omega
              have HRt := Lib.hid (show R = false from by rw [HR.out, HEv.out, decide_eq_false g1]; simp)
              go_wp2
              go_ret
              exact ⟨by rw [HRt.out]; rfl, hbw⟩
      · have hEv : everyOf (X.map Ex.en) ps = n := by
          have : ps[1]? = none := List.getElem?_eq_none (by rw [Hpl.out]; omega)
          rw [everyOf, this]; simp only [List.length_map, HXl.out]
        have hEvn := hn
        have hi2 : ¬ (1 : Int) < (np : Int) := by omega
        have HEv := Lib.hid hEv
        have hEn' : n ≤ 1048576 := hEvn
        clear hEv hEvn
        by_cases g1 : 1 ≤ n
        · have g1' : (1 : Int) ≤ (n : Int) := by omega
          by_cases g2 : n ≤ 1024
          · have g2' : (n : Int) ≤ 1024 := by omega
            have HRt := Lib.hid (show R = isW n (X.map Ex.en) ps from by rw [HR.out, HEv.out, decide_eq_true g1, decide_eq_true g2]; rfl)
            have HC := Lib.hid (c_is W0 b1 b2 (c := c) (cp := cp) (hE.below hb0 hB) (hP.below hb0 hB) (Nat.le_trans hB (hb0).size) hn hnp g1 hEn' q1 q2)
            go_wp2_with (first | (go_at_call 71; refine HC.out.mono ?_; rintro e w' ⟨rfl, hb9⟩))
            go_ret
            exact ⟨by rw [HRt.out]; rfl, (hb0).trans (hb9.mono (hb0).size)⟩
          · have g2' : ¬ (n : Int) ≤ 1024 := by omega
            have HRt := Lib.hid (show R = false from by rw [HR.out, HEv.out, decide_eq_false g2]; simp)
            go_wp2
            go_ret
            exact ⟨by rw [HRt.out]; rfl, hb0⟩
        · have g1' : ¬ (1 : Int) ≤ (n : Int) := by omega
          have HRt := Lib.hid (show R = false from by rw [HR.out, HEv.out, decide_eq_false g1]; simp)
          go_wp2
          go_ret
          exact ⟨by rw [HRt.out]; rfl, hb0⟩
end Go.Proofs.Ytjcifmbbdofjiaa
/- Layer 20: a block read and checked: the walk of checked. -/
namespace Go.Lec
/-- A block read and checked. -/
def ckB (b : List UInt8) : Except Int (List En × List Nat) :=
  match unB b with
  | .error e => .error e
  | .ok (l, ps) => if whole l ps then .ok (l, ps) else .error 201
end Go.Lec
namespace Go.Proofs.Ytjcifmbbdofjiaa
open Go.RowKit Go.Lec Go.Op
/-- What checked answers, or throws. -/
def CkPost (w : World) (b : List UInt8) (e : Ending) (w' : World) : Prop :=
  (∃ (l : List En) (ps : List Nat) (A n c : _) (Ap np cp : _) (X : List Ex), ckB b = .ok (l, ps) ∧ e = .returned (.tuple #[.slice A n c, .slice Ap np cp]) ∧ Gth encEx (w.heap.size ≤ ·) w w' 74 X (.slice A n c) ∧ X.length = n ∧ X.map Ex.en = l ∧ Lec.Own w' w.heap.size 3 (.slice Ap np cp) (ncs ps) ∧ ps.length = np ∧ n ≤ 1048576 ∧ np ≤ 1048576 ∧ whole l ps = true) ∨
  (∃ err, ckB b = .error err ∧ e = .panicked [{ v := blFailVal err, recovered := false }] ∧ Below w.heap.size w w')

set_option maxRecDepth 40000 in
set_option maxHeartbeats 800000 in
theorem c_checked (w : World) {B n c : Nat} {A : Option Addr} {b : List UInt8} (hr : Rd w B A n (bcs b)) (hc : n ≤ c) (hB : B ≤ w.heap.size) (hn : n ≤ 1099511627776) :
    Calls Try.prog 33 #[.slice A n c] w (CkPost w b) := by
  go_enter Try.func33, Try.ntmps33
  go_wp2_with fail
  refine (c_read w hr hc hB hn).mono ?_
  rintro e w1 (⟨l, ps, A1, n1, c1, Ap, np, cp, X, hu, rfl, hG, hXl, hP⟩ | ⟨err, hu, rfl, hb1⟩)
  · obtain ⟨h1, h2⟩ := unB_len hu
    have hn1 : X.length = n1 := by
      obtain ⟨A', c', e', _⟩ := hG.own.shape
      injection e' with _ e2 _
      exact e2.symm
    have hpl : ps.length = np := by
      obtain ⟨A', c', e', _⟩ := hP.shape
      injection e' with _ e2 _
      rw [ncs_length] at e2
      exact e2.symm
    have hE := hG.els hn1
    have hPr := Lec.Own.rd hP
    have hnl : n1 ≤ 1048576 := by rw [← hXl, List.length_map] at h1; omega
    have hpl2 : np ≤ 1048576 := by omega
    have HC := Lib.hid (c_whole w1 (c := c1) (cp := cp) hE hPr (Nat.le_refl _) hnl hpl2)
    rw [hXl] at HC
    cases hw : whole l ps
    · have Hf := Lib.hid (show ckB b = .error 201 from by rw [ckB, hu]; simp only [hw]; rfl)
      rw [hw] at HC
      have hbw := hG.below
      clear hw hu hG hE hPr hXl hn1 hpl
      go_wp2_with (first | (go_at_call 57; refine HC.out.mono ?_; rintro e w2 ⟨rfl, hb2⟩) | (go_at_call 47; refine (c_blMust_no _ _ _ ?_).mono ?_; (first | rfl | (simp; done) | (simp; omega) | (simp [*]; done)); rintro e w' ⟨rfl, rfl⟩))
      exact ⟨rfl, .inr ⟨201, Hf.out, rfl, hbw.trans (hb2.mono hbw.size)⟩⟩
    · have Hf := Lib.hid (show ckB b = .ok (l, ps) from by rw [ckB, hu]; simp only [hw]; rfl)
      have Hw := Lib.hid hw
      rw [hw] at HC
      have HX := Lib.hid hXl
      have Hn1 := Lib.hid hn1
      have Hpl := Lib.hid hpl
      clear hw hu hE hPr hXl hn1 hpl
      go_wp2_with (first | (go_at_call 57; refine HC.out.mono ?_; rintro e w2 ⟨rfl, hb2⟩) | (go_at_call 47; refine (c_blMust_ok _ _ _ ?_).mono ?_; (first | rfl | (simp; done) | (simp; omega) | (simp [*]; done)); rintro e w' ⟨rfl, rfl⟩))
      go_ret2
      exact .inl ⟨l, ps, _, _, _, _, _, _, X, Hf.out, rfl, hG.grow hb2, Hn1.out, HX.out, hP.below hb2 (Nat.le_refl _), Hpl.out, hnl, hpl2, Hw.out⟩
  · have Hf := Lib.hid (show ckB b = .error err from by rw [ckB, hu])
    exact ⟨rfl, .inr ⟨err, Hf.out, rfl, hb1⟩⟩
end Go.Proofs.Ytjcifmbbdofjiaa
