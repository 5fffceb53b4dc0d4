/- Layer 24: the law LevelChanges: the edit of a compaction drops what was picked and adds what came out of it: the walk. -/
import Derived.Test.YtgpbkebmfbbamaaLvM
import Derived.Test.YtgpbkebmfbbamaaLvK
import Derived.Test.YtgpbkebmfbbamaaLvS
namespace Go.Lec
open Go.RowKit
/-- Change k of a list in memory: the cells that are looked at. -/
theorem cell10 {w : World} {B n : Nat} {A : Option Addr} {G : List Cg} (h : RdK w B 10 A n (G.flatMap Cg.cs)) {k : Nat} (hk : k < n) : ∃ b o g, A = some ⟨b, o, none⟩ ∧ b < B ∧ G[k]? = some g ∧ ∀ W : World, Below B w W →
    W.cell? ⟨b, o + k * 10, none⟩ = some (.int .i64 g.kind) ∧ W.cell? ⟨b, o + k * 10 + 1, none⟩ = some (.int .i64 g.level) ∧ W.cell? ⟨b, o + k * 10 + 2, none⟩ = some (.int .i64 g.n) ∧
    W.cell? ⟨b, o + k * 10 + 5, none⟩ = some (.int .i64 g.m.num) ∧ W.cell? ⟨b, o + k * 10 + 5 + 1, none⟩ = some (.int .i64 g.m.size) ∧ W.cell? ⟨b, o + k * 10 + 5 + 2, none⟩ = some (.int .i64 g.m.cnt) ∧
    W.cell? ⟨b, o + k * 10 + 5 + 3, none⟩ = some (.slice g.m.A1 g.m.n1 g.m.c1) ∧ W.cell? ⟨b, o + k * 10 + 5 + 4, none⟩ = some (.slice g.m.A2 g.m.n2 g.m.c2) := by
  obtain ⟨b, o, e, hb, hc⟩ := h.2 (by omega)
  have hl : G.length = n := by have := h.1; rw [flat_len Cg.cs_len] at this; omega
  have hkL : k < G.length := by omega
  refine ⟨b, o, G[k], e, hb, List.getElem?_eq_getElem hkL, fun W hW => ?_⟩
  have g := fun j u (hj : j < 10) (hu : G[k].cs[j]? = some u) => (hW.cell (p := ⟨b, o + (10 * k + j), none⟩) hb).trans (hc _ u ((flat_get Cg.cs_len G k j G[k] (List.getElem?_eq_getElem hkL) hj).trans hu))
  have e0 : o + k * 10 = o + (10 * k + 0) := by omega
  have e1 : ∀ j, o + k * 10 + j = o + (10 * k + j) := by omega
  have e2 : ∀ j, o + k * 10 + 5 + j = o + (10 * k + (5 + j)) := by omega
  rw [e2, e2, e2, e2, e1, e1, e1, e0]
  exact ⟨g 0 _ (by omega) rfl, g 1 _ (by omega) rfl, g 2 _ (by omega) rfl, g 5 _ (by omega) rfl, g 6 _ (by omega) rfl, g 7 _ (by omega) rfl, g 8 _ (by omega) rfl, g 9 _ (by omega) rfl⟩
theorem same_pl {a b : Mt} (h : a.pl = b.pl) : a.same b = true := by
  simp only [Mt.pl, Prod.mk.injEq] at h
  obtain ⟨h1, h2, h3, h4, h5⟩ := h
  simp [Mt.same, h1, h2, h3, h4, h5]
end Go.Lec
namespace Go.Proofs.Ytgpbkebmfbbamaa
open Go.RowKit Go.Lec

set_option maxRecDepth 20000 in
set_option maxHeartbeats 3200000 in
theorem w_LevelChanges (w : World) {B : Nat} {lv : Int} {AU AL AF AE A : Option Addr} {nU cU nL cL nF cF nE cE n c : Nat} {bt : Bool} {U Lo : List Int} {L : List Mt}
    (hU : Rd w B AU nU (ics U)) (hL : Rd w B AL nL (ics Lo)) (hr : Mts w B A n L) (hB : B ≤ w.heap.size) (k1 : nU ≤ 140737488355328) (k2 : nL ≤ 140737488355328) (k3 : n ≤ 140737488355328) (h1 : -9223372036854775808 ≤ lv) :
    Calls Try.prog 4 #[.agg #[.int .i64 lv, .slice AU nU cU, .slice AL nL cL, .slice AF nF cF, .slice AE nE cE, .bool bt], .slice A n c] w fun e w' => e = .returned (.bool true) ∧ Below w.heap.size w w' := by
  have HP0 := Bk.new_ w 34 #[.int .i64 lv, .slice AU nU cU, .slice AL nL cL, .slice AF nF cF, .slice AE nE cE, .bool bt]
  have hb0 : Below w.heap.size w (w.alloc (.cells #[.int .i64 lv, .slice AU nU cU, .slice AL nL cL, .slice AF nF cF, .slice AE nE cE, .bool bt] 34)) := (Below.refl _ _).alloc (Nat.le_refl _) _
  go_enter Try.func4, Try.ntmps4
  go_wp2_with fail
  refine (c_awake _).mono ?_
  rintro e w1 ⟨rfl, hb⟩
  rw [World.size_alloc] at hb
  have HP := HP0.below hb (Nat.lt_succ_self _)
  have hb1 := hb0.trans (hb.mono (Nat.le_succ _))
  have hz1 : w.heap.size + 1 ≤ w1.heap.size := by have := hb.size; simpa using this
  clear hb hb0 HP0
  have hk := HP.cell
  by_cases hsum : nU + nL + n ≤ 300
  · have hs' : ¬ (300 : Int) < (nU : Int) + (nL : Int) + (n : Int) := by omega
    by_cases hlv : lv ≤ 1099511627776
    · have hl' : ¬ (1099511627776 : Int) < lv := by omega
      go_wp2_with fail
      refine (c_Changes w1 (hU.below hb1 hB) (hL.below hb1 hB) (hr.below hb1 hB) (by omega) hsum h1 hlv).mono ?_
      rintro e w2 ⟨A1, n1, c1, G1, rfl, _, hG1, ho1, hp1, hb⟩
      have HP2 := HP.below hb (by omega)
      have hb2 := hb1.trans (hb.mono (by omega))
      have hz2 := hb.size
      clear hb hk hb1 HP
      have hk := HP2.cell
      go_wp2_with fail
      refine (c_rChanges w2 (hU.below hb2 hB) (hL.below hb2 hB) (hr.below hb2 hB) (by omega) hsum h1 hlv).mono ?_
      rintro e w3 ⟨A2, n2, c2, G2, rfl, _, hG2, ho2, hp2, hb⟩
      have hb3 := hb2.trans (hb.mono (by omega))
      have hG1' := hG1.below hb (Nat.le_refl _)
      have ho1' : ∀ g ∈ G1, g.m.ok w3 w3.heap.size := fun g hg => ((ho1 g hg).below hb (Nat.le_refl _)).more hb.size
      have hG1'' := hG1'.more hb.size
      have hpl : G1.map Cg.pl = G2.map Cg.pl := hp1.trans hp2.symm
      have hl1 : G1.length = n1 := by have := hG1.1; rw [flat_len Cg.cs_len] at this; omega
      have hl2 : G2.length = n2 := by have := hG2.1; rw [flat_len Cg.cs_len] at this; omega
      have hnn : n2 = n1 := by have := congrArg List.length hpl; simp only [List.length_map] at this; omega
      have hn2 : n2 ≤ 300 := by
        have h := congrArg List.length hp2
        have hlU : U.length = nU := by have := hU.1; simpa [ics] using this
        have hlL : Lo.length = nL := by have := hL.1; simpa [ics] using this
        have hlr := hr.len
        simp only [edit, List.length_map, List.length_append] at h
        omega
      subst hnn
      have Hpl := Lib.hid hpl
      have Hl1 := Lib.hid hl1
      clear hpl hl1 hl2 hp1 hp2 hG1 hG1' ho1 hb hb2 HP2 hk hz2 hz1
      go_wp2
      go_loopw [41] (fun i wr => ∃ k : Nat, k ≤ n2 ∧ i = .int .i64 k ∧ Below w3.heap.size w3 wr) (fun i _ => n2 - (intOf i).toNat)
      case atStart => exact ⟨0, by omega, rfl, Below.refl _ _⟩
      case round =>
        obtain ⟨k, hk0, rfl, hb⟩ := hrel
        by_cases hlt : k < n2
        · obtain ⟨b1, o1, g1, hA1, hbB1, hg1, hc1⟩ := cell10 hG1'' hlt
          obtain ⟨b2, o2, g2, hA2, hbB2, hg2, hc2⟩ := cell10 hG2 hlt
          cases hA1
          cases hA2
          have hgp : g1.pl = g2.pl := by
            have h := congrArg (·[k]?) Hpl.out
            simp only [List.getElem?_map, hg1, hg2, Option.map_some, Option.some.injEq] at h
            exact h
          have hok1 := (ho1' g1 (List.mem_of_getElem? hg1)).below hb (Nat.le_refl _)
          have hok2 := (ho2 g2 (List.mem_of_getElem? hg2)).below hb (Nat.le_refl _)
          clear hg1 hg2
          obtain ⟨kd, ll, nn, m1⟩ := g1
          obtain ⟨kd2, ll2, nn2, m2⟩ := g2
          simp only [Cg.pl, Prod.mk.injEq] at hgp
          obtain ⟨rfl, rfl, rfl, hmp⟩ := hgp
          have Hsame := Lib.hid (same_pl hmp)
          have hC : ∀ W : World, Below wr.heap.size wr W → (W.cell? ⟨b1, o1 + k * 10, none⟩ = some (.int .i64 kd) ∧ W.cell? ⟨b1, o1 + k * 10 + 1, none⟩ = some (.int .i64 ll) ∧ W.cell? ⟨b1, o1 + k * 10 + 2, none⟩ = some (.int .i64 nn) ∧ W.cell? ⟨b1, o1 + k * 10 + 5, none⟩ = some (.int .i64 m1.num) ∧ W.cell? ⟨b1, o1 + k * 10 + 5 + 1, none⟩ = some (.int .i64 m1.size) ∧ W.cell? ⟨b1, o1 + k * 10 + 5 + 2, none⟩ = some (.int .i64 m1.cnt) ∧ W.cell? ⟨b1, o1 + k * 10 + 5 + 3, none⟩ = some (.slice m1.A1 m1.n1 m1.c1) ∧ W.cell? ⟨b1, o1 + k * 10 + 5 + 4, none⟩ = some (.slice m1.A2 m1.n2 m1.c2)) ∧ (W.cell? ⟨b2, o2 + k * 10, none⟩ = some (.int .i64 kd) ∧ W.cell? ⟨b2, o2 + k * 10 + 1, none⟩ = some (.int .i64 ll) ∧ W.cell? ⟨b2, o2 + k * 10 + 2, none⟩ = some (.int .i64 nn) ∧ W.cell? ⟨b2, o2 + k * 10 + 5, none⟩ = some (.int .i64 m2.num) ∧ W.cell? ⟨b2, o2 + k * 10 + 5 + 1, none⟩ = some (.int .i64 m2.size) ∧ W.cell? ⟨b2, o2 + k * 10 + 5 + 2, none⟩ = some (.int .i64 m2.cnt) ∧ W.cell? ⟨b2, o2 + k * 10 + 5 + 3, none⟩ = some (.slice m2.A1 m2.n1 m2.c1) ∧ W.cell? ⟨b2, o2 + k * 10 + 5 + 4, none⟩ = some (.slice m2.A2 m2.n2 m2.c2)) := fun W hW => And.intro (hc1 W (hb.trans (hW.mono hb.size))) (hc2 W (hb.trans (hW.mono hb.size)))
          have HC := Lib.hid hC
          have hcall : Calls Try.prog 15 #[.agg #[.int .i64 m1.num, .int .i64 m1.size, .int .i64 m1.cnt, .slice m1.A1 m1.n1 m1.c1, .slice m1.A2 m1.n2 m1.c2], .agg #[.int .i64 m2.num, .int .i64 m2.size, .int .i64 m2.cnt, .slice m2.A1 m2.n1 m2.c1, .slice m2.A2 m2.n2 m2.c2]] wr.drew fun e w' => e = .returned (.bool true) ∧ Below wr.drew.heap.size wr.drew w' := by
            have h := c_SameMeta wr.drew (a := m1) (b := m2) hok1 hok2 hb.size
            rw [Hsame.out] at h
            exact h
          have HCall := Lib.hid hcall
          have i1 : (0 : Int) ≤ (k : Int) := by omega
          have i2 : (k : Int) < (n2 : Int) := by omega
          clear hmp hok1 hok2 hc1 hc2 hC hcall
          go_wp2
          go_region_held3 (fun W => (W.cell? ⟨b1, o1 + k * 10, none⟩ = some (.int .i64 kd) ∧ W.cell? ⟨b1, o1 + k * 10 + 1, none⟩ = some (.int .i64 ll) ∧ W.cell? ⟨b1, o1 + k * 10 + 2, none⟩ = some (.int .i64 nn) ∧ W.cell? ⟨b1, o1 + k * 10 + 5, none⟩ = some (.int .i64 m1.num) ∧ W.cell? ⟨b1, o1 + k * 10 + 5 + 1, none⟩ = some (.int .i64 m1.size) ∧ W.cell? ⟨b1, o1 + k * 10 + 5 + 2, none⟩ = some (.int .i64 m1.cnt) ∧ W.cell? ⟨b1, o1 + k * 10 + 5 + 3, none⟩ = some (.slice m1.A1 m1.n1 m1.c1) ∧ W.cell? ⟨b1, o1 + k * 10 + 5 + 4, none⟩ = some (.slice m1.A2 m1.n2 m1.c2)) ∧ (W.cell? ⟨b2, o2 + k * 10, none⟩ = some (.int .i64 kd) ∧ W.cell? ⟨b2, o2 + k * 10 + 1, none⟩ = some (.int .i64 ll) ∧ W.cell? ⟨b2, o2 + k * 10 + 2, none⟩ = some (.int .i64 nn) ∧ W.cell? ⟨b2, o2 + k * 10 + 5, none⟩ = some (.int .i64 m2.num) ∧ W.cell? ⟨b2, o2 + k * 10 + 5 + 1, none⟩ = some (.int .i64 m2.size) ∧ W.cell? ⟨b2, o2 + k * 10 + 5 + 2, none⟩ = some (.int .i64 m2.cnt) ∧ W.cell? ⟨b2, o2 + k * 10 + 5 + 3, none⟩ = some (.slice m2.A1 m2.n1 m2.c1) ∧ W.cell? ⟨b2, o2 + k * 10 + 5 + 4, none⟩ = some (.slice m2.A2 m2.n2 m2.c2)))
            ((refine HC.out _ ?_; first | exact Below.refl _ _ | exact (Below.refl _ _).drew | exact (Below.refl _ _).drew.trans hbc))
            (first | (go_at_call 15; refine HCall.out.mono ?_; rintro e wc ⟨rfl, hbc⟩))
          have hb4 := hb.trans (((Below.refl _ _).drew.trans hbc).mono hb.size)
          go_wp2
          go_roundw
          case rel => exact ⟨k + 1, by omega, by go_num, hb4⟩
          case measure => simp [intOf]; omega
        · go_wp2_with fail
          refine (c_rBegin _ 1).mono ?_
          rintro e w4 ⟨v, rfl, _, hb4⟩
          rw [show begE 1 = 0 from by decide +kernel]
          have hbf := hb3.trans ((hb.mono hb3.size).trans (hb4.mono (by have := hb.size; have := hb3.size; omega)))
          clear hb hb4
          go_wp2
          go_ret
          exact ⟨rfl, hbf⟩
    · have hl' : (1099511627776 : Int) < lv := by omega
      go_wp2
      go_ret
      exact ⟨rfl, hb1⟩
  · have hs' : (300 : Int) < (nU : Int) + (nL : Int) + (n : Int) := by omega
    go_wp2
    go_ret
    exact ⟨rfl, hb1⟩
end Go.Proofs.Ytgpbkebmfbbamaa
