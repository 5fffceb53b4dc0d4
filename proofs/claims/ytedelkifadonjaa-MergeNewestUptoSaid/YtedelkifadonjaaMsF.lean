/- Layer 23: two stretches in order are merged (symMerge): one behind many. -/
import Derived.Test.YtedelkifadonjaaMsB
namespace Go.Proofs.Ytedelkifadonjaa
open Go.RowKit Go.Lec Go.Op
set_option maxRecDepth 100000 in
set_option maxHeartbeats 4000000 in
theorem c_sym2 (w : World) {g n c a m b : Nat} {U P D : List Pr} {x : Pr} (hP : PrB 56 w g (U ++ (P ++ x :: D))) (hok : PrOk w g (U ++ (P ++ x :: D))) (hn : U.length + P.length + 1 + D.length = n) (hnc : n ≤ c) (hn2 : n ≤ 100000)
    (ha : a = U.length) (hm : m = U.length + P.length) (hb : b = U.length + P.length + 1) (hp2 : 2 ≤ P.length) (hs : SrtK Pr.key P) :
    Calls Try.prog 66 #[.slice (some ⟨g, 0, none⟩) n c, .int .i64 (a : Int), .int .i64 (m : Int), .int .i64 (b : Int), .func (.func 37) #[] #[]] w (SrtP w g U (P ++ [x]) D) := by
  have HOk := Lib.hid (fun (W : World) (hk : Kb [g] w W) => hok.kb hk)
  have w1 : IntKind.i64.wrap ((m : Int) - (a : Int)) = ((m - a : Nat) : Int) := by rw [IntWalk.i64_in _ (by omega)]; omega
  have w1b : IntKind.i64.wrap ((b : Int) - (m : Int)) = 1 := by rw [IntWalk.i64_in _ (by omega)]; omega
  obtain ⟨pl, hpl⟩ : ∃ pl, pl = m - a := ⟨_, rfl⟩
  rw [← hpl] at w1
  have hpl1 : ((pl : Int) == 1) = false := by rw [beq_eq_false_iff_ne]; omega
  have Ha := Lib.hid ha
  have Hm := Lib.hid hm
  have Hb := Lib.hid hb
  have Hn := Lib.hid hn
  have hbn : b ≤ n := by omega
  have hmb : m < b := by omega
  have ham : a < m := by omega
  have Hpl := Lib.hid hpl
  clear ha hm hb hn hok hpl hp2
  go_enter Try.func66, Try.ntmps66
  go_wp2
  go_loopw [14, 15] (fun vi vj wr => ∃ i j : Nat, vi = .int .i64 (i : Int) ∧ vj = .int .i64 (j : Int) ∧ a ≤ i ∧ i ≤ j ∧ j ≤ m ∧ (∀ z, (P.take (i - a)).getLast? = some z → bytesLess x.key z.key = false) ∧ (∀ y, (P.drop (j - a)).head? = some y → bytesLess x.key y.key = true) ∧ PrB 56 wr g (U ++ (P ++ x :: D)) ∧ Kb [g] w wr) (fun vi vj _ => (intOf vj).toNat - (intOf vi).toNat)
  case atStart => exact ⟨a, m, rfl, rfl, Nat.le_refl _, by omega, Nat.le_refl _, by simp, by have := Hm.out; have := Ha.out; rw [show m - a = P.length from by omega, List.drop_length]; simp, hP, Kb.refl _ _⟩
  case round =>
    obtain ⟨i, j, rfl, rfl, hmi, hij, hjb, hz1, hz2, hPr, hkb⟩ := hrel
    clear hP
    by_cases hlt : i < j
    · obtain ⟨h, hh⟩ : ∃ h, h = (i + j) / 2 := ⟨_, rfl⟩
      have hhi : ((i : Int) + (j : Int)) / 2 = (h : Int) := by omega
      have h1 : i ≤ h := by omega
      have h2 : h < j := by omega
      obtain ⟨t, ht⟩ : ∃ t, t = h - a := ⟨_, rfl⟩
      have htQ : t < P.length := by have := Hm.out; have := Ha.out; omega
      obtain ⟨q, hq⟩ : ∃ q, q = P[t] := ⟨_, rfl⟩
      have la : m < (U ++ (P ++ x :: D)).length := by have := Hm.out; simp; omega
      have lh : h < (U ++ (P ++ x :: D)).length := by have := Hm.out; simp; omega
      have ea : (U ++ (P ++ x :: D))[m] = x := by
        have e : m = U.length + P.length := Hm.out
        subst e
        rw [List.getElem_append_right (by omega), List.getElem_append_right (by omega)]
        simp
      have eh : (U ++ (P ++ x :: D))[h] = q := by
        have e : h = U.length + t := by have := Ha.out; omega
        subst e
        rw [List.getElem_append_right (by omega), hq]
        simp [List.getElem_append_left htQ]
      have c1 := hPr.cell la
      have c0 := hPr.cell lh
      rw [ea] at c1
      rw [eh] at c0
      have hmx := HOk.out wr hkb
      have hqo := hmx q (by simp [hq])
      have hxo := hmx x (by simp)
      have HC := Lib.hid (c_cmp wr.drew hxo.1 hqo.1 (Nat.le_refl _) (Nat.le_refl _))
      have HP := Lib.hid hPr
      have dQ : P.drop t = q :: P.drop (t + 1) := by rw [hq]; exact List.drop_eq_getElem_cons htQ
      have tQ : P.take (t + 1) = P.take t ++ [q] := by rw [hq]; exact List.take_succ_eq_append_getElem htQ
      have Ht := Lib.hid ht
      have Hz1 := Lib.hid hz1
      have Hz2 := Lib.hid hz2
      have hz := cmp_neg x.key q.key
      obtain ⟨z, hzz⟩ : ∃ z, z = Lib.compareBytes x.key q.key := ⟨_, rfl⟩
      rw [← hzz] at HC hz
      have Hh := Lib.hid hh
      have w2 : IntKind.i64.wrap (h : Int) = (h : Int) := IntWalk.i64_in _ (by omega)
      have w3 : IntKind.i64.wrap (m : Int) = (m : Int) := IntWalk.i64_in _ (by omega)
      have i1 : (0 : Int) ≤ (h : Int) := by omega
      have i2 : (h : Int) < (n : Int) := by omega
      have i3 : (0 : Int) ≤ (m : Int) := by omega
      have i4 : (m : Int) < (n : Int) := by omega
      unfold Pr.val at HC
      clear hzz hh ea eh la lh hmx hqo hxo hPr hq ht hz1 hz2
      cases hlc : bytesLess x.key q.key with
      | true =>
        have hzl : z < 0 := hz.2 hlc
        have Hfin := Lib.hid (show ∀ y, (P.drop (h - a)).head? = some y → bytesLess x.key y.key = true from fun y hy => by
          rw [← Ht.out, dQ] at hy
          simp at hy; subst hy; exact hlc)
        clear hz hlc dQ tQ
        go_wp2
        have hHeld : (fun W : World => (W.cell? ⟨g, h * 2, none⟩ = some (.slice q.A1 q.n1 q.c1) ∧ W.cell? ⟨g, h * 2 + 1, none⟩ = some (.slice q.A2 q.n2 q.c2)) ∧ W.cell? ⟨g, m * 2, none⟩ = some (.slice x.A1 x.n1 x.c1) ∧ W.cell? ⟨g, m * 2 + 1, none⟩ = some (.slice x.A2 x.n2 x.c2)) wr.drew := ⟨c0, c1⟩
        refine wp_region_noPanic ?_
        refine wp_region_held (S := fun W : World => (W.cell? ⟨g, h * 2, none⟩ = some (.slice q.A1 q.n1 q.c1) ∧ W.cell? ⟨g, h * 2 + 1, none⟩ = some (.slice q.A2 q.n2 q.c2)) ∧ W.cell? ⟨g, m * 2, none⟩ = some (.slice x.A1 x.n1 x.c1) ∧ W.cell? ⟨g, m * 2 + 1, none⟩ = some (.slice x.A2 x.n2 x.c2)) (by kernel_rfl) ?_
        simp only [List.size_toArray, List.length_cons, List.length_nil, Nat.reduceAdd]
        refine heldTake (i := 0) (v := ?_) rfl (by kernel_rfl) (by kernel_rfl) (by kernel_rfl) (fun _ _ _ h => h) hHeld (by rfl) ?_ ?_
        rotate_left
        · (intro w hSw; (try dsimp only at hSw); go_simp; try with_reducible rfl)
        try simp only [Act.put, List.setIfInBounds_toArray, List.set_cons_zero, List.set_cons_succ]
        refine heldTake (i := 1) (v := ?_) rfl (by kernel_rfl) (by kernel_rfl) (by kernel_rfl) (fun _ _ _ h => h) hHeld (by rfl) ?_ ?_
        rotate_left
        · (intro w hSw; (try dsimp only at hSw); go_simp; try with_reducible rfl)
        try simp only [Act.put, List.setIfInBounds_toArray, List.set_cons_zero, List.set_cons_succ]
        refine heldTake (i := 2) (v := ?_) rfl (by kernel_rfl) (by kernel_rfl) (by kernel_rfl) (fun _ _ _ h => h) hHeld (by rfl) ?_ ?_
        rotate_left
        · (intro w hSw; (try dsimp only at hSw); go_simp; try with_reducible rfl)
        try simp only [Act.put, List.setIfInBounds_toArray, List.set_cons_zero, List.set_cons_succ]
        refine heldTake (i := 3) (v := ?_) rfl (by kernel_rfl) (by kernel_rfl) (by kernel_rfl) (fun _ _ _ h => h) hHeld (by rfl) ?_ ?_
        rotate_left
        · (intro w hSw; (try dsimp only at hSw); go_simp; try with_reducible rfl)
        try simp only [Act.put, List.setIfInBounds_toArray, List.set_cons_zero, List.set_cons_succ]
        refine heldTake (i := 4) (v := ?_) rfl (by kernel_rfl) (by kernel_rfl) (by kernel_rfl) (fun _ _ _ h => h) hHeld (by rfl) ?_ ?_
        rotate_left
        · (intro w hSw; (try dsimp only at hSw); go_simp; try with_reducible rfl)
        try simp only [Act.put, List.setIfInBounds_toArray, List.set_cons_zero, List.set_cons_succ]
        refine heldTake (i := 5) (v := ?_) rfl (by kernel_rfl) (by kernel_rfl) (by kernel_rfl) (fun _ _ _ h => h) hHeld (by rfl) ?_ ?_
        rotate_left
        · (intro w hSw; (try dsimp only at hSw); go_simp; try with_reducible rfl)
        try simp only [Act.put, List.setIfInBounds_toArray, List.set_cons_zero, List.set_cons_succ]
        refine heldTake (i := 6) (v := ?_) rfl (by kernel_rfl) (by kernel_rfl) (by kernel_rfl) (fun _ _ _ h => h) hHeld (by rfl) ?_ ?_
        rotate_left
        · (intro w hSw; (try dsimp only at hSw); go_simp; try with_reducible rfl)
        try simp only [Act.put, List.setIfInBounds_toArray, List.set_cons_zero, List.set_cons_succ]
        refine heldTake (i := 7) (v := ?_) rfl (by kernel_rfl) (by kernel_rfl) (by kernel_rfl) (fun _ _ _ h => h) hHeld (by rfl) ?_ ?_
        rotate_left
        · (intro w hSw; (try dsimp only at hSw); go_simp; try with_reducible rfl)
        try simp only [Act.put, List.setIfInBounds_toArray, List.set_cons_zero, List.set_cons_succ]
        refine heldTake (i := 8) (v := ?_) rfl (by kernel_rfl) (by kernel_rfl) (by kernel_rfl) (fun _ _ _ h => h) hHeld (by rfl) ?_ ?_
        rotate_left
        · (intro w hSw; (try dsimp only at hSw); go_simp; try with_reducible rfl)
        try simp only [Act.put, List.setIfInBounds_toArray, List.set_cons_zero, List.set_cons_succ]
        refine heldStep (i := 9) rfl (by kernel_rfl) (fun K hK => ?_)
        go_simp
        go_at_call 37
        refine HC.out.mono ?_
        rintro e w5 ⟨rfl, hb5⟩
        have hb5w : Below wr.heap.size wr w5 := ((Below.refl wr.heap.size wr).drew).trans hb5
        refine hK.out _ _ (⟨⟨(hb5.cell (p := ⟨g, h * 2, none⟩) HP.out.lt).trans c0.1, (hb5.cell (p := ⟨g, h * 2 + 1, none⟩) HP.out.lt).trans c0.2⟩, (hb5.cell (p := ⟨g, m * 2, none⟩) HP.out.lt).trans c1.1, (hb5.cell (p := ⟨g, m * 2 + 1, none⟩) HP.out.lt).trans c1.2⟩) (fun hHeld => ?_)
        clear hK K
        try simp only [Act.put, List.setIfInBounds_toArray, List.set_cons_zero, List.set_cons_succ]
        refine heldTake (i := 10) (v := ?_) rfl (by kernel_rfl) (by kernel_rfl) (by kernel_rfl) (fun _ _ _ h => h) hHeld (by rfl) ?_ ?_
        rotate_left
        · (intro w hSw; (try dsimp only at hSw); go_simp; try with_reducible rfl)
        try simp only [Act.put, List.setIfInBounds_toArray, List.set_cons_zero, List.set_cons_succ]
        refine heldTake (i := 11) (v := ?_) rfl (by kernel_rfl) (by kernel_rfl) (by kernel_rfl) (fun _ _ _ h => h) hHeld (by rfl) ?_ ?_
        rotate_left
        · (intro w hSw; (try dsimp only at hSw); go_simp; try with_reducible rfl)
        try simp only [Act.put, List.setIfInBounds_toArray, List.set_cons_zero, List.set_cons_succ]
        refine wpAnyH_done (by kernel_rfl) ?_ _
        refine NoPanic.normal ?_
        go_wp2
        exact ⟨⟨i, h, rfl, rfl, hmi, by omega, by omega, Hz1.out, Hfin.out, HP.out.below hb5w HP.out.lt, hkb.trans (Kb.of_below hb5w : Kb [] wr w5) (fun b hb => by simp at hb)⟩, by simp [intOf]; omega⟩
      | false =>
        have hzl : ¬ z < 0 := fun h => by rw [hz.1 h] at hlc; cases hlc
        have hzl2 : decide (z < 0) = false := decide_eq_false hzl
        have hzl3 : 0 ≤ z := by omega
        have Hfin := Lib.hid (show ∀ z, (P.take (h + 1 - a)).getLast? = some z → bytesLess x.key z.key = false from fun z hz => by
          rw [show h + 1 - a = t + 1 from by have := Ht.out; omega, tQ] at hz
          simp at hz; subst hz; exact hlc)
        clear hz hlc dQ tQ
        go_wp2
        have hHeld : (fun W : World => (W.cell? ⟨g, h * 2, none⟩ = some (.slice q.A1 q.n1 q.c1) ∧ W.cell? ⟨g, h * 2 + 1, none⟩ = some (.slice q.A2 q.n2 q.c2)) ∧ W.cell? ⟨g, m * 2, none⟩ = some (.slice x.A1 x.n1 x.c1) ∧ W.cell? ⟨g, m * 2 + 1, none⟩ = some (.slice x.A2 x.n2 x.c2)) wr.drew := ⟨c0, c1⟩
        refine wp_region_noPanic ?_
        refine wp_region_held (S := fun W : World => (W.cell? ⟨g, h * 2, none⟩ = some (.slice q.A1 q.n1 q.c1) ∧ W.cell? ⟨g, h * 2 + 1, none⟩ = some (.slice q.A2 q.n2 q.c2)) ∧ W.cell? ⟨g, m * 2, none⟩ = some (.slice x.A1 x.n1 x.c1) ∧ W.cell? ⟨g, m * 2 + 1, none⟩ = some (.slice x.A2 x.n2 x.c2)) (by kernel_rfl) ?_
        simp only [List.size_toArray, List.length_cons, List.length_nil, Nat.reduceAdd]
        refine heldTake (i := 0) (v := ?_) rfl (by kernel_rfl) (by kernel_rfl) (by kernel_rfl) (fun _ _ _ h => h) hHeld (by rfl) ?_ ?_
        rotate_left
        · (intro w hSw; (try dsimp only at hSw); go_simp; try with_reducible rfl)
        try simp only [Act.put, List.setIfInBounds_toArray, List.set_cons_zero, List.set_cons_succ]
        refine heldTake (i := 1) (v := ?_) rfl (by kernel_rfl) (by kernel_rfl) (by kernel_rfl) (fun _ _ _ h => h) hHeld (by rfl) ?_ ?_
        rotate_left
        · (intro w hSw; (try dsimp only at hSw); go_simp; try with_reducible rfl)
        try simp only [Act.put, List.setIfInBounds_toArray, List.set_cons_zero, List.set_cons_succ]
        refine heldTake (i := 2) (v := ?_) rfl (by kernel_rfl) (by kernel_rfl) (by kernel_rfl) (fun _ _ _ h => h) hHeld (by rfl) ?_ ?_
        rotate_left
        · (intro w hSw; (try dsimp only at hSw); go_simp; try with_reducible rfl)
        try simp only [Act.put, List.setIfInBounds_toArray, List.set_cons_zero, List.set_cons_succ]
        refine heldTake (i := 3) (v := ?_) rfl (by kernel_rfl) (by kernel_rfl) (by kernel_rfl) (fun _ _ _ h => h) hHeld (by rfl) ?_ ?_
        rotate_left
        · (intro w hSw; (try dsimp only at hSw); go_simp; try with_reducible rfl)
        try simp only [Act.put, List.setIfInBounds_toArray, List.set_cons_zero, List.set_cons_succ]
        refine heldTake (i := 4) (v := ?_) rfl (by kernel_rfl) (by kernel_rfl) (by kernel_rfl) (fun _ _ _ h => h) hHeld (by rfl) ?_ ?_
        rotate_left
        · (intro w hSw; (try dsimp only at hSw); go_simp; try with_reducible rfl)
        try simp only [Act.put, List.setIfInBounds_toArray, List.set_cons_zero, List.set_cons_succ]
        refine heldTake (i := 5) (v := ?_) rfl (by kernel_rfl) (by kernel_rfl) (by kernel_rfl) (fun _ _ _ h => h) hHeld (by rfl) ?_ ?_
        rotate_left
        · (intro w hSw; (try dsimp only at hSw); go_simp; try with_reducible rfl)
        try simp only [Act.put, List.setIfInBounds_toArray, List.set_cons_zero, List.set_cons_succ]
        refine heldTake (i := 6) (v := ?_) rfl (by kernel_rfl) (by kernel_rfl) (by kernel_rfl) (fun _ _ _ h => h) hHeld (by rfl) ?_ ?_
        rotate_left
        · (intro w hSw; (try dsimp only at hSw); go_simp; try with_reducible rfl)
        try simp only [Act.put, List.setIfInBounds_toArray, List.set_cons_zero, List.set_cons_succ]
        refine heldTake (i := 7) (v := ?_) rfl (by kernel_rfl) (by kernel_rfl) (by kernel_rfl) (fun _ _ _ h => h) hHeld (by rfl) ?_ ?_
        rotate_left
        · (intro w hSw; (try dsimp only at hSw); go_simp; try with_reducible rfl)
        try simp only [Act.put, List.setIfInBounds_toArray, List.set_cons_zero, List.set_cons_succ]
        refine heldTake (i := 8) (v := ?_) rfl (by kernel_rfl) (by kernel_rfl) (by kernel_rfl) (fun _ _ _ h => h) hHeld (by rfl) ?_ ?_
        rotate_left
        · (intro w hSw; (try dsimp only at hSw); go_simp; try with_reducible rfl)
        try simp only [Act.put, List.setIfInBounds_toArray, List.set_cons_zero, List.set_cons_succ]
        refine heldStep (i := 9) rfl (by kernel_rfl) (fun K hK => ?_)
        go_simp
        go_at_call 37
        refine HC.out.mono ?_
        rintro e w5 ⟨rfl, hb5⟩
        have hb5w : Below wr.heap.size wr w5 := ((Below.refl wr.heap.size wr).drew).trans hb5
        refine hK.out _ _ (⟨⟨(hb5.cell (p := ⟨g, h * 2, none⟩) HP.out.lt).trans c0.1, (hb5.cell (p := ⟨g, h * 2 + 1, none⟩) HP.out.lt).trans c0.2⟩, (hb5.cell (p := ⟨g, m * 2, none⟩) HP.out.lt).trans c1.1, (hb5.cell (p := ⟨g, m * 2 + 1, none⟩) HP.out.lt).trans c1.2⟩) (fun hHeld => ?_)
        clear hK K
        try simp only [Act.put, List.setIfInBounds_toArray, List.set_cons_zero, List.set_cons_succ]
        refine heldTake (i := 10) (v := ?_) rfl (by kernel_rfl) (by kernel_rfl) (by kernel_rfl) (fun _ _ _ h => h) hHeld (by rfl) ?_ ?_
        rotate_left
        · (intro w hSw; (try dsimp only at hSw); go_simp; try with_reducible rfl)
        try simp only [Act.put, List.setIfInBounds_toArray, List.set_cons_zero, List.set_cons_succ]
        refine heldTake (i := 11) (v := ?_) rfl (by kernel_rfl) (by kernel_rfl) (by kernel_rfl) (fun _ _ _ h => h) hHeld (by rfl) ?_ ?_
        rotate_left
        · (intro w hSw; (try dsimp only at hSw); go_simp; try with_reducible rfl)
        try simp only [Act.put, List.setIfInBounds_toArray, List.set_cons_zero, List.set_cons_succ]
        refine wpAnyH_done (by kernel_rfl) ?_ _
        refine NoPanic.normal ?_
        go_wp2
        exact ⟨⟨h + 1, j, by go_num, rfl, by omega, by omega, hjb, Hfin.out, Hz2.out, HP.out.below hb5w HP.out.lt, hkb.trans (Kb.of_below hb5w : Kb [] wr w5) (fun b hb => by simp at hb)⟩, by simp [intOf]; omega⟩
    · obtain rfl : i = j := by omega
      obtain ⟨t, ht⟩ : ∃ t, t = i - a := ⟨_, rfl⟩
      rw [← ht] at hz1 hz2
      have htQ : t ≤ P.length := by have := Hm.out; have := Ha.out; omega
      have hsQ := hs
      rw [← List.take_append_drop t P] at hsQ
      have hput := put_right (x := x) hsQ hz1 hz2
      rw [List.take_append_drop] at hput
      have Hput := Lib.hid hput
      have hlt' : ¬ (i : Int) < (i : Int) := by omega
      have He := Lib.hid (show i = a + t from by omega)
      clear hz1 hz2 hsQ hput ht
      go_wp2
      go_loopw [17] (fun vk wr => ∃ r : Nat, vk = .int .i64 ((a + r : Nat) : Int) ∧ t ≤ r ∧ r ≤ P.length ∧ PrB 56 wr g (U ++ P.take r ++ x :: (P.drop r ++ D)) ∧ Kb [g] w wr) (fun vk _ => (intOf vk).toNat)
      case atStart => exact ⟨P.length, by rw [show a + P.length = m from by have := Ha.out; have := Hm.out; omega], htQ, Nat.le_refl _, by simpa using hPr, hkb⟩
      case round =>
        clear hPr hkb
        obtain ⟨r, rfl, hst, hrP, hPr, hkb⟩ := hrel
        by_cases hlt2 : t < r
        · obtain ⟨r', rfl⟩ : ∃ r', r = r' + 1 := ⟨r - 1, by omega⟩
          obtain ⟨k, hk⟩ : ∃ k, k = a + r' := ⟨_, rfl⟩
          rw [show a + (r' + 1) = k + 1 from by omega]
          obtain ⟨q, hq⟩ : ∃ q, q = P[r'] := ⟨_, rfl⟩
          have dQ : P.drop r' = q :: P.drop (r' + 1) := by rw [hq]; exact List.drop_eq_getElem_cons (by omega)
          have tQ : P.take (r' + 1) = P.take r' ++ [q] := by rw [hq]; exact List.take_succ_eq_append_getElem (by omega)
          have hlk : (i : Int) < (k : Int) + 1 := by have := He.out; omega
          have hrow : U ++ P.take (r' + 1) ++ x :: (P.drop (r' + 1) ++ D) = (U ++ P.take r') ++ q :: x :: (P.drop (r' + 1) ++ D) := by rw [tQ]; simp
          have hrow2 : (U ++ P.take r') ++ x :: q :: (P.drop (r' + 1) ++ D) = U ++ P.take r' ++ x :: (P.drop r' ++ D) := by rw [dQ]; simp
          rw [hrow] at hPr
          have hAl : (U ++ P.take r').length = k := by rw [List.length_append, List.length_take, Nat.min_eq_left (by omega), hk, Ha.out]
          obtain ⟨hfin, c0, c1⟩ := hPr.swapNext (i := k + 1) (j := k) (by rw [hAl]) hAl.symm
          have z := hPr.frz
          rw [hrow2] at hfin
          have Hfin := Lib.hid hfin
          obtain ⟨k1, k2, k3⟩ := swap_cells (p := k + 1) (r := k) (a1 := .slice q.A1 q.n1 q.c1) (a2 := .slice q.A2 q.n2 q.c2) (b1 := .slice x.A1 x.n1 x.c1) (by omega) c0.1 c0.2 c1.1 c1.2
          have hkn : k + 1 < n := by have := Ha.out; have := Hn.out; omega
          have w4 : IntKind.i64.wrap ((k : Int) + 1) = (k : Int) + 1 := IntWalk.i64_in _ (by omega)
          have w5 : IntKind.i64.wrap (k : Int) = (k : Int) := IntWalk.i64_in _ (by omega)
          have i1 : (0 : Int) ≤ (k : Int) := by omega
          have i2 : (k : Int) < (n : Int) := by omega
          have i3 : (0 : Int) ≤ (k : Int) + 1 := by omega
          have i4 : (k : Int) + 1 < (n : Int) := by omega
          have Hk := Lib.hid hk
          have Hkb := Lib.hid hkb
          clear hPr hrow hrow2 dQ tQ hq hfin hk hkb hAl
          go_wp2
          have hHeld : (fun W : World => (W.cell? ⟨g, (k + 1) * 2, none⟩ = some (.slice x.A1 x.n1 x.c1) ∧ W.cell? ⟨g, (k + 1) * 2 + 1, none⟩ = some (.slice x.A2 x.n2 x.c2)) ∧ W.cell? ⟨g, k * 2, none⟩ = some (.slice q.A1 q.n1 q.c1) ∧ W.cell? ⟨g, k * 2 + 1, none⟩ = some (.slice q.A2 q.n2 q.c2)) wr.drew := ⟨c0, c1⟩
          refine wp_region_U (S := fun W : World => (W.cell? ⟨g, (k + 1) * 2, none⟩ = some (.slice x.A1 x.n1 x.c1) ∧ W.cell? ⟨g, (k + 1) * 2 + 1, none⟩ = some (.slice x.A2 x.n2 x.c2)) ∧ W.cell? ⟨g, k * 2, none⟩ = some (.slice q.A1 q.n1 q.c1) ∧ W.cell? ⟨g, k * 2 + 1, none⟩ = some (.slice q.A2 q.n2 q.c2)) (ks := [9, 13]) (by kernel_rfl) ?_
          simp only [List.size_toArray, List.length_cons, List.length_nil, Nat.reduceAdd]
          refine uPure (i := 0) (v := ?_) rfl (by kernel_rfl) (by kernel_rfl) (by kernel_rfl) (by kernel_rfl) (fun _ _ _ h => h) (by rfl) ?_ ?_
          rotate_left
          · (intro w; go_simp; try with_reducible rfl)
          try simp only [Act.put, List.setIfInBounds_toArray, List.set_cons_zero, List.set_cons_succ]
          refine uPure (i := 1) (v := ?_) rfl (by kernel_rfl) (by kernel_rfl) (by kernel_rfl) (by kernel_rfl) (fun _ _ _ h => h) (by rfl) ?_ ?_
          rotate_left
          · (intro w; go_simp; try with_reducible rfl)
          try simp only [Act.put, List.setIfInBounds_toArray, List.set_cons_zero, List.set_cons_succ]
          refine uPure (i := 2) (v := ?_) rfl (by kernel_rfl) (by kernel_rfl) (by kernel_rfl) (by kernel_rfl) (fun _ _ _ h => h) (by rfl) ?_ ?_
          rotate_left
          · (intro w; go_simp; try with_reducible rfl)
          try simp only [Act.put, List.setIfInBounds_toArray, List.set_cons_zero, List.set_cons_succ]
          refine uPure (i := 3) (v := ?_) rfl (by kernel_rfl) (by kernel_rfl) (by kernel_rfl) (by kernel_rfl) (fun _ _ _ h => h) (by rfl) ?_ ?_
          rotate_left
          · (intro w; go_simp; try with_reducible rfl)
          try simp only [Act.put, List.setIfInBounds_toArray, List.set_cons_zero, List.set_cons_succ]
          refine uPure (i := 4) (v := ?_) rfl (by kernel_rfl) (by kernel_rfl) (by kernel_rfl) (by kernel_rfl) (fun _ _ _ h => h) (by rfl) ?_ ?_
          rotate_left
          · (intro w; go_simp; try with_reducible rfl)
          try simp only [Act.put, List.setIfInBounds_toArray, List.set_cons_zero, List.set_cons_succ]
          refine uPure (i := 5) (v := ?_) rfl (by kernel_rfl) (by kernel_rfl) (by kernel_rfl) (by kernel_rfl) (fun _ _ _ h => h) (by rfl) ?_ ?_
          rotate_left
          · (intro w; go_simp; try with_reducible rfl)
          try simp only [Act.put, List.setIfInBounds_toArray, List.set_cons_zero, List.set_cons_succ]
          refine uPure (i := 6) (v := ?_) rfl (by kernel_rfl) (by kernel_rfl) (by kernel_rfl) (by kernel_rfl) (fun _ _ _ h => h) (by rfl) ?_ ?_
          rotate_left
          · (intro w; go_simp; try with_reducible rfl)
          try simp only [Act.put, List.setIfInBounds_toArray, List.set_cons_zero, List.set_cons_succ]
          refine uPure (i := 7) (v := ?_) rfl (by kernel_rfl) (by kernel_rfl) (by kernel_rfl) (by kernel_rfl) (fun _ _ _ h => h) (by rfl) ?_ ?_
          rotate_left
          · (intro w; go_simp; try with_reducible rfl)
          try simp only [Act.put, List.setIfInBounds_toArray, List.set_cons_zero, List.set_cons_succ]
          refine uPure (i := 8) (v := ?_) rfl (by kernel_rfl) (by kernel_rfl) (by kernel_rfl) (by kernel_rfl) (fun _ _ _ h => h) (by rfl) ?_ ?_
          rotate_left
          · (intro w; go_simp; try with_reducible rfl)
          try simp only [Act.put, List.setIfInBounds_toArray, List.set_cons_zero, List.set_cons_succ]
          refine uPure (i := 10) (v := ?_) rfl (by kernel_rfl) (by kernel_rfl) (by kernel_rfl) (by kernel_rfl) (fun _ _ _ h => h) (by rfl) ?_ ?_
          rotate_left
          · (intro w; go_simp; try with_reducible rfl)
          try simp only [Act.put, List.setIfInBounds_toArray, List.set_cons_zero, List.set_cons_succ]
          refine uPure (i := 11) (v := ?_) rfl (by kernel_rfl) (by kernel_rfl) (by kernel_rfl) (by kernel_rfl) (fun _ _ _ h => h) (by rfl) ?_ ?_
          rotate_left
          · (intro w; go_simp; try with_reducible rfl)
          try simp only [Act.put, List.setIfInBounds_toArray, List.set_cons_zero, List.set_cons_succ]
          refine uPure (i := 12) (v := ?_) rfl (by kernel_rfl) (by kernel_rfl) (by kernel_rfl) (by kernel_rfl) (fun _ _ _ h => h) (by rfl) ?_ ?_
          rotate_left
          · (intro w; go_simp; try with_reducible rfl)
          try simp only [Act.put, List.setIfInBounds_toArray, List.set_cons_zero, List.set_cons_succ]
          refine uTake (i := 9) (v := ?_) rfl (by kernel_rfl) (by kernel_rfl) (by kernel_rfl) (by kernel_rfl) (fun _ _ _ h => h) hHeld (by rfl) ?_ ?_
          rotate_left
          · (intro w hSw; (try dsimp only at hSw); go_simp; try with_reducible rfl)
          try simp only [Act.put, List.setIfInBounds_toArray, List.set_cons_zero, List.set_cons_succ]
          refine uTake (i := 13) (v := ?_) rfl (by kernel_rfl) (by kernel_rfl) (by kernel_rfl) (by kernel_rfl) (fun _ _ _ h => h) hHeld (by rfl) ?_ ?_
          rotate_left
          · (intro w hSw; (try dsimp only at hSw); go_simp; try with_reducible rfl)
          try simp only [Act.put, List.setIfInBounds_toArray, List.set_cons_zero, List.set_cons_succ]
          refine uPure (i := 14) (v := ?_) rfl (by kernel_rfl) (by kernel_rfl) (by kernel_rfl) (by kernel_rfl) (fun _ _ _ h => h) (by rfl) ?_ ?_
          rotate_left
          · (intro w; go_simp; try with_reducible rfl)
          try simp only [Act.put, List.setIfInBounds_toArray, List.set_cons_zero, List.set_cons_succ]
          refine uStep (i := 15) rfl (by kernel_rfl) (fun K hK => ?_)
          go_simp
          refine hK.out _ _ (fun h => absurd h (by decide)) ?_
          clear hK K
          try simp only [Act.put, List.setIfInBounds_toArray, List.set_cons_zero, List.set_cons_succ]
          refine uPure (i := 16) (v := ?_) rfl (by kernel_rfl) (by kernel_rfl) (by kernel_rfl) (by kernel_rfl) (fun _ _ _ h => h) (by rfl) ?_ ?_
          rotate_left
          · (intro w; go_simp; try with_reducible rfl)
          try simp only [Act.put, List.setIfInBounds_toArray, List.set_cons_zero, List.set_cons_succ]
          refine uStep (i := 17) rfl (by kernel_rfl) (fun K hK => ?_)
          go_simp
          refine hK.out _ _ (fun h => absurd h (by decide)) ?_
          clear hK K
          try simp only [Act.put, List.setIfInBounds_toArray, List.set_cons_zero, List.set_cons_succ]
          refine uDone (by kernel_rfl) ?_ _
          go_wp2
          refine ⟨⟨r', by rw [show a + r' = k from by have := Hk.out; omega], by omega, by omega, Hfin.out.drew, ((((Hkb.out.setCell (p := ⟨g, (k + 1) * 2, none⟩) (.inl (by simp)) _).setCell (p := ⟨g, (k + 1) * 2 + 1, none⟩) (.inl (by simp)) _).setCell (p := ⟨g, k * 2, none⟩) (.inl (by simp)) _).setCell (p := ⟨g, k * 2 + 1, none⟩) (.inl (by simp)) _).drew⟩, ?_⟩
          simp [intOf] <;> omega
        · obtain rfl : r = t := by omega
          obtain ⟨k, hk⟩ : ∃ k, k = a + r := ⟨_, rfl⟩
          rw [← hk]
          have hlk : ¬ (i : Int) < (k : Int) := by have := He.out; omega
          have hfin : PrB 56 wr g (U ++ (P.take r ++ x :: P.drop r) ++ D) := by simpa only [List.append_assoc, List.cons_append] using hPr
          clear hPr hk
          go_wp2
          refine bodyPost_ret (results_none rfl _ _ _) rfl ?_
          exact ⟨rfl, _, hfin, Hput.out.1, Hput.out.2, hkb⟩
end Go.Proofs.Ytedelkifadonjaa
