/- Layer 23: two stretches in order are merged (symMerge): one behind many. -/
import Derived.Test.YtedelkifadonjaaMsB
namespace Go.Proofs.Ytedelkifadonjaa
open Go.RowKit Go.Lec Go.Op
set_option maxRecDepth 100000 in
set_option maxHeartbeats 4000000 in
theorem c_sym2 (w : World) {g n c a m b : Nat} {U P D : List Pr} {x : Pr} (hP : PrB 56 w g (U ++ (P ++ x :: D))) (hok : PrOk w g (U ++ (P ++ x :: D))) (hn : U.length + P.length + 1 + D.length = n) (hnc : n ≤ c) (hn2 : n ≤ 100000)
    (ha : a = U.length) (hm : m = U.length + P.length) (hb : b = U.length + P.length + 1) (hp2 : 2 ≤ P.length) (hs : SrtK Pr.key P) :
    Calls Try.prog 66 #[.slice (some ⟨g, 0, none⟩) n c, .int .i64 (a : Int), .int .i64 (m : Int), .int .i64 (b : Int), .func (.func 37) #[] #[]] w (SrtP w g U (P ++ [x]) D) := by
  have HOk := Lib.hid (fun (W : World) (hk : Kb [g] w W) => hok.kb hk)
  have w1 : IntKind.i64.wrap ((m : Int) - (a : Int)) = ((m - a : Nat) : Int) := by rw [IntWalk.i64_in _ (by omega)]; omega
  have w1b : IntKind.i64.wrap ((b : Int) - (m : Int)) = 1 := by rw [IntWalk.i64_in _ (by omega)]; omega
  obtain ⟨pl, hpl⟩ : ∃ pl, pl = m - a := ⟨_, rfl⟩
  rw [← hpl] at w1
  have hpl1 : ((pl : Int) == 1) = false := by rw [beq_eq_false_iff_ne]; omega
  have Ha := Lib.hid ha
  have Hm := Lib.hid hm
  have Hb := Lib.hid hb
  have Hn := Lib.hid hn
  have hbn : b ≤ n := by omega
  have hmb : m < b := by omega
  have ham : a < m := by omega
  have Hpl := Lib.hid hpl
  clear ha hm hb hn hok hpl hp2
  go_enter Try.func66, Try.ntmps66
  go_wp2
  go_loopw [14, 15] (fun vi vj wr => ∃ i j : Nat, vi = .int .i64 (i : Int) ∧ vj = .int .i64 (j : Int) ∧ a ≤ i ∧ i ≤ j ∧ j ≤ m ∧ (∀ z, (P.take (i - a)).getLast? = some z → bytesLess x.key z.key = false) ∧ (∀ y, (P.drop (j - a)).head? = some y → bytesLess x.key y.key = true) ∧ PrB 56 wr g (U ++ (P ++ x :: D)) ∧ Kb [g] w wr) (fun vi vj _ => (intOf vj).toNat - (intOf vi).toNat)
  case atStart => exact ⟨a, m, rfl, rfl, Nat.le_refl _, by omega, Nat.le_refl _, by simp, by have := Hm.out; have := Ha.out; rw [show m - a = P.length from by omega, List.drop_length]; simp, hP, Kb.refl _ _⟩
  case round =>
    obtain ⟨i, j, rfl, rfl, hmi, hij, hjb, hz1, hz2, hPr, hkb⟩ := hrel
    clear hP
    by_cases hlt : i < j
    · obtain ⟨h, hh⟩ : ∃ h, h = (i + j) / 2 := ⟨_, rfl⟩
      have hhi : ((i : Int) + (j : Int)) / 2 = (h : Int) := by omega
      have h1 : i ≤ h := by omega
      have h2 : h < j := by omega
      obtain ⟨t, ht⟩ : ∃ t, t = h - a := ⟨_, rfl⟩
      have htQ : t < P.length := by have := Hm.out; have := Ha.out; omega
      obtain ⟨q, hq⟩ : ∃ q, q = P[t] := ⟨_, rfl⟩
      have la : m < (U ++ (P ++ x :: D)).length := by have := Hm.out; simp; omega
      have lh : h < (U ++ (P ++ x :: D)).length := by have := Hm.out; simp; omega
      have ea : (U ++ (P ++ x :: D))[m] = x := by
        have e : m = U.length + P.length := Hm.out
        subst e
        rw [List.getElem_append_right (by omega), List.getElem_append_right (by omega)]
        simp
      have eh : (U ++ (P ++ x :: D))[h] = q := by
        have e : h = U.length + t := by have := Ha.out; omega
        subst e
        rw [List.getElem_append_right (by omega), hq]
        simp [List.getElem_append_left htQ]
      have c1 := hPr.cell la
      have c0 := hPr.cell lh
      rw [ea] at c1
      rw [eh] at c0
      have hmx := HOk.out wr hkb
      have hqo := hmx q (by simp [hq])
      have hxo := hmx x (by simp)
      have HC := Lib.hid (c_cmp wr.drew hxo.1 hqo.1 (Nat.le_refl _) (Nat.le_refl _))
      have HP := Lib.hid hPr
      have dQ : P.drop t = q :: P.drop (t + 1) := by rw [hq]; exact List.drop_eq_getElem_cons htQ
      have tQ : P.take (t + 1) = P.take t ++ [q] := by rw [hq]; exact List.take_succ_eq_append_getElem htQ
      have Ht := Lib.hid ht
      have Hz1 := Lib.hid hz1
      have Hz2 := Lib.hid hz2
      have hz := cmp_neg x.key q.key
      obtain ⟨z, hzz⟩ : ∃ z, z = Lib.compareBytes x.key q.key := ⟨_, rfl⟩
      rw [← hzz] at HC hz
      have Hh := Lib.hid hh
      have w2 : IntKind.i64.wrap (h : Int) = (h : Int) := IntWalk.i64_in _ (by omega)
      have w3 : IntKind.i64.wrap (m : Int) = (m : Int) := IntWalk.i64_in _ (by omega)
      have i1 : (0 : Int) ≤ (h : Int) := by omega
      have i2 : (h : Int) < (n : Int) := by omega
      have i3 : (0 : Int) ≤ (m : Int) := by omega
      have i4 : (m : Int) < (n : Int) := by omega
      unfold Pr.val at HC
      clear hzz hh ea eh la lh hmx hqo hxo hPr hq ht hz1 hz2
      cases hlc : bytesLess x.key q.key with
      | true =>
        have hzl : z < 0 := hz.2 hlc
        have Hfin := Lib.hid (show ∀ y, (P.drop (h - a)).head? = some y → bytesLess x.key y.key = true from fun y hy => by
          rw [← Ht.out, dQ] at hy
          simp at hy; subst hy; exact hlc)
        clear hz hlc dQ tQ
        go_wp2
        have hHeld : (fun W : World => (W.cell? ⟨g, h * 2, none⟩ = some (.slice q.A1 q.n1 q.c1) ∧ W.cell? ⟨g, h * 2 + 1, none⟩ = some (.slice q.A2 q.n2 q.c2)) ∧ W.cell? ⟨g, m * 2, none⟩ = some (.slice x.A1 x.n1 x.c1) ∧ W.cell? ⟨g, m * 2 + 1, none⟩ = some (.slice x.A2 x.n2 x.c2)) wr.drew := ⟨c0, c1⟩
        refine wp_region_noPanic ?_
        refine wp_region_held (S := fun W : World => (W.cell? ⟨g, h * 2, none⟩ = some (.slice q.A1 q.n1 q.c1) ∧ W.cell? ⟨g, h * 2 + 1, none⟩ = some (.slice q.A2 q.n2 q.c2)) ∧ W.cell? ⟨g, m * 2, none⟩ = some (.slice x.A1 x.n1 x.c1) ∧ W.cell? ⟨g, m * 2 + 1, none⟩ = some (.slice x.A2 x.n2 x.c2)) (by kernel_rfl) ?_
        simp only [List.size_toArray, List.length_cons, List.length_nil, Nat.reduceAdd]
        refine heldTake (i := 0) (v := ?_) rfl (by kernel_rfl) (by kernel_rfl) (by kernel_rfl) (fun _ _ _ h => h) hHeld (by rfl) ?_ ?_
        rotate_left
        · (intro w hSw; (try dsimp only at hSw); go_simp; try with_reducible rfl)
        try simp only [Act.put, List.setIfInBounds_toArray, List.set_cons_zero, List.set_cons_succ]
        refine heldTake (i := 1) (v := ?_) rfl (by kernel_rfl) (by kernel_rfl) (by kernel_rfl) (fun _ _ _ h => h) hHeld (by rfl) ?_ ?_
        rotate_left
        · (intro w hSw; (try dsimp only at hSw); go_simp; try with_reducible rfl)
        try simp only [Act.put, List.setIfInBounds_toArray, List.set_cons_zero, List.set_cons_succ]
        refine heldTake (i := 2) (v := ?_) rfl (by kernel_rfl) (by kernel_rfl) (by kernel_rfl) (fun _ _ _ h => h) hHeld (by rfl) ?_ ?_
        rotate_left
        · (intro w hSw; (try dsimp only at hSw); go_simp; try with_reducible rfl)
        try simp only [Act.put, List.setIfInBounds_toArray, List.set_cons_zero, List.set_cons_succ]
        refine heldTake (i := 3) (v := ?_) rfl (by kernel_rfl) (by kernel_rfl) (by kernel_rfl) (fun _ _ _ h => h) hHeld (by rfl) ?_ ?_
        rotate_left
        · (intro w hSw; (try dsimp only at hSw); go_simp; try with_reducible rfl)
        try simp only [Act.put, List.setIfInBounds_toArray, List.set_cons_zero, List.set_cons_succ]
        refine heldTake (i := 4) (v := ?_) rfl (by kernel_rfl) (by kernel_rfl) (by kernel_rfl) (fun _ _ _ h => h) hHeld (by rfl) ?_ ?_
        rotate_left
        · (intro w hSw; (try dsimp only at hSw); go_simp; try with_reducible rfl)
        try simp only [Act.put, List.setIfInBounds_toArray, List.set_cons_zero, List.set_cons_succ]
        refine heldTake (i := 5) (v := ?_) rfl (by kernel_rfl) (by kernel_rfl) (by kernel_rfl) (fun _ _ _ h => h) hHeld (by rfl) ?_ ?_
        rotate_left
        · (intro w hSw; (try dsimp only at hSw); go_simp; try with_reducible rfl)
        try simp only [Act.put, List.setIfInBounds_toArray, List.set_cons_zero, List.set_cons_succ]
        refine heldTake (i := 6) (v := ?_) rfl (by kernel_rfl) (by kernel_rfl) (by kernel_rfl) (fun _ _ _ h => h) hHeld (by rfl) ?_ ?_
        rotate_left
        · (intro w hSw; (try dsimp only at hSw); go_simp; try with_reducible rfl)
        try simp only [Act.put, List.setIfInBounds_toArray, List.set_cons_zero, List.set_cons_succ]
        refine heldTake (i := 7) (v := ?_) rfl (by kernel_rfl) (by kernel_rfl) (by kernel_rfl) (fun _ _ _ h => h) hHeld (by rfl) ?_ ?_
        rotate_left
        · (intro w hSw; (try dsimp only at hSw); go_simp; try with_reducible rfl)
        try simp only [Act.put, List.setIfInBounds_toArray, List.set_cons_zero, List.set_cons_succ]
        refine heldTake (i := 8) (v := ?_) rfl (by kernel_rfl) (by kernel_rfl) (by kernel_rfl) (fun _ _ _ h => h) hHeld (by rfl) ?_ ?_
        rotate_left
        · (intro w hSw; (try dsimp only at hSw); go_simp; try with_reducible rfl)
        try simp only [Act.put, List.setIfInBounds_toArray, List.set_cons_zero, List.set_cons_succ]
        refine heldStep (i := 9) rfl (by kernel_rfl) (fun K hK => ?_)
        go_simp
        go_at_call 37
        refine HC.out.mono ?_
        rintro e w5 ⟨rfl, hb5⟩
        have hb5w : Below wr.heap.size wr w5 := ((Below.refl wr.heap.size wr).drew).trans hb5
        refine hK.out _ _ (⟨⟨(hb5.cell (p := ⟨g, h * 2, none⟩) HP.out.lt).trans c0.1, (hb5.cell (p := ⟨g, h * 2 + 1, none⟩) HP.out.lt).trans c0.2⟩, (hb5.cell (p := ⟨g, m * 2, none⟩) HP.out.lt).trans c1.1, (hb5.cell (p := ⟨g, m * 2 + 1, none⟩) HP.out.lt).trans c1.2⟩) (fun hHeld => ?_)
        clear hK K
        try simp only [Act.put, List.setIfInBounds_toArray, List.set_cons_zero, List.set_cons_succ]
        refine heldTake (i := 10) (v := ?_) rfl (by kernel_rfl) (by kernel_rfl) (by kernel_rfl) (fun _ _ _ h => h) hHeld (by rfl) ?_ ?_
        rotate_left
        · (intro w hSw; (try dsimp only at hSw); go_simp; try with_reducible rfl)
        try simp only [Act.put, List.setIfInBounds_toArray, List.set_cons_zero, List.set_cons_succ]
        refine heldTake (i := 11) (v := ?_) rfl (by kernel_rfl) (by kernel_rfl) (by kernel_rfl) (fun _ _ _ h => h) hHeld (by rfl) ?_ ?_
        rotate_left
        · (intro w hSw; (try dsimp only at hSw); go_simp; try with_reducible rfl)
        try simp only [Act.put, List.setIfInBounds_toArray, List.set_cons_zero, List.set_cons_succ]
        refine wpAnyH_done (by kernel_rfl) ?_ _
        refine NoPanic.normal ?_
        go_wp2
        exact ⟨⟨i, h, rfl, rfl, hmi, by omega, by omega, Hz1.out, Hfin.out, HP.out.below hb5w HP.out.lt, hkb.trans (Kb.of_below hb5w : Kb [] wr w5) (fun b hb => by simp at hb)⟩, by simp [intOf]; omega⟩
      | false =>
        have hzl : ¬ z < 0 := fun h => by rw [hz.1 h] at hlc; cases hlc
        have hzl2 : decide (z < 0) = false := decide_eq_false hzl
        have hzl3 : 0 ≤ z := by omega
        have Hfin := Lib.hid (show ∀ z, (P.take (h + 1 - a)).getLast? = some z → bytesLess x.key z.key = false from fun z hz => by
          rw [show h + 1 - a = t + 1 from by have := Ht.out; omega, tQ] at hz
          simp at hz; subst hz; exact hlc)
        clear hz hlc dQ tQ
        go_wp2
        have hHeld : (fun W : World => (W.cell? ⟨g, h * 2, none⟩ = some (.slice q.A1 q.n1 q.c1) ∧ W.cell? ⟨g, h * 2 + 1, none⟩ = some (.slice q.A2 q.n2 q.c2)) ∧ W.cell? ⟨g, m * 2, none⟩ = some (.slice x.A1 x.n1 x.c1) ∧ W.cell? ⟨g, m * 2 + 1, none⟩ = some (.slice x.A2 x.n2 x.c2)) wr.drew := ⟨c0, c1⟩
        refine wp_region_noPanic ?_
        refine wp_region_held (S := fun W : World => (W.cell? ⟨g, h * 2, none⟩ = some (.slice q.A1 q.n1 q.c1) ∧ W.cell? ⟨g, h * 2 + 1, none⟩ = some (.slice q.A2 q.n2 q.c2)) ∧ W.cell? ⟨g, m * 2, none⟩ = some (.slice x.A1 x.n1 x.c1) ∧ W.cell? ⟨g, m * 2 + 1, none⟩ = some (.slice x.A2 x.n2 x.c2)) (by kernel_rfl) ?_
        simp only [List.size_toArray, List.length_cons, List.length_nil, Nat.reduceAdd]
        refine heldTake (i := 0) (v := ?_) rfl (by kernel_rfl) (by kernel_rfl) (by kernel_rfl) (fun _ _ _ h => h) hHeld (by rfl) ?_ ?_
        rotate_left
        · (intro w hSw; (try dsimp only at hSw); go_simp; try with_reducible rfl)
        try simp only [Act.put, List.setIfInBounds_toArray, List.set_cons_zero, List.set_cons_succ]
        refine heldTake (i := 1) (v := ?_) rfl (by kernel_rfl) (by kernel_rfl) (by kernel_rfl) (fun _ _ _ h => h) hHeld (by rfl) ?_ ?_
        rotate_left
        · (intro w hSw; (try dsimp only at hSw); go_simp; try with_reducible rfl)
        try simp only [Act.put, List.setIfInBounds_toArray, List.set_cons_zero, List.set_cons_succ]
        refine heldTake (i := 2) (v := ?_) rfl (by kernel_rfl) (by kernel_rfl) (by kernel_rfl) (fun _ _ _ h => h) hHeld (by rfl) ?_ ?_
        rotate_left
        · (intro w hSw; (try dsimp only at hSw); go_simp; try with_reducible rfl)
        try simp only [Act.put, List.setIfInBounds_toArray, List.set_cons_zero, List.set_cons_succ]
        refine heldTake (i := 3) (v := ?_) rfl (by kernel_rfl) (by kernel_rfl) (by kernel_rfl) (fun _ _ _ h => h) hHeld (by rfl) ?_ ?_
        rotate_left
        · (intro w hSw; (try dsimp only at hSw); go_simp; try with_reducible rfl)
        try simp only [Act.put, List.setIfInBounds_toArray, List.set_cons_zero, List.set_cons_succ]
        refine heldTake (i := 4) (v := ?_) rfl (by kernel_rfl) (by kernel_rfl) (by kernel_rfl) (fun _ _ _ h => h) hHeld (by rfl) ?_ ?_
        rotate_left
        · (intro w hSw; (try dsimp only at hSw); go_simp; try with_reducible rfl)
        try simp only [Act.put, List.setIfInBounds_toArray, List.set_cons_zero, List.set_cons_succ]
        refine heldTake (i := 5) (v := ?_) rfl (by kernel_rfl) (by kernel_rfl) (by kernel_rfl) (fun _ _ _ h => h) hHeld (by rfl) ?_ ?_
        rotate_left
        · (intro w hSw; (try dsimp only at hSw); go_simp; try with_reducible rfl)
        try simp only [Act.put, List.setIfInBounds_toArray, List.set_cons_zero, List.set_cons_succ]
        refine heldTake (i := 6) (v := ?_) rfl (by kernel_rfl) (by kernel_rfl) (by kernel_rfl) (fun _ _ _ h => h) hHeld (by rfl) ?_ ?_
        rotate_left
        · (intro w hSw; (try dsimp only at hSw); go_simp; try with_reducible rfl)
        try simp only [Act.put, List.setIfInBounds_toArray, List.set_cons_zero, List.set_cons_succ]
        refine heldTake (i := 7) (v := ?_) rfl (by kernel_rfl) (by kernel_rfl) (by kernel_rfl) (fun _ _ _ h => h) hHeld (by rfl) ?_ ?_
        rotate_left
        · (intro w hSw; (try dsimp only at hSw); go_simp; try with_reducible rfl)
        try simp only [Act.put, List.setIfInBounds_toArray, List.set_cons_zero, List.set_cons_succ]
        refine heldTake (i := 8) (v := ?_) rfl (by kernel_rfl) (by kernel_rfl) (by kernel_rfl) (fun _ _ _ h => h) hHeld (by rfl) ?_ ?_
        rotate_left
        · (intro w hSw; (try dsimp only at hSw); go_simp; try with_reducible rfl)
        try simp only [Act.put, List.setIfInBounds_toArray, List.set_cons_zero, List.set_cons_succ]
        refine heldStep (i := 9) rfl (by kernel_rfl) (fun K hK => ?_)
        go_simp
        go_at_call 37
        refine HC.out.mono ?_
        rintro e w5 ⟨rfl, hb5⟩
        have hb5w : Below wr.heap.size wr w5 := ((Below.refl wr.heap.size wr).drew).trans hb5
        refine hK.out _ _ (⟨⟨(hb5.cell (p := ⟨g, h * 2, none⟩) HP.out.lt).trans c0.1, (hb5.cell (p := ⟨g, h * 2 + 1, none⟩) HP.out.lt).trans c0.2⟩, (hb5.cell (p := ⟨g, m * 2, none⟩) HP.out.lt).trans c1.1, (hb5.cell (p := ⟨g, m * 2 + 1, none⟩) HP.out.lt).trans c1.2⟩) (fun hHeld => ?_)
        clear hK K
        try simp only [Act.put, List.setIfInBounds_toArray, List.set_cons_zero, List.set_cons_succ]
        refine heldTake (i := 10) (v := ?_) rfl (by kernel_rfl) (by kernel_rfl) (by kernel_rfl) (fun _ _ _ h => h) hHeld (by rfl) ?_ ?_
        rotate_left
        · (intro w hSw; (try dsimp only at hSw); go_simp; try with_reducible rfl)
        try simp only [Act.put, List.setIfInBounds_toArray, List.set_cons_zero, List.set_cons_succ]
        refine heldTake (i := 11) (v := ?_) rfl (by kernel_rfl) (by kernel_rfl) (by kernel_rfl) (fun _ _ _ h => h) hHeld (by rfl) ?_ ?_
        rotate_left
        · (intro w hSw; (try dsimp only at hSw); go_simp; try with_reducible rfl)
        try simp only [Act.put, List.setIfInBounds_toArray, List.set_cons_zero, List.set_cons_succ]
        refine wpAnyH_done (by kernel_rfl) ?_ _
        refine NoPanic.normal ?_
        go_wp2
        exact ⟨⟨h + 1, j, by go_num, rfl, by omega, by omega, hjb, Hfin.out, Hz2.out, HP.out.below hb5w HP.out.lt, hkb.trans (Kb.of_below hb5w : Kb [] wr w5) (fun b hb => by simp at hb)⟩, by simp [intOf]; omega⟩
    · obtain rfl : i = j := by omega
      obtain ⟨t, ht⟩ : ∃ t, t = i - a := ⟨_, rfl⟩
      rw [← ht] at hz1 hz2
      have htQ : t ≤ P.length := by have := Hm.out; have := Ha.out; omega
      have hsQ := hs
      rw [← List.take_append_drop t P] at hsQ
      have hput := put_right (x := x) hsQ hz1 hz2
      rw [List.take_append_drop] at hput
      have Hput := Lib.hid hput
      have hlt' : ¬ (i : Int) < (i : Int) := by omega
      have He := Lib.hid (show i = a + t from by omega)
      clear hz1 hz2 hsQ hput ht
      go_wp2
      go_loopw [17] (fun vk wr => ∃ r : Nat, vk = .int .i64 ((a + r : Nat) : Int) ∧ t ≤ r ∧ r ≤ P.length ∧ PrB 56 wr g (U ++ P.take r ++ x :: (P.drop r ++ D)) ∧ Kb [g] w wr) (fun vk _ => (intOf vk).toNat)
      case atStart => exact ⟨P.length, by rw [show a + P.length = m from by have := Ha.out; have := Hm.out; omega], htQ, Nat.le_refl _, by simpa using hPr, hkb⟩
      case round =>
        clear hPr hkb
        obtain ⟨r, rfl, hst, hrP, hPr, hkb⟩ := hrel
        by_cases hlt2 : t < r
        · obtain ⟨r', rfl⟩ : ∃ r', r = r' + 1 := ⟨r - 1, by omega⟩
          obtain ⟨k, hk⟩ : ∃ k, k = a + r' := ⟨_, rfl⟩
          rw [show a + (r' + 1) = k + 1 from by omega]
          obtain ⟨q, hq⟩ : ∃ q, q = P[r'] := ⟨_, rfl⟩
          have dQ : P.drop r' = q :: P.drop (r' + 1) := by rw [hq]; exact List.drop_eq_getElem_cons (by omega)
          have tQ : P.take (r' + 1) = P.take r' ++ [q] := by rw [hq]; exact List.take_succ_eq_append_getElem (by omega)
          have hlk : (i : Int) < (k : Int) + 1 := by have := He.out; omega
          have hrow : U ++ P.take (r' + 1) ++ x :: (P.drop (r' + 1) ++ D) = (U ++ P.take r') ++ q :: x :: (P.drop (r' + 1) ++ D) := by rw [tQ]; simp
          have hrow2 : (U ++ P.take r') ++ x :: q :: (P.drop (r' + 1) ++ D) = U ++ P.take r' ++ x :: (P.drop r' ++ D) := by rw [dQ]; simp
          rw [hrow] at hPr
          have hAl : (U ++ P.take r').length = k := by rw [List.length_append, List.length_take, Nat.min_eq_left (by omega), hk, Ha.out]
          obtain ⟨hfin, c0, c1⟩ := hPr.swapNext (i := k + 1) (j := k) (by rw [hAl]) hAl.symm
          have z := hPr.frz
          rw [hrow2] at hfin
          have Hfin := Lib.hid hfin
          obtain ⟨k1, k2, k3⟩ := swap_cells (p := k + 1) (r := k) (a1 := .slice q.A1 q.n1 q.c1) (a2 := .slice q.A2 q.n2 q.c2) (b1 := .slice x.A1 x.n1 x.c1) (by omega) c0.1 c0.2 c1.1 c1.2
          have hkn : k + 1 < n := by have := Ha.out; have := Hn.out; omega
          have w4 : IntKind.i64.wrap ((k : Int) + 1) = (k : Int) + 1 := IntWalk.i64_in _ (by omega)
          have w5 : IntKind.i64.wrap (k : Int) = (k : Int) := IntWalk.i64_in _ (by omega)
          have i1 : (0 : Int) ≤ (k : Int) := by omega
          have i2 : (k : Int) < (n : Int) := by omega
          have i3 : (0 : Int) ≤ (k : Int) + 1 := by omega
          have i4 : (k : Int) + 1 < (n : Int) := by omega
          have Hk := Lib.hid hk
          have Hkb := Lib.hid hkb
          clear hPr hrow hrow2 dQ tQ hq hfin hk hkb hAl
          go_wp2
          have hHeld : (fun W : World => (W.cell? ⟨g, (k + 1) * 2, none⟩ = some (.slice x.A1 x.n1 x.c1) ∧ W.cell? ⟨g, (k + 1) * 2 + 1, none⟩ = some (.slice x.A2 x.n2 x.c2)) ∧ W.cell? ⟨g, k * 2, none⟩ = some (.slice q.A1 q.n1 q.c1) ∧ W.cell? ⟨g, k * 2 + 1, none⟩ = some (.slice q.A2 q.n2 q.c2)) wr.drew := ⟨c0, c1⟩
          refine wp_region_U (S := fun W : World => (W.cell? ⟨g, (k + 1) * 2, none⟩ = some (.slice x.A1 x.n1 x.c1) ∧ W.cell? ⟨g, (k + 1) * 2 + 1, none⟩ = some (.slice x.A2 x.n2 x.c2)) ∧ W.cell? ⟨g, k * 2, none⟩ = some (.slice q.A1 q.n1 q.c1) ∧ W.cell? ⟨g, k * 2 + 1, none⟩ = some (.slice q.A2 q.n2 q.c2)) (ks := [9, 13]) (by kernel_rfl) ?_
          simp only [List.size_toArray, List.length_cons, List.length_nil, Nat.reduceAdd]
          refine uPure (i := 0) (v := ?_) rfl (by kernel_rfl) (by kernel_rfl) (by kernel_rfl) (by kernel_rfl) (fun _ _ _ h => h) (by rfl) ?_ ?_
          rotate_left
          · (intro w; go_simp; try with_reducible rfl)
          try simp only [Act.put, List.setIfInBounds_toArray, List.set_cons_zero, List.set_cons_succ]
          refine uPure (i := 1) (v := ?_) rfl (by kernel_rfl) (by kernel_rfl) (by kernel_rfl) (by kernel_rfl) (fun _ _ _ h => h) (by rfl) ?_ ?_
          rotate_left
          · (intro w; go_simp; try with_reducible rfl)
          try simp only [Act.put, List.setIfInBounds_toArray, List.set_cons_zero, List.set_cons_succ]
          refine uPure (i := 2) (v := ?_) rfl (by kernel_rfl) (by kernel_rfl) (by kernel_rfl) (by kernel_rfl) (fun _ _ _ h => h) (by rfl) ?_ ?_
          rotate_left
          · (intro w; go_simp; try with_reducible rfl)
          try simp only [Act.put, List.setIfInBounds_toArray, List.set_cons_zero, List.set_cons_succ]
          refine uPure (i := 3) (v := ?_) rfl (by kernel_rfl) (by kernel_rfl) (by kernel_rfl) (by kernel_rfl) (fun _ _ _ h => h) (by rfl) ?_ ?_
          rotate_left
          · (intro w; go_simp; try with_reducible rfl)
          try simp only [Act.put, List.setIfInBounds_toArray, List.set_cons_zero, List.set_cons_succ]
          refine uPure (i := 4) (v := ?_) rfl (by kernel_rfl) (by kernel_rfl) (by kernel_rfl) (by kernel_rfl) (fun _ _ _ h => h) (by rfl) ?_ ?_
          rotate_left
          · (intro w; go_simp; try with_reducible rfl)
          try simp only [Act.put, List.setIfInBounds_toArray, List.set_cons_zero, List.set_cons_succ]
          refine uPure (i := 5) (v := ?_) rfl (by kernel_rfl) (by kernel_rfl) (by kernel_rfl) (by kernel_rfl) (fun _ _ _ h => h) (by rfl) ?_ ?_
          rotate_left
          · (intro w; go_simp; try with_reducible rfl)
          try simp only [Act.put, List.setIfInBounds_toArray, List.set_cons_zero, List.set_cons_succ]
          refine uPure (i := 6) (v := ?_) rfl (by kernel_rfl) (by kernel_rfl) (by kernel_rfl) (by kernel_rfl) (fun _ _ _ h => h) (by rfl) ?_ ?_
          rotate_left
          · (intro w; go_simp; try with_reducible rfl)
          try simp only [Act.put, List.setIfInBounds_toArray, List.set_cons_zero, List.set_cons_succ]
          refine uPure (i := 7) (v := ?_) rfl (by kernel_rfl) (by kernel_rfl) (by kernel_rfl) (by kernel_rfl) (fun _ _ _ h => h) (by rfl) ?_ ?_
          rotate_left
          · (intro w; go_simp; try with_reducible rfl)
          try simp only [Act.put, List.setIfInBounds_toArray, List.set_cons_zero, List.set_cons_succ]
          refine uPure (i := 8) (v := ?_) rfl (by kernel_rfl) (by kernel_rfl) (by kernel_rfl) (by kernel_rfl) (fun _ _ _ h => h) (by rfl) ?_ ?_
          rotate_left
          · (intro w; go_simp; try with_reducible rfl)
          try simp only [Act.put, List.setIfInBounds_toArray, List.set_cons_zero, List.set_cons_succ]
          refine uPure (i := 10) (v := ?_) rfl (by kernel_rfl) (by kernel_rfl) (by kernel_rfl) (by kernel_rfl) (fun _ _ _ h => h) (by rfl) ?_ ?_
          rotate_left
          · (intro w; go_simp; try with_reducible rfl)
          try simp only [Act.put, List.setIfInBounds_toArray, List.set_cons_zero, List.set_cons_succ]
          refine uPure (i := 11) (v := ?_) rfl (by kernel_rfl) (by kernel_rfl) (by kernel_rfl) (by kernel_rfl) (fun _ _ _ h => h) (by rfl) ?_ ?_
          rotate_left
          · (intro w; go_simp; try with_reducible rfl)
          try simp only [Act.put, List.setIfInBounds_toArray, List.set_cons_zero, List.set_cons_succ]
          refine uPure (i := 12) (v := ?_) rfl (by kernel_rfl) (by kernel_rfl) (by kernel_rfl) (by kernel_rfl) (fun _ _ _ h => h) (by rfl) ?_ ?_
          rotate_left
          · (intro w; go_simp; try with_reducible rfl)
          try simp only [Act.put, List.setIfInBounds_toArray, List.set_cons_zero, List.set_cons_succ]
          refine uTake (i := 9) (v := ?_) rfl (by kernel_rfl) (by kernel_rfl) (by kernel_rfl) (by kernel_rfl) (fun _ _ _ h => h) hHeld (by rfl) ?_ ?_
          rotate_left
          · (intro w hSw; (try dsimp only at hSw); go_simp; try with_reducible rfl)
          try simp only [Act.put, List.setIfInBounds_toArray, List.set_cons_zero, List.set_cons_succ]
          refine uTake (i := 13) (v := ?_) rfl (by kernel_rfl) (by kernel_rfl) (by kernel_rfl) (by kernel_rfl) (fun _ _ _ h => h) hHeld (by rfl) ?_ ?_
          rotate_left
          · (intro w hSw; (try dsimp only at hSw); go_simp; try with_reducible rfl)
          try simp only [Act.put, List.setIfInBounds_toArray, List.set_cons_zero, List.set_cons_succ]
          refine uPure (i := 14) (v := ?_) rfl (by kernel_rfl) (by kernel_rfl) (by kernel_rfl) (by kernel_rfl) (fun _ _ _ h => h) (by rfl) ?_ ?_
          rotate_left
          · (intro w; go_simp; try with_reducible rfl)
          try simp only [Act.put, List.setIfInBounds_toArray, List.set_cons_zero, List.set_cons_succ]
          refine uStep (i := 15) rfl (by kernel_rfl) (fun K hK => ?_)
          go_simp
          refine hK.out _ _ (fun h => absurd h (by decide)) ?_
          clear hK K
          try simp only [Act.put, List.setIfInBounds_toArray, List.set_cons_zero, List.set_cons_succ]
          refine uPure (i := 16) (v := ?_) rfl (by kernel_rfl) (by kernel_rfl) (by kernel_rfl) (by kernel_rfl) (fun _ _ _ h => h) (by rfl) ?_ ?_
          rotate_left
          · (intro w; go_simp; try with_reducible rfl)
          try simp only [Act.put, List.setIfInBounds_toArray, List.set_cons_zero, List.set_cons_succ]
          refine uStep (i := 17) rfl (by kernel_rfl) (fun K hK => ?_)
          go_simp
          refine hK.out _ _ (fun h => absurd h (by decide)) ?_
          clear hK K
          try simp only [Act.put, List.setIfInBounds_toArray, List.set_cons_zero, List.set_cons_succ]
          refine uDone (by kernel_rfl) ?_ _
          go_wp2
          refine ⟨⟨r', by rw [show a + r' = k from by have := Hk.out; omega], by omega, by omega, Hfin.out.drew, ((((Hkb.out.setCell (p := ⟨g, (k + 1) * 2, none⟩) (.inl (by simp)) _).setCell (p := ⟨g, (k + 1) * 2 + 1, none⟩) (.inl (by simp)) _).setCell (p := ⟨g, k * 2, none⟩) (.inl (by simp)) _).setCell (p := ⟨g, k * 2 + 1, none⟩) (.inl (by simp)) _).drew⟩, ?_⟩
          simp [intOf] <;> omega
        · obtain rfl : r = t := by omega
          obtain ⟨k, hk⟩ : ∃ k, k = a + r := ⟨_, rfl⟩
          rw [← hk]
          have hlk : ¬ (i : Int) < (k : Int) := by have := He.out; omega
          have hfin : PrB 56 wr g (U ++ (P.take r ++ x :: P.drop r) ++ D) := by simpa only [List.append_assoc, List.cons_append] using hPr
          clear hPr hk
          go_wp2
          refine bodyPost_ret (results_none rfl _ _ _) rfl ?_
          exact ⟨rfl, _, hfin, Hput.out.1, Hput.out.2, hkb⟩
end Go.Proofs.Ytedelkifadonjaa
/- Layer 23: two stretches in order are merged (symMerge): the long way, and the whole. -/
namespace Go.Proofs.Ytedelkifadonjaa
open Go.RowKit Go.Lec Go.Op
/-- What symMerge does to stretches of no more than N pairs together. -/
def SymN (N : Nat) : Prop := ∀ (w : World) {g n c a m b : Nat} {U P Q D : List Pr}, P.length + Q.length ≤ N → PrB 56 w g (U ++ P ++ Q ++ D) → PrOk w g (U ++ P ++ Q ++ D) → U.length + P.length + Q.length + D.length = n → n ≤ c → n ≤ 100000 →
  a = U.length → m = U.length + P.length → b = U.length + P.length + Q.length → 0 < P.length → 0 < Q.length → SrtK Pr.key P → SrtK Pr.key Q →
  Calls Try.prog 66 #[.slice (some ⟨g, 0, none⟩) n c, .int .i64 (a : Int), .int .i64 (m : Int), .int .i64 (b : Int), .func (.func 37) #[] #[]] w (SrtP w g U (P ++ Q) D)
set_option maxRecDepth 100000 in
set_option maxHeartbeats 8000000 in
theorem c_sym3 {N : Nat} (IH : SymN N) (w : World) {g n c a m b : Nat} {U P Q D : List Pr} (hN : P.length + Q.length ≤ N + 1) (hP : PrB 56 w g (U ++ P ++ Q ++ D)) (hok : PrOk w g (U ++ P ++ Q ++ D)) (hn : U.length + P.length + Q.length + D.length = n) (hnc : n ≤ c) (hn2 : n ≤ 100000)
    (ha : a = U.length) (hm : m = U.length + P.length) (hb : b = U.length + P.length + Q.length) (hp2 : 2 ≤ P.length) (hq2 : 2 ≤ Q.length) (hsP : SrtK Pr.key P) (hsQ : SrtK Pr.key Q) :
    Calls Try.prog 66 #[.slice (some ⟨g, 0, none⟩) n c, .int .i64 (a : Int), .int .i64 (m : Int), .int .i64 (b : Int), .func (.func 37) #[] #[]] w (SrtP w g U (P ++ Q) D) := by
  have HOk := Lib.hid (fun (W : World) (hk : Kb [g] w W) => hok.kb hk)
  obtain ⟨pl, hpl⟩ : ∃ pl, pl = m - a := ⟨_, rfl⟩
  obtain ⟨ql, hql⟩ : ∃ ql, ql = b - m := ⟨_, rfl⟩
  obtain ⟨mid, hmid⟩ : ∃ mid, mid = (a + b) / 2 := ⟨_, rfl⟩
  obtain ⟨nn, hnn⟩ : ∃ nn, nn = mid + m := ⟨_, rfl⟩
  obtain ⟨p, hp⟩ : ∃ p, p = nn - 1 := ⟨_, rfl⟩
  have hmi : ((a : Int) + (b : Int)) / 2 = (mid : Int) := by omega
  have w1 : IntKind.i64.wrap ((m : Int) - (a : Int)) = (pl : Int) := by rw [IntWalk.i64_in _ (by omega)]; omega
  have w2 : IntKind.i64.wrap ((b : Int) - (m : Int)) = (ql : Int) := by rw [IntWalk.i64_in _ (by omega)]; omega
  have w3 : IntKind.i64.wrap ((mid : Int) + (m : Int)) = (nn : Int) := by rw [IntWalk.i64_in _ (by omega)]; omega
  have w4 : IntKind.i64.wrap ((nn : Int) - 1) = (p : Int) := by rw [IntWalk.i64_in _ (by omega)]; omega
  have hpl1 : ((pl : Int) == 1) = false := by rw [beq_eq_false_iff_ne]; omega
  have hql1 : ((ql : Int) == 1) = false := by rw [beq_eq_false_iff_ne]; omega
  obtain ⟨st0, r0, h0⟩ : ∃ st0 r0, (mid < m ∧ st0 = nn - b ∧ r0 = mid) ∨ (m ≤ mid ∧ st0 = a ∧ r0 = m) := by
    by_cases h : mid < m
    · exact ⟨_, _, .inl ⟨h, rfl, rfl⟩⟩
    · exact ⟨_, _, .inr ⟨by omega, rfl, rfl⟩⟩
  have w5 : mid < m → IntKind.i64.wrap ((nn : Int) - (b : Int)) = (st0 : Int) := fun h => by rw [IntWalk.i64_in _ (by omega)]; omega
  have hst : a ≤ st0 ∧ st0 ≤ r0 ∧ r0 ≤ m ∧ r0 ≤ mid ∧ nn - st0 ≤ b ∧ a < mid ∧ mid < b := by omega
  have Hall := Lib.hid (show a = U.length ∧ m = U.length + P.length ∧ b = U.length + P.length + Q.length ∧ U.length + P.length + Q.length + D.length = n ∧ mid = (a + b) / 2 ∧ nn = mid + m ∧ p = nn - 1 ∧ 2 ≤ P.length ∧ 2 ≤ Q.length ∧ P.length + Q.length ≤ N + 1 from ⟨ha, hm, hb, hn, hmid, hnn, hp, hp2, hq2, hN⟩)
  have HS := Lib.hid (show SrtK Pr.key P ∧ SrtK Pr.key Q from ⟨hsP, hsQ⟩)
  have hbn : b ≤ n := by omega
  have hIH := Lib.hid IH
  clear ha hm hb hn hok hpl hql hmid hnn hp hp2 hq2 hsP hsQ hN IH
  rcases h0 with ⟨hm1, hs0, hr0⟩ | ⟨hm1, hs0, hr0⟩
  · have w6 := w5 hm1
    have g1 : (mid : Int) < (m : Int) := by omega
    have Hs0 := Lib.hid hs0
    have Hr0 := Lib.hid hr0
    have H0 := Lib.hid (show st0 = a ∨ nn - st0 = b from by omega)
    have H1 := Lib.hid (show r0 = mid ∨ r0 = m from .inl hr0)
    clear w5 hs0 hr0
    go_enter Try.func66, Try.ntmps66
    go_wp2
    go_loopw [20, 21] (fun vs vr wr => ∃ s r : Nat, vs = .int .i64 (s : Int) ∧ vr = .int .i64 (r : Int) ∧ st0 ≤ s ∧ s ≤ r ∧ r ≤ r0 ∧ (∀ x y : Pr, st0 < s → P[s - 1 - a]? = some x → Q[p - (s - 1) - m]? = some y → bytesLess y.key x.key = false) ∧ (∀ x y : Pr, r < r0 → P[r - a]? = some x → Q[p - r - m]? = some y → bytesLess y.key x.key = true) ∧
        PrB 56 wr g (U ++ P ++ Q ++ D) ∧ Kb [g] w wr) (fun vs vr _ => (intOf vr).toNat - (intOf vs).toNat)
    case atStart => exact ⟨st0, r0, by first | rfl | rw [Hs0.out], by first | rfl | rw [Hr0.out], Nat.le_refl _, hst.2.1, Nat.le_refl _, (fun x y h => absurd h (by omega)), (fun x y h => absurd h (by omega)), hP, Kb.refl _ _⟩
    case round =>
      obtain ⟨s, r, rfl, rfl, hs1, hsr, hr1, hi1, hi2, hPr, hkb⟩ := hrel
      clear hP
      by_cases hlt : s < r
      · obtain ⟨h, hh⟩ : ∃ h, h = (s + r) / 2 := ⟨_, rfl⟩
        have hhi : ((s : Int) + (r : Int)) / 2 = (h : Int) := by omega
        have h1 : s ≤ h := by omega
        have h2 : h < r := by omega
        obtain ⟨e, he⟩ : ∃ e, e = p - h := ⟨_, rfl⟩
        have hA := Hall.out
        have htP : h - a < P.length := by omega
        have htQ : e - m < Q.length := by omega
        have hem : m ≤ e := by omega
        obtain ⟨x, hx⟩ : ∃ x, x = P[h - a] := ⟨_, rfl⟩
        obtain ⟨y, hy⟩ : ∃ y, y = Q[e - m] := ⟨_, rfl⟩
        have lx : h < (U ++ P ++ Q ++ D).length := by simp; omega
        have ly : e < (U ++ P ++ Q ++ D).length := by simp; omega
        have ex : (U ++ P ++ Q ++ D)[h] = x := by
          have e1 : h = U.length + (h - a) := by omega
          rw [hx]
          have : (U ++ P ++ Q ++ D)[h]? = P[h - a]? := by
            rw [e1, List.append_assoc, List.append_assoc, List.getElem?_append_right (by omega), List.getElem?_append_left (by omega)]
            congr 1; omega
          rw [List.getElem?_eq_getElem lx, List.getElem?_eq_getElem htP] at this
          exact Option.some.inj this
        have ey : (U ++ P ++ Q ++ D)[e] = y := by
          rw [hy]
          have : (U ++ P ++ Q ++ D)[e]? = Q[e - m]? := by
            rw [List.getElem?_append_left (by simp; omega), List.getElem?_append_right (by simp; omega)]
            congr 1; simp; omega
          rw [List.getElem?_eq_getElem ly, List.getElem?_eq_getElem htQ] at this
          exact Option.some.inj this
        have c1 := hPr.cell lx
        have c0 := hPr.cell ly
        rw [ex] at c1
        rw [ey] at c0
        have hmx := HOk.out wr hkb
        have hxo := hmx x (by simp [hx])
        have hyo := hmx y (by simp [hy])
        have HC := Lib.hid (c_cmp wr.drew hyo.1 hxo.1 (Nat.le_refl _) (Nat.le_refl _))
        have HP := Lib.hid hPr
        have Hi1 := Lib.hid hi1
        have Hi2 := Lib.hid hi2
        have hz := cmp_neg y.key x.key
        obtain ⟨z, hzz⟩ : ∃ z, z = Lib.compareBytes y.key x.key := ⟨_, rfl⟩
        rw [← hzz] at HC hz
        have u1 : IntKind.i64.wrap (h : Int) = (h : Int) := IntWalk.i64_in _ (by omega)
        have u2 : IntKind.i64.wrap (e : Int) = (e : Int) := IntWalk.i64_in _ (by omega)
        have u3 : IntKind.i64.wrap ((p : Int) - (h : Int)) = (e : Int) := by rw [IntWalk.i64_in _ (by omega)]; omega
        have i1 : (0 : Int) ≤ (h : Int) := by omega
        have i2 : (h : Int) < (n : Int) := by omega
        have i3 : (0 : Int) ≤ (e : Int) := by omega
        have i4 : (e : Int) < (n : Int) := by omega
        have Hn1 := Lib.hid (show bytesLess y.key x.key = false → ∀ x y : Pr, st0 < h + 1 → P[h + 1 - 1 - a]? = some x → Q[p - (h + 1 - 1) - m]? = some y → bytesLess y.key x.key = false from fun hl x' y' _ e1 e2 => by
          rw [Nat.add_sub_cancel, List.getElem?_eq_getElem htP] at e1
          rw [Nat.add_sub_cancel, ← he, List.getElem?_eq_getElem htQ] at e2
          cases e1; cases e2; rw [← hx, ← hy]; exact hl)
        have Hn2 := Lib.hid (show bytesLess y.key x.key = true → ∀ x y : Pr, h < r0 → P[h - a]? = some x → Q[p - h - m]? = some y → bytesLess y.key x.key = true from fun hl x' y' _ e1 e2 => by
          rw [List.getElem?_eq_getElem htP] at e1
          rw [← he, List.getElem?_eq_getElem htQ] at e2
          cases e1; cases e2; rw [← hx, ← hy]; exact hl)
        unfold Pr.val at HC
        clear hzz hh ex ey lx ly hmx hxo hyo hPr hi1 hi2 hA hx hy he htP htQ hem
        cases hlc : bytesLess y.key x.key with
        | true =>
          have hzl : z < 0 := hz.2 hlc
          have hF := Hn2.out hlc
          have HF := Lib.hid hF
          clear hz hlc hF Hn1 Hn2
          go_wp2
          have hHeld : (fun W : World => (W.cell? ⟨g, e * 2, none⟩ = some (.slice y.A1 y.n1 y.c1) ∧ W.cell? ⟨g, e * 2 + 1, none⟩ = some (.slice y.A2 y.n2 y.c2)) ∧ W.cell? ⟨g, h * 2, none⟩ = some (.slice x.A1 x.n1 x.c1) ∧ W.cell? ⟨g, h * 2 + 1, none⟩ = some (.slice x.A2 x.n2 x.c2)) wr.drew := ⟨c0, c1⟩
          refine wp_region_noPanic ?_
          refine wp_region_held (S := fun W : World => (W.cell? ⟨g, e * 2, none⟩ = some (.slice y.A1 y.n1 y.c1) ∧ W.cell? ⟨g, e * 2 + 1, none⟩ = some (.slice y.A2 y.n2 y.c2)) ∧ W.cell? ⟨g, h * 2, none⟩ = some (.slice x.A1 x.n1 x.c1) ∧ W.cell? ⟨g, h * 2 + 1, none⟩ = some (.slice x.A2 x.n2 x.c2)) (by kernel_rfl) ?_
          simp only [List.size_toArray, List.length_cons, List.length_nil, Nat.reduceAdd]
          refine heldTake (i := 0) (v := ?_) rfl (by kernel_rfl) (by kernel_rfl) (by kernel_rfl) (fun _ _ _ h => h) hHeld (by rfl) ?_ ?_
          rotate_left
          · (intro w hSw; (try dsimp only at hSw); go_simp; try with_reducible rfl)
          try simp only [Act.put, List.setIfInBounds_toArray, List.set_cons_zero, List.set_cons_succ]
          refine heldTake (i := 1) (v := ?_) rfl (by kernel_rfl) (by kernel_rfl) (by kernel_rfl) (fun _ _ _ h => h) hHeld (by rfl) ?_ ?_
          rotate_left
          · (intro w hSw; (try dsimp only at hSw); go_simp; try with_reducible rfl)
          try simp only [Act.put, List.setIfInBounds_toArray, List.set_cons_zero, List.set_cons_succ]
          refine heldTake (i := 2) (v := ?_) rfl (by kernel_rfl) (by kernel_rfl) (by kernel_rfl) (fun _ _ _ h => h) hHeld (by rfl) ?_ ?_
          rotate_left
          · (intro w hSw; (try dsimp only at hSw); go_simp; try with_reducible rfl)
          try simp only [Act.put, List.setIfInBounds_toArray, List.set_cons_zero, List.set_cons_succ]
          refine heldTake (i := 3) (v := ?_) rfl (by kernel_rfl) (by kernel_rfl) (by kernel_rfl) (fun _ _ _ h => h) hHeld (by rfl) ?_ ?_
          rotate_left
          · (intro w hSw; (try dsimp only at hSw); go_simp; try with_reducible rfl)
          try simp only [Act.put, List.setIfInBounds_toArray, List.set_cons_zero, List.set_cons_succ]
          refine heldTake (i := 4) (v := ?_) rfl (by kernel_rfl) (by kernel_rfl) (by kernel_rfl) (fun _ _ _ h => h) hHeld (by rfl) ?_ ?_
          rotate_left
          · (intro w hSw; (try dsimp only at hSw); go_simp; try with_reducible rfl)
          try simp only [Act.put, List.setIfInBounds_toArray, List.set_cons_zero, List.set_cons_succ]
          refine heldTake (i := 5) (v := ?_) rfl (by kernel_rfl) (by kernel_rfl) (by kernel_rfl) (fun _ _ _ h => h) hHeld (by rfl) ?_ ?_
          rotate_left
          · (intro w hSw; (try dsimp only at hSw); go_simp; try with_reducible rfl)
          try simp only [Act.put, List.setIfInBounds_toArray, List.set_cons_zero, List.set_cons_succ]
          refine heldTake (i := 6) (v := ?_) rfl (by kernel_rfl) (by kernel_rfl) (by kernel_rfl) (fun _ _ _ h => h) hHeld (by rfl) ?_ ?_
          rotate_left
          · (intro w hSw; (try dsimp only at hSw); go_simp; try with_reducible rfl)
          try simp only [Act.put, List.setIfInBounds_toArray, List.set_cons_zero, List.set_cons_succ]
          refine heldTake (i := 7) (v := ?_) rfl (by kernel_rfl) (by kernel_rfl) (by kernel_rfl) (fun _ _ _ h => h) hHeld (by rfl) ?_ ?_
          rotate_left
          · (intro w hSw; (try dsimp only at hSw); go_simp; try with_reducible rfl)
          try simp only [Act.put, List.setIfInBounds_toArray, List.set_cons_zero, List.set_cons_succ]
          refine heldTake (i := 8) (v := ?_) rfl (by kernel_rfl) (by kernel_rfl) (by kernel_rfl) (fun _ _ _ h => h) hHeld (by rfl) ?_ ?_
          rotate_left
          · (intro w hSw; (try dsimp only at hSw); go_simp; try with_reducible rfl)
          try simp only [Act.put, List.setIfInBounds_toArray, List.set_cons_zero, List.set_cons_succ]
          refine heldTake (i := 9) (v := ?_) rfl (by kernel_rfl) (by kernel_rfl) (by kernel_rfl) (fun _ _ _ h => h) hHeld (by rfl) ?_ ?_
          rotate_left
          · (intro w hSw; (try dsimp only at hSw); go_simp; try with_reducible rfl)
          try simp only [Act.put, List.setIfInBounds_toArray, List.set_cons_zero, List.set_cons_succ]
          refine heldTake (i := 10) (v := ?_) rfl (by kernel_rfl) (by kernel_rfl) (by kernel_rfl) (fun _ _ _ h => h) hHeld (by rfl) ?_ ?_
          rotate_left
          · (intro w hSw; (try dsimp only at hSw); go_simp; try with_reducible rfl)
          try simp only [Act.put, List.setIfInBounds_toArray, List.set_cons_zero, List.set_cons_succ]
          refine heldStep (i := 11) rfl (by kernel_rfl) (fun K hK => ?_)
          go_simp
          go_at_call 37
          refine HC.out.mono ?_
          rintro e w5 ⟨rfl, hb5⟩
          have hb5w : Below wr.heap.size wr w5 := ((Below.refl wr.heap.size wr).drew).trans hb5
          refine hK.out _ _ (⟨⟨(hb5.cell (p := ⟨g, e * 2, none⟩) HP.out.lt).trans c0.1, (hb5.cell (p := ⟨g, e * 2 + 1, none⟩) HP.out.lt).trans c0.2⟩, (hb5.cell (p := ⟨g, h * 2, none⟩) HP.out.lt).trans c1.1, (hb5.cell (p := ⟨g, h * 2 + 1, none⟩) HP.out.lt).trans c1.2⟩) (fun hHeld => ?_)
          clear hK K
          try simp only [Act.put, List.setIfInBounds_toArray, List.set_cons_zero, List.set_cons_succ]
          refine heldTake (i := 12) (v := ?_) rfl (by kernel_rfl) (by kernel_rfl) (by kernel_rfl) (fun _ _ _ h => h) hHeld (by rfl) ?_ ?_
          rotate_left
          · (intro w hSw; (try dsimp only at hSw); go_simp; try with_reducible rfl)
          try simp only [Act.put, List.setIfInBounds_toArray, List.set_cons_zero, List.set_cons_succ]
          refine heldTake (i := 13) (v := ?_) rfl (by kernel_rfl) (by kernel_rfl) (by kernel_rfl) (fun _ _ _ h => h) hHeld (by rfl) ?_ ?_
          rotate_left
          · (intro w hSw; (try dsimp only at hSw); go_simp; try with_reducible rfl)
          try simp only [Act.put, List.setIfInBounds_toArray, List.set_cons_zero, List.set_cons_succ]
          refine wpAnyH_done (by kernel_rfl) ?_ _
          refine NoPanic.normal ?_
          go_wp2
          exact ⟨⟨s, h, rfl, rfl, hs1, by omega, by omega, Hi1.out, HF.out, HP.out.below hb5w HP.out.lt, hkb.trans (Kb.of_below hb5w : Kb [] wr w5) (fun b hb => by simp at hb)⟩, by simp [intOf]; omega⟩
        | false =>
          have hzl : ¬ z < 0 := fun h => by rw [hz.1 h] at hlc; cases hlc
          have hzl2 : decide (z < 0) = false := decide_eq_false hzl
          have hzl3 : 0 ≤ z := by omega
          have hF := Hn1.out hlc
          have HF := Lib.hid hF
          clear hz hlc hF Hn1 Hn2
          go_wp2
          have hHeld : (fun W : World => (W.cell? ⟨g, e * 2, none⟩ = some (.slice y.A1 y.n1 y.c1) ∧ W.cell? ⟨g, e * 2 + 1, none⟩ = some (.slice y.A2 y.n2 y.c2)) ∧ W.cell? ⟨g, h * 2, none⟩ = some (.slice x.A1 x.n1 x.c1) ∧ W.cell? ⟨g, h * 2 + 1, none⟩ = some (.slice x.A2 x.n2 x.c2)) wr.drew := ⟨c0, c1⟩
          refine wp_region_noPanic ?_
          refine wp_region_held (S := fun W : World => (W.cell? ⟨g, e * 2, none⟩ = some (.slice y.A1 y.n1 y.c1) ∧ W.cell? ⟨g, e * 2 + 1, none⟩ = some (.slice y.A2 y.n2 y.c2)) ∧ W.cell? ⟨g, h * 2, none⟩ = some (.slice x.A1 x.n1 x.c1) ∧ W.cell? ⟨g, h * 2 + 1, none⟩ = some (.slice x.A2 x.n2 x.c2)) (by kernel_rfl) ?_
          simp only [List.size_toArray, List.length_cons, List.length_nil, Nat.reduceAdd]
          refine heldTake (i := 0) (v := ?_) rfl (by kernel_rfl) (by kernel_rfl) (by kernel_rfl) (fun _ _ _ h => h) hHeld (by rfl) ?_ ?_
          rotate_left
          · (intro w hSw; (try dsimp only at hSw); go_simp; try with_reducible rfl)
          try simp only [Act.put, List.setIfInBounds_toArray, List.set_cons_zero, List.set_cons_succ]
          refine heldTake (i := 1) (v := ?_) rfl (by kernel_rfl) (by kernel_rfl) (by kernel_rfl) (fun _ _ _ h => h) hHeld (by rfl) ?_ ?_
          rotate_left
          · (intro w hSw; (try dsimp only at hSw); go_simp; try with_reducible rfl)
          try simp only [Act.put, List.setIfInBounds_toArray, List.set_cons_zero, List.set_cons_succ]
          refine heldTake (i := 2) (v := ?_) rfl (by kernel_rfl) (by kernel_rfl) (by kernel_rfl) (fun _ _ _ h => h) hHeld (by rfl) ?_ ?_
          rotate_left
          · (intro w hSw; (try dsimp only at hSw); go_simp; try with_reducible rfl)
          try simp only [Act.put, List.setIfInBounds_toArray, List.set_cons_zero, List.set_cons_succ]
          refine heldTake (i := 3) (v := ?_) rfl (by kernel_rfl) (by kernel_rfl) (by kernel_rfl) (fun _ _ _ h => h) hHeld (by rfl) ?_ ?_
          rotate_left
          · (intro w hSw; (try dsimp only at hSw); go_simp; try with_reducible rfl)
          try simp only [Act.put, List.setIfInBounds_toArray, List.set_cons_zero, List.set_cons_succ]
          refine heldTake (i := 4) (v := ?_) rfl (by kernel_rfl) (by kernel_rfl) (by kernel_rfl) (fun _ _ _ h => h) hHeld (by rfl) ?_ ?_
          rotate_left
          · (intro w hSw; (try dsimp only at hSw); go_simp; try with_reducible rfl)
          try simp only [Act.put, List.setIfInBounds_toArray, List.set_cons_zero, List.set_cons_succ]
          refine heldTake (i := 5) (v := ?_) rfl (by kernel_rfl) (by kernel_rfl) (by kernel_rfl) (fun _ _ _ h => h) hHeld (by rfl) ?_ ?_
          rotate_left
          · (intro w hSw; (try dsimp only at hSw); go_simp; try with_reducible rfl)
          try simp only [Act.put, List.setIfInBounds_toArray, List.set_cons_zero, List.set_cons_succ]
          refine heldTake (i := 6) (v := ?_) rfl (by kernel_rfl) (by kernel_rfl) (by kernel_rfl) (fun _ _ _ h => h) hHeld (by rfl) ?_ ?_
          rotate_left
          · (intro w hSw; (try dsimp only at hSw); go_simp; try with_reducible rfl)
          try simp only [Act.put, List.setIfInBounds_toArray, List.set_cons_zero, List.set_cons_succ]
          refine heldTake (i := 7) (v := ?_) rfl (by kernel_rfl) (by kernel_rfl) (by kernel_rfl) (fun _ _ _ h => h) hHeld (by rfl) ?_ ?_
          rotate_left
          · (intro w hSw; (try dsimp only at hSw); go_simp; try with_reducible rfl)
          try simp only [Act.put, List.setIfInBounds_toArray, List.set_cons_zero, List.set_cons_succ]
          refine heldTake (i := 8) (v := ?_) rfl (by kernel_rfl) (by kernel_rfl) (by kernel_rfl) (fun _ _ _ h => h) hHeld (by rfl) ?_ ?_
          rotate_left
          · (intro w hSw; (try dsimp only at hSw); go_simp; try with_reducible rfl)
          try simp only [Act.put, List.setIfInBounds_toArray, List.set_cons_zero, List.set_cons_succ]
          refine heldTake (i := 9) (v := ?_) rfl (by kernel_rfl) (by kernel_rfl) (by kernel_rfl) (fun _ _ _ h => h) hHeld (by rfl) ?_ ?_
          rotate_left
          · (intro w hSw; (try dsimp only at hSw); go_simp; try with_reducible rfl)
          try simp only [Act.put, List.setIfInBounds_toArray, List.set_cons_zero, List.set_cons_succ]
          refine heldTake (i := 10) (v := ?_) rfl (by kernel_rfl) (by kernel_rfl) (by kernel_rfl) (fun _ _ _ h => h) hHeld (by rfl) ?_ ?_
          rotate_left
          · (intro w hSw; (try dsimp only at hSw); go_simp; try with_reducible rfl)
          try simp only [Act.put, List.setIfInBounds_toArray, List.set_cons_zero, List.set_cons_succ]
          refine heldStep (i := 11) rfl (by kernel_rfl) (fun K hK => ?_)
          go_simp
          go_at_call 37
          refine HC.out.mono ?_
          rintro e w5 ⟨rfl, hb5⟩
          have hb5w : Below wr.heap.size wr w5 := ((Below.refl wr.heap.size wr).drew).trans hb5
          refine hK.out _ _ (⟨⟨(hb5.cell (p := ⟨g, e * 2, none⟩) HP.out.lt).trans c0.1, (hb5.cell (p := ⟨g, e * 2 + 1, none⟩) HP.out.lt).trans c0.2⟩, (hb5.cell (p := ⟨g, h * 2, none⟩) HP.out.lt).trans c1.1, (hb5.cell (p := ⟨g, h * 2 + 1, none⟩) HP.out.lt).trans c1.2⟩) (fun hHeld => ?_)
          clear hK K
          try simp only [Act.put, List.setIfInBounds_toArray, List.set_cons_zero, List.set_cons_succ]
          refine heldTake (i := 12) (v := ?_) rfl (by kernel_rfl) (by kernel_rfl) (by kernel_rfl) (fun _ _ _ h => h) hHeld (by rfl) ?_ ?_
          rotate_left
          · (intro w hSw; (try dsimp only at hSw); go_simp; try with_reducible rfl)
          try simp only [Act.put, List.setIfInBounds_toArray, List.set_cons_zero, List.set_cons_succ]
          refine heldTake (i := 13) (v := ?_) rfl (by kernel_rfl) (by kernel_rfl) (by kernel_rfl) (fun _ _ _ h => h) hHeld (by rfl) ?_ ?_
          rotate_left
          · (intro w hSw; (try dsimp only at hSw); go_simp; try with_reducible rfl)
          try simp only [Act.put, List.setIfInBounds_toArray, List.set_cons_zero, List.set_cons_succ]
          refine wpAnyH_done (by kernel_rfl) ?_ _
          refine NoPanic.normal ?_
          go_wp2
          exact ⟨⟨h + 1, r, by go_num, rfl, by omega, by omega, hr1, HF.out, Hi2.out, HP.out.below hb5w HP.out.lt, hkb.trans (Kb.of_below hb5w : Kb [] wr w5) (fun b hb => by simp at hb)⟩, by simp [intOf]; omega⟩
      · obtain rfl : s = r := by omega
        have hlt' : ¬ (s : Int) < (s : Int) := by omega
        obtain ⟨en, hen⟩ : ∃ en, en = nn - s := ⟨_, rfl⟩
        have w7 : IntKind.i64.wrap ((nn : Int) - (s : Int)) = (en : Int) := by have := Hall.out; rw [IntWalk.i64_in _ (by omega)]; omega
        have hA := Hall.out
        obtain ⟨u1, hu1⟩ : ∃ l, l = P.take (s - a) := ⟨_, rfl⟩
        obtain ⟨v1, hv1⟩ : ∃ l, l = P.drop (s - a) := ⟨_, rfl⟩
        obtain ⟨u2, hu2⟩ : ∃ l, l = Q.take (en - m) := ⟨_, rfl⟩
        obtain ⟨v2, hv2⟩ : ∃ l, l = Q.drop (en - m) := ⟨_, rfl⟩
        have hPe : P = u1 ++ v1 := by rw [hu1, hv1, List.take_append_drop]
        have hQe : Q = u2 ++ v2 := by rw [hu2, hv2, List.take_append_drop]
        have l1 : u1.length = s - a := by rw [hu1, List.length_take]; omega
        have l2 : v1.length = m - s := by rw [hv1, List.length_drop]; omega
        have l3 : u2.length = en - m := by rw [hu2, List.length_take]; omega
        have l4 : v2.length = b - en := by rw [hv2, List.length_drop]; omega
        have hsu : SrtK Pr.key (u1 ++ v1) ∧ SrtK Pr.key (u2 ++ v2) := by rw [← hPe, ← hQe]; exact HS.out
        have hcl : ∀ x ∈ u1, ∀ y ∈ v2, bytesLess y.key x.key = false := cross_left hsu.1 hsu.2 fun z y hz hy => by
          have hne : 0 < u1.length := by cases u1 with | nil => cases hz | cons _ _ => simp
          have hne2 : 0 < v2.length := by cases v2 with | nil => cases hy | cons _ _ => simp
          refine hi1 z y (by have := H0.out; omega) ?_ ?_
          · rw [List.getLast?_eq_getElem?, hu1, List.length_take, Nat.min_eq_left (by omega), List.getElem?_take_of_lt (by omega)] at hz
            rw [← hz]; congr 1; omega
          · rw [List.head?_eq_getElem?, hv2, List.getElem?_drop] at hy
            rw [← hy]; congr 1; omega
        have hcr : ∀ x ∈ u2, ∀ y ∈ v1, bytesLess x.key y.key = true := cross_right hsu.1 hsu.2 fun z y hz hy => by
          have hne : 0 < u2.length := by cases u2 with | nil => cases hz | cons _ _ => simp
          have hne2 : 0 < v1.length := by cases v1 with | nil => cases hy | cons _ _ => simp
          refine hi2 y z (by have := H1.out; omega) ?_ ?_
          · rw [List.head?_eq_getElem?, hv1, List.getElem?_drop] at hy
            rw [← hy]; congr 1
          · rw [List.getLast?_eq_getElem?, hu2, List.length_take, Nat.min_eq_left (by omega), List.getElem?_take_of_lt (by omega)] at hz
            rw [← hz]; congr 1; omega
        have HFin := Lib.hid (show ∀ (W : World) (L R : List Pr), Stb Pr.key (u1 ++ u2) L → SrtK Pr.key L → Stb Pr.key (v1 ++ v2) R → SrtK Pr.key R → PrB 56 W g (U ++ L ++ R ++ D) → Kb [g] w W → SrtP w g U (P ++ Q) D (.returned (.tuple #[])) W from fun W L R h1 h2 h3 h4 h5 h6 => by
          obtain ⟨m1, m2⟩ := merge_cut hsu.1 hsu.2 h1 h3 h2 h4 hcl hcr
          refine ⟨rfl, L ++ R, by simpa only [List.append_assoc] using h5, ?_, m2, h6⟩
          rw [hPe, hQe]; exact m1)
        have HL0 := Lib.hid (show (s ≤ a ∨ mid ≤ s) → SrtK Pr.key (u1 ++ u2) from fun h => by
          rcases h with h | h
          · have : u1 = [] := List.eq_nil_of_length_eq_zero (by omega)
            rw [this, List.nil_append]; exact hsu.2.left
          · have : u2 = [] := List.eq_nil_of_length_eq_zero (by omega)
            rw [this, List.append_nil]; exact hsu.1.left)
        have HR0 := Lib.hid (show (m ≤ s ∨ b ≤ en) → SrtK Pr.key (v1 ++ v2) from fun h => by
          rcases h with h | h
          · have : v1 = [] := List.eq_nil_of_length_eq_zero (by omega)
            rw [this, List.nil_append]; exact hsu.2.right
          · have : v2 = [] := List.eq_nil_of_length_eq_zero (by omega)
            rw [this, List.append_nil]; exact hsu.1.right)
        have hrow : PrB 56 wr g (U ++ u1 ++ v1 ++ u2 ++ (v2 ++ D)) := by rw [hPe, hQe] at hPr; simpa only [List.append_assoc] using hPr
        have HNo := Lib.hid (show (m ≤ s ∨ mid ≤ s) → PrB 56 wr g (U ++ u1 ++ u2 ++ (v1 ++ v2 ++ D)) from fun h => by
          rcases h with h | h
          · have : v1 = [] := List.eq_nil_of_length_eq_zero (by omega)
            rw [this] at hrow ⊢; simpa only [List.append_assoc, List.append_nil, List.nil_append] using hrow
          · have : u2 = [] := List.eq_nil_of_length_eq_zero (by omega)
            rw [this] at hrow ⊢; simpa only [List.append_assoc, List.append_nil, List.nil_append] using hrow)
        have HRot := Lib.hid (show s < m → s < mid → _ from fun h1 h2 => c_rot wr (cv := .func (.func 37) #[] #[]) (a := s) (m := m) (b := en) (U := U ++ u1) (P := v1) (Q := u2) (D := v2 ++ D) hrow (by simp only [List.length_append]; omega) hnc hn2 (by rw [List.length_append]; omega) (by rw [List.length_append]; omega) (by rw [List.length_append]; omega) (by omega) (by omega))
        have HL := Lib.hid (show a < s → s < mid → ∀ W : World, PrB 56 W g (U ++ u1 ++ u2 ++ (v1 ++ v2 ++ D)) → Kb [g] w W → _ from fun h1 h2 W hR hk => hIH.out W (a := a) (m := s) (b := mid) (U := U) (P := u1) (Q := u2) (D := v1 ++ v2 ++ D) (by omega) hR ((HOk.out W hk).perm (fun x hx => by rw [hPe, hQe]; simp only [List.mem_append] at hx ⊢; rcases hx with ((hx | hx) | hx) | ((hx | hx) | hx) <;> simp [hx])) (by simp only [List.length_append]; omega) hnc hn2 (by omega) (by omega) (by omega) (by omega) (by omega) hsu.1.left hsu.2.left)
        have HR := Lib.hid (show s < m → en < b → ∀ (W : World) (L : List Pr), Stb Pr.key (u1 ++ u2) L → PrB 56 W g (U ++ L ++ v1 ++ v2 ++ D) → Kb [g] w W → _ from fun h1 h2 W L hst hR hk => hIH.out W (a := mid) (m := en) (b := b) (U := U ++ L) (P := v1) (Q := v2) (D := D) (by omega) hR ((HOk.out W hk).perm (fun x hx => by
            rw [hPe, hQe]; simp only [List.mem_append] at hx ⊢
            have hm : x ∈ L → x ∈ u1 ∨ x ∈ u2 := fun hx => by have := hst.mem.1 hx; simpa only [List.mem_append] using this
            rcases hx with ((((hx | hx) | hx) | hx) | hx)
            · simp [hx]
            · rcases hm hx with hx | hx <;> simp [hx]
            · simp [hx]
            · simp [hx]
            · simp [hx])) (by have := hst.length; simp only [List.length_append] at this ⊢; omega) hnc hn2 (by have := hst.length; simp only [List.length_append] at this ⊢; omega) (by have := hst.length; simp only [List.length_append] at this ⊢; omega) (by have := hst.length; simp only [List.length_append] at this ⊢; omega) (by omega) (by omega) hsu.1.right hsu.2.right)
        unfold MovP at HRot
        unfold SrtP at HL HR
        have hEn := Lib.hid (show en = mid + m - s ∧ s ≤ m ∧ s ≤ mid ∧ a ≤ s ∧ en ≤ b from by omega)
        clear hu1 hv1 hu2 hv2 hPe hQe l1 l2 l3 l4 hsu hcl hcr hi1 hi2 hPr hrow hA hen
        by_cases c1 : s < m
        · skip
          by_cases c2 : s < mid
          · skip
            by_cases c3 : a < s
            · skip
              by_cases c4 : en < b
              · skip
                have f1 : (s : Int) < (m : Int) := by have := hEn.out; omega
                have f2 : (m : Int) < (en : Int) := by have := hEn.out; omega
                have f3 : (a : Int) < (s : Int) := by have := hEn.out; omega
                have f4 : (s : Int) < (mid : Int) := by have := hEn.out; omega
                have f5 : (mid : Int) < (en : Int) := by have := hEn.out; omega
                have f6 : (en : Int) < (b : Int) := by have := hEn.out; omega
                go_wp2_with (first | fail | (go_at_call 67; (with_reducible refine (HRot.out (by omega) (by omega)).mono ?_); rintro e w4 ⟨rfl, hRow, hk4⟩; have hRow : PrB 56 w4 g (U ++ u1 ++ u2 ++ (v1 ++ v2 ++ D)) := (by simpa only [List.append_assoc] using hRow); have hK := hkb.trans hk4 (fun b hb => .inl hb); have HLc := Lib.hid (HL.out (by omega) (by omega) w4 hRow hK)) | (go_at_call 66; (with_reducible refine HLc.out.mono ?_); rintro e w5 ⟨rfl, L, hRw, hSt, hSr, hk5⟩; clear HLc; have hRw2 : PrB 56 w5 g (U ++ L ++ v1 ++ v2 ++ D) := (by simpa only [List.append_assoc] using hRw); have hK := hK.trans hk5 (fun b hb => .inl hb); have HRc := Lib.hid (HR.out (by omega) (by omega) w5 L hSt hRw2 hK); skip) | (go_at_call 66; (with_reducible refine HRc.out.mono ?_); rintro e w6 ⟨rfl, R, hRw6, hSt6, hSr6, hk6⟩))
                all_goals (go_end0; exact HFin.out w6 L R hSt hSr hSt6 hSr6 (by simpa only [List.append_assoc] using hRw6) (hK.trans hk6 (fun b hb => .inl hb)))
              · skip
                have f1 : (s : Int) < (m : Int) := by have := hEn.out; omega
                have f2 : (m : Int) < (en : Int) := by have := hEn.out; omega
                have f3 : (a : Int) < (s : Int) := by have := hEn.out; omega
                have f4 : (s : Int) < (mid : Int) := by have := hEn.out; omega
                have f5 : (mid : Int) < (en : Int) := by have := hEn.out; omega
                have f6 : ¬ (en : Int) < (b : Int) := by have := hEn.out; omega
                go_wp2_with (first | fail | (go_at_call 67; (with_reducible refine (HRot.out (by omega) (by omega)).mono ?_); rintro e w4 ⟨rfl, hRow, hk4⟩; have hRow : PrB 56 w4 g (U ++ u1 ++ u2 ++ (v1 ++ v2 ++ D)) := (by simpa only [List.append_assoc] using hRow); have hK := hkb.trans hk4 (fun b hb => .inl hb); have HLc := Lib.hid (HL.out (by omega) (by omega) w4 hRow hK)) | (go_at_call 66; (with_reducible refine HLc.out.mono ?_); rintro e w5 ⟨rfl, L, hRw, hSt, hSr, hk5⟩; clear HLc; have hRw2 : PrB 56 w5 g (U ++ L ++ v1 ++ v2 ++ D) := (by simpa only [List.append_assoc] using hRw); have hK := hK.trans hk5 (fun b hb => .inl hb); skip))
                all_goals (go_end0; exact HFin.out w5 L (v1 ++ v2) hSt hSr (Stb.refl _) (HR0.out (.inr (by omega))) (by simpa only [List.append_assoc] using hRw2) hK)
            · skip
              by_cases c4 : en < b
              · skip
                have f1 : (s : Int) < (m : Int) := by have := hEn.out; omega
                have f2 : (m : Int) < (en : Int) := by have := hEn.out; omega
                have f3 : ¬ (a : Int) < (s : Int) := by have := hEn.out; omega
                have f4 : (s : Int) < (mid : Int) := by have := hEn.out; omega
                have f5 : (mid : Int) < (en : Int) := by have := hEn.out; omega
                have f6 : (en : Int) < (b : Int) := by have := hEn.out; omega
                go_wp2_with (first | fail | (go_at_call 67; (with_reducible refine (HRot.out (by omega) (by omega)).mono ?_); rintro e w4 ⟨rfl, hRow, hk4⟩; have hRow : PrB 56 w4 g (U ++ u1 ++ u2 ++ (v1 ++ v2 ++ D)) := (by simpa only [List.append_assoc] using hRow); have hK := hkb.trans hk4 (fun b hb => .inl hb); have hSt := Stb.refl (key := Pr.key) (u1 ++ u2); have hSr := HL0.out (.inl (by omega)); have hRw2 : PrB 56 w4 g (U ++ (u1 ++ u2) ++ v1 ++ v2 ++ D) := (by simpa only [List.append_assoc] using hRow); have HRc := Lib.hid (HR.out (by omega) (by omega) w4 (u1 ++ u2) hSt hRw2 hK)) | (go_at_call 66; (with_reducible refine HRc.out.mono ?_); rintro e w6 ⟨rfl, R, hRw6, hSt6, hSr6, hk6⟩))
                all_goals (go_end0; exact HFin.out w6 (u1 ++ u2) R hSt hSr hSt6 hSr6 (by simpa only [List.append_assoc] using hRw6) (hK.trans hk6 (fun b hb => .inl hb)))
              · skip
                have f1 : (s : Int) < (m : Int) := by have := hEn.out; omega
                have f2 : (m : Int) < (en : Int) := by have := hEn.out; omega
                have f3 : ¬ (a : Int) < (s : Int) := by have := hEn.out; omega
                have f4 : (s : Int) < (mid : Int) := by have := hEn.out; omega
                have f5 : (mid : Int) < (en : Int) := by have := hEn.out; omega
                have f6 : ¬ (en : Int) < (b : Int) := by have := hEn.out; omega
                go_wp2_with (first | fail | (go_at_call 67; (with_reducible refine (HRot.out (by omega) (by omega)).mono ?_); rintro e w4 ⟨rfl, hRow, hk4⟩; have hRow : PrB 56 w4 g (U ++ u1 ++ u2 ++ (v1 ++ v2 ++ D)) := (by simpa only [List.append_assoc] using hRow); have hK := hkb.trans hk4 (fun b hb => .inl hb); have hSt := Stb.refl (key := Pr.key) (u1 ++ u2); have hSr := HL0.out (.inl (by omega)); have hRw2 : PrB 56 w4 g (U ++ (u1 ++ u2) ++ v1 ++ v2 ++ D) := by simpa only [List.append_assoc] using hRow))
                all_goals (go_end0; exact HFin.out w4 (u1 ++ u2) (v1 ++ v2) hSt hSr (Stb.refl _) (HR0.out (.inr (by omega))) (by simpa only [List.append_assoc] using hRw2) hK)
          · skip
            by_cases c3 : a < s
            · skip
              by_cases c4 : en < b
              · skip
                have f1 : (s : Int) < (m : Int) := by have := hEn.out; omega
                have f2 : ¬ (m : Int) < (en : Int) := by have := hEn.out; omega
                have f3 : (a : Int) < (s : Int) := by have := hEn.out; omega
                have f4 : ¬ (s : Int) < (mid : Int) := by have := hEn.out; omega
                have f5 : (mid : Int) < (en : Int) := by have := hEn.out; omega
                have f6 : (en : Int) < (b : Int) := by have := hEn.out; omega
                have hRow := HNo.out (.inr (by omega))
                have hK := hkb
                have hSt := Stb.refl (key := Pr.key) (u1 ++ u2)
                have hSr := HL0.out (.inr (by omega))
                have hRw2 : PrB 56 wr g (U ++ (u1 ++ u2) ++ v1 ++ v2 ++ D) := by simpa only [List.append_assoc] using hRow
                have HRc := Lib.hid (HR.out (by omega) (by omega) wr (u1 ++ u2) hSt hRw2 hK)
                go_wp2_with (first | fail | (go_at_call 66; (with_reducible refine HRc.out.mono ?_); rintro e w6 ⟨rfl, R, hRw6, hSt6, hSr6, hk6⟩))
                all_goals (go_end0; exact HFin.out w6 (u1 ++ u2) R hSt hSr hSt6 hSr6 (by simpa only [List.append_assoc] using hRw6) (hK.trans hk6 (fun b hb => .inl hb)))
              · skip
                have f1 : (s : Int) < (m : Int) := by have := hEn.out; omega
                have f2 : ¬ (m : Int) < (en : Int) := by have := hEn.out; omega
                have f3 : (a : Int) < (s : Int) := by have := hEn.out; omega
                have f4 : ¬ (s : Int) < (mid : Int) := by have := hEn.out; omega
                have f5 : (mid : Int) < (en : Int) := by have := hEn.out; omega
                have f6 : ¬ (en : Int) < (b : Int) := by have := hEn.out; omega
                have hRow := HNo.out (.inr (by omega))
                have hK := hkb
                have hSt := Stb.refl (key := Pr.key) (u1 ++ u2)
                have hSr := HL0.out (.inr (by omega))
                have hRw2 : PrB 56 wr g (U ++ (u1 ++ u2) ++ v1 ++ v2 ++ D) := by simpa only [List.append_assoc] using hRow
                go_wp2_with (first | fail)
                all_goals (go_end0; exact HFin.out wr (u1 ++ u2) (v1 ++ v2) hSt hSr (Stb.refl _) (HR0.out (.inr (by omega))) (by simpa only [List.append_assoc] using hRw2) hK)
            · skip
              by_cases c4 : en < b
              · skip
                have f1 : (s : Int) < (m : Int) := by have := hEn.out; omega
                have f2 : ¬ (m : Int) < (en : Int) := by have := hEn.out; omega
                have f3 : ¬ (a : Int) < (s : Int) := by have := hEn.out; omega
                have f4 : ¬ (s : Int) < (mid : Int) := by have := hEn.out; omega
                have f5 : (mid : Int) < (en : Int) := by have := hEn.out; omega
                have f6 : (en : Int) < (b : Int) := by have := hEn.out; omega
                have hRow := HNo.out (.inr (by omega))
                have hK := hkb
                have hSt := Stb.refl (key := Pr.key) (u1 ++ u2)
                have hSr := HL0.out (.inl (by omega))
                have hRw2 : PrB 56 wr g (U ++ (u1 ++ u2) ++ v1 ++ v2 ++ D) := by simpa only [List.append_assoc] using hRow
                have HRc := Lib.hid (HR.out (by omega) (by omega) wr (u1 ++ u2) hSt hRw2 hK)
                go_wp2_with (first | fail | (go_at_call 66; (with_reducible refine HRc.out.mono ?_); rintro e w6 ⟨rfl, R, hRw6, hSt6, hSr6, hk6⟩))
                all_goals (go_end0; exact HFin.out w6 (u1 ++ u2) R hSt hSr hSt6 hSr6 (by simpa only [List.append_assoc] using hRw6) (hK.trans hk6 (fun b hb => .inl hb)))
              · skip
                have f1 : (s : Int) < (m : Int) := by have := hEn.out; omega
                have f2 : ¬ (m : Int) < (en : Int) := by have := hEn.out; omega
                have f3 : ¬ (a : Int) < (s : Int) := by have := hEn.out; omega
                have f4 : ¬ (s : Int) < (mid : Int) := by have := hEn.out; omega
                have f5 : (mid : Int) < (en : Int) := by have := hEn.out; omega
                have f6 : ¬ (en : Int) < (b : Int) := by have := hEn.out; omega
                have hRow := HNo.out (.inr (by omega))
                have hK := hkb
                have hSt := Stb.refl (key := Pr.key) (u1 ++ u2)
                have hSr := HL0.out (.inl (by omega))
                have hRw2 : PrB 56 wr g (U ++ (u1 ++ u2) ++ v1 ++ v2 ++ D) := by simpa only [List.append_assoc] using hRow
                go_wp2_with (first | fail)
                all_goals (go_end0; exact HFin.out wr (u1 ++ u2) (v1 ++ v2) hSt hSr (Stb.refl _) (HR0.out (.inr (by omega))) (by simpa only [List.append_assoc] using hRw2) hK)
        · skip
          by_cases c2 : s < mid
          · skip
            by_cases c3 : a < s
            · skip
              by_cases c4 : en < b
              · skip
                have f1 : ¬ (s : Int) < (m : Int) := by have := hEn.out; omega
                have f2 : (m : Int) < (en : Int) := by have := hEn.out; omega
                have f3 : (a : Int) < (s : Int) := by have := hEn.out; omega
                have f4 : (s : Int) < (mid : Int) := by have := hEn.out; omega
                have f5 : ¬ (mid : Int) < (en : Int) := by have := hEn.out; omega
                have f6 : (en : Int) < (b : Int) := by have := hEn.out; omega
                have hRow := HNo.out (.inl (by omega))
                have hK := hkb
                have HLc := Lib.hid (HL.out (by omega) (by omega) wr hRow hK)
                go_wp2_with (first | fail | (go_at_call 66; (with_reducible refine HLc.out.mono ?_); rintro e w5 ⟨rfl, L, hRw, hSt, hSr, hk5⟩; clear HLc; have hRw2 : PrB 56 w5 g (U ++ L ++ v1 ++ v2 ++ D) := (by simpa only [List.append_assoc] using hRw); have hK := hK.trans hk5 (fun b hb => .inl hb); skip))
                all_goals (go_end0; exact HFin.out w5 L (v1 ++ v2) hSt hSr (Stb.refl _) (HR0.out (.inl (by omega))) (by simpa only [List.append_assoc] using hRw2) hK)
              · skip
                have f1 : ¬ (s : Int) < (m : Int) := by have := hEn.out; omega
                have f2 : (m : Int) < (en : Int) := by have := hEn.out; omega
                have f3 : (a : Int) < (s : Int) := by have := hEn.out; omega
                have f4 : (s : Int) < (mid : Int) := by have := hEn.out; omega
                have f5 : ¬ (mid : Int) < (en : Int) := by have := hEn.out; omega
                have f6 : ¬ (en : Int) < (b : Int) := by have := hEn.out; omega
                have hRow := HNo.out (.inl (by omega))
                have hK := hkb
                have HLc := Lib.hid (HL.out (by omega) (by omega) wr hRow hK)
                go_wp2_with (first | fail | (go_at_call 66; (with_reducible refine HLc.out.mono ?_); rintro e w5 ⟨rfl, L, hRw, hSt, hSr, hk5⟩; clear HLc; have hRw2 : PrB 56 w5 g (U ++ L ++ v1 ++ v2 ++ D) := (by simpa only [List.append_assoc] using hRw); have hK := hK.trans hk5 (fun b hb => .inl hb); skip))
                all_goals (go_end0; exact HFin.out w5 L (v1 ++ v2) hSt hSr (Stb.refl _) (HR0.out (.inl (by omega))) (by simpa only [List.append_assoc] using hRw2) hK)
            · skip
              by_cases c4 : en < b
              · skip
                have f1 : ¬ (s : Int) < (m : Int) := by have := hEn.out; omega
                have f2 : (m : Int) < (en : Int) := by have := hEn.out; omega
                have f3 : ¬ (a : Int) < (s : Int) := by have := hEn.out; omega
                have f4 : (s : Int) < (mid : Int) := by have := hEn.out; omega
                have f5 : ¬ (mid : Int) < (en : Int) := by have := hEn.out; omega
                have f6 : (en : Int) < (b : Int) := by have := hEn.out; omega
                have hRow := HNo.out (.inl (by omega))
                have hK := hkb
                have hSt := Stb.refl (key := Pr.key) (u1 ++ u2)
                have hSr := HL0.out (.inl (by omega))
                have hRw2 : PrB 56 wr g (U ++ (u1 ++ u2) ++ v1 ++ v2 ++ D) := by simpa only [List.append_assoc] using hRow
                go_wp2_with (first | fail)
                all_goals (go_end0; exact HFin.out wr (u1 ++ u2) (v1 ++ v2) hSt hSr (Stb.refl _) (HR0.out (.inl (by omega))) (by simpa only [List.append_assoc] using hRw2) hK)
              · skip
                have f1 : ¬ (s : Int) < (m : Int) := by have := hEn.out; omega
                have f2 : (m : Int) < (en : Int) := by have := hEn.out; omega
                have f3 : ¬ (a : Int) < (s : Int) := by have := hEn.out; omega
                have f4 : (s : Int) < (mid : Int) := by have := hEn.out; omega
                have f5 : ¬ (mid : Int) < (en : Int) := by have := hEn.out; omega
                have f6 : ¬ (en : Int) < (b : Int) := by have := hEn.out; omega
                have hRow := HNo.out (.inl (by omega))
                have hK := hkb
                have hSt := Stb.refl (key := Pr.key) (u1 ++ u2)
                have hSr := HL0.out (.inl (by omega))
                have hRw2 : PrB 56 wr g (U ++ (u1 ++ u2) ++ v1 ++ v2 ++ D) := by simpa only [List.append_assoc] using hRow
                go_wp2_with (first | fail)
                all_goals (go_end0; exact HFin.out wr (u1 ++ u2) (v1 ++ v2) hSt hSr (Stb.refl _) (HR0.out (.inl (by omega))) (by simpa only [List.append_assoc] using hRw2) hK)
          · skip
            by_cases c3 : a < s
            · skip
              by_cases c4 : en < b
              · skip
                have f1 : ¬ (s : Int) < (m : Int) := by have := hEn.out; omega
                have f2 : ¬ (m : Int) < (en : Int) := by have := hEn.out; omega
                have f3 : (a : Int) < (s : Int) := by have := hEn.out; omega
                have f4 : ¬ (s : Int) < (mid : Int) := by have := hEn.out; omega
                have f5 : ¬ (mid : Int) < (en : Int) := by have := hEn.out; omega
                have f6 : (en : Int) < (b : Int) := by have := hEn.out; omega
                have hRow := HNo.out (.inl (by omega))
                have hK := hkb
                have hSt := Stb.refl (key := Pr.key) (u1 ++ u2)
                have hSr := HL0.out (.inr (by omega))
                have hRw2 : PrB 56 wr g (U ++ (u1 ++ u2) ++ v1 ++ v2 ++ D) := by simpa only [List.append_assoc] using hRow
                go_wp2_with (first | fail)
                all_goals (go_end0; exact HFin.out wr (u1 ++ u2) (v1 ++ v2) hSt hSr (Stb.refl _) (HR0.out (.inl (by omega))) (by simpa only [List.append_assoc] using hRw2) hK)
              · skip
                have f1 : ¬ (s : Int) < (m : Int) := by have := hEn.out; omega
                have f2 : ¬ (m : Int) < (en : Int) := by have := hEn.out; omega
                have f3 : (a : Int) < (s : Int) := by have := hEn.out; omega
                have f4 : ¬ (s : Int) < (mid : Int) := by have := hEn.out; omega
                have f5 : ¬ (mid : Int) < (en : Int) := by have := hEn.out; omega
                have f6 : ¬ (en : Int) < (b : Int) := by have := hEn.out; omega
                have hRow := HNo.out (.inl (by omega))
                have hK := hkb
                have hSt := Stb.refl (key := Pr.key) (u1 ++ u2)
                have hSr := HL0.out (.inr (by omega))
                have hRw2 : PrB 56 wr g (U ++ (u1 ++ u2) ++ v1 ++ v2 ++ D) := by simpa only [List.append_assoc] using hRow
                go_wp2_with (first | fail)
                all_goals (go_end0; exact HFin.out wr (u1 ++ u2) (v1 ++ v2) hSt hSr (Stb.refl _) (HR0.out (.inl (by omega))) (by simpa only [List.append_assoc] using hRw2) hK)
            · skip
              by_cases c4 : en < b
              · skip
                have f1 : ¬ (s : Int) < (m : Int) := by have := hEn.out; omega
                have f2 : ¬ (m : Int) < (en : Int) := by have := hEn.out; omega
                have f3 : ¬ (a : Int) < (s : Int) := by have := hEn.out; omega
                have f4 : ¬ (s : Int) < (mid : Int) := by have := hEn.out; omega
                have f5 : ¬ (mid : Int) < (en : Int) := by have := hEn.out; omega
                have f6 : (en : Int) < (b : Int) := by have := hEn.out; omega
                have hRow := HNo.out (.inl (by omega))
                have hK := hkb
                have hSt := Stb.refl (key := Pr.key) (u1 ++ u2)
                have hSr := HL0.out (.inl (by omega))
                have hRw2 : PrB 56 wr g (U ++ (u1 ++ u2) ++ v1 ++ v2 ++ D) := by simpa only [List.append_assoc] using hRow
                go_wp2_with (first | fail)
                all_goals (go_end0; exact HFin.out wr (u1 ++ u2) (v1 ++ v2) hSt hSr (Stb.refl _) (HR0.out (.inl (by omega))) (by simpa only [List.append_assoc] using hRw2) hK)
              · skip
                have f1 : ¬ (s : Int) < (m : Int) := by have := hEn.out; omega
                have f2 : ¬ (m : Int) < (en : Int) := by have := hEn.out; omega
                have f3 : ¬ (a : Int) < (s : Int) := by have := hEn.out; omega
                have f4 : ¬ (s : Int) < (mid : Int) := by have := hEn.out; omega
                have f5 : ¬ (mid : Int) < (en : Int) := by have := hEn.out; omega
                have f6 : ¬ (en : Int) < (b : Int) := by have := hEn.out; omega
                have hRow := HNo.out (.inl (by omega))
                have hK := hkb
                have hSt := Stb.refl (key := Pr.key) (u1 ++ u2)
                have hSr := HL0.out (.inl (by omega))
                have hRw2 : PrB 56 wr g (U ++ (u1 ++ u2) ++ v1 ++ v2 ++ D) := by simpa only [List.append_assoc] using hRow
                go_wp2_with (first | fail)
                all_goals (go_end0; exact HFin.out wr (u1 ++ u2) (v1 ++ v2) hSt hSr (Stb.refl _) (HR0.out (.inl (by omega))) (by simpa only [List.append_assoc] using hRw2) hK)
  · have g1 : ¬ (mid : Int) < (m : Int) := by omega
    have Hs0 := Lib.hid hs0
    have Hr0 := Lib.hid hr0
    have H0 := Lib.hid (show st0 = a ∨ nn - st0 = b from .inl hs0)
    have H1 := Lib.hid (show r0 = mid ∨ r0 = m from .inr hr0)
    clear w5 hs0 hr0
    go_enter Try.func66, Try.ntmps66
    go_wp2
    go_loopw [20, 21] (fun vs vr wr => ∃ s r : Nat, vs = .int .i64 (s : Int) ∧ vr = .int .i64 (r : Int) ∧ st0 ≤ s ∧ s ≤ r ∧ r ≤ r0 ∧ (∀ x y : Pr, st0 < s → P[s - 1 - a]? = some x → Q[p - (s - 1) - m]? = some y → bytesLess y.key x.key = false) ∧ (∀ x y : Pr, r < r0 → P[r - a]? = some x → Q[p - r - m]? = some y → bytesLess y.key x.key = true) ∧
        PrB 56 wr g (U ++ P ++ Q ++ D) ∧ Kb [g] w wr) (fun vs vr _ => (intOf vr).toNat - (intOf vs).toNat)
    case atStart => exact ⟨st0, r0, by first | rfl | rw [Hs0.out], by first | rfl | rw [Hr0.out], Nat.le_refl _, hst.2.1, Nat.le_refl _, (fun x y h => absurd h (by omega)), (fun x y h => absurd h (by omega)), hP, Kb.refl _ _⟩
    case round =>
      obtain ⟨s, r, rfl, rfl, hs1, hsr, hr1, hi1, hi2, hPr, hkb⟩ := hrel
      clear hP
      by_cases hlt : s < r
      · obtain ⟨h, hh⟩ : ∃ h, h = (s + r) / 2 := ⟨_, rfl⟩
        have hhi : ((s : Int) + (r : Int)) / 2 = (h : Int) := by omega
        have h1 : s ≤ h := by omega
        have h2 : h < r := by omega
        obtain ⟨e, he⟩ : ∃ e, e = p - h := ⟨_, rfl⟩
        have hA := Hall.out
        have htP : h - a < P.length := by omega
        have htQ : e - m < Q.length := by omega
        have hem : m ≤ e := by omega
        obtain ⟨x, hx⟩ : ∃ x, x = P[h - a] := ⟨_, rfl⟩
        obtain ⟨y, hy⟩ : ∃ y, y = Q[e - m] := ⟨_, rfl⟩
        have lx : h < (U ++ P ++ Q ++ D).length := by simp; omega
        have ly : e < (U ++ P ++ Q ++ D).length := by simp; omega
        have ex : (U ++ P ++ Q ++ D)[h] = x := by
          have e1 : h = U.length + (h - a) := by omega
          rw [hx]
          have : (U ++ P ++ Q ++ D)[h]? = P[h - a]? := by
            rw [e1, List.append_assoc, List.append_assoc, List.getElem?_append_right (by omega), List.getElem?_append_left (by omega)]
            congr 1; omega
          rw [List.getElem?_eq_getElem lx, List.getElem?_eq_getElem htP] at this
          exact Option.some.inj this
        have ey : (U ++ P ++ Q ++ D)[e] = y := by
          rw [hy]
          have : (U ++ P ++ Q ++ D)[e]? = Q[e - m]? := by
            rw [List.getElem?_append_left (by simp; omega), List.getElem?_append_right (by simp; omega)]
            congr 1; simp; omega
          rw [List.getElem?_eq_getElem ly, List.getElem?_eq_getElem htQ] at this
          exact Option.some.inj this
        have c1 := hPr.cell lx
        have c0 := hPr.cell ly
        rw [ex] at c1
        rw [ey] at c0
        have hmx := HOk.out wr hkb
        have hxo := hmx x (by simp [hx])
        have hyo := hmx y (by simp [hy])
        have HC := Lib.hid (c_cmp wr.drew hyo.1 hxo.1 (Nat.le_refl _) (Nat.le_refl _))
        have HP := Lib.hid hPr
        have Hi1 := Lib.hid hi1
        have Hi2 := Lib.hid hi2
        have hz := cmp_neg y.key x.key
        obtain ⟨z, hzz⟩ : ∃ z, z = Lib.compareBytes y.key x.key := ⟨_, rfl⟩
        rw [← hzz] at HC hz
        have u1 : IntKind.i64.wrap (h : Int) = (h : Int) := IntWalk.i64_in _ (by omega)
        have u2 : IntKind.i64.wrap (e : Int) = (e : Int) := IntWalk.i64_in _ (by omega)
        have u3 : IntKind.i64.wrap ((p : Int) - (h : Int)) = (e : Int) := by rw [IntWalk.i64_in _ (by omega)]; omega
        have i1 : (0 : Int) ≤ (h : Int) := by omega
        have i2 : (h : Int) < (n : Int) := by omega
        have i3 : (0 : Int) ≤ (e : Int) := by omega
        have i4 : (e : Int) < (n : Int) := by omega
        have Hn1 := Lib.hid (show bytesLess y.key x.key = false → ∀ x y : Pr, st0 < h + 1 → P[h + 1 - 1 - a]? = some x → Q[p - (h + 1 - 1) - m]? = some y → bytesLess y.key x.key = false from fun hl x' y' _ e1 e2 => by
          rw [Nat.add_sub_cancel, List.getElem?_eq_getElem htP] at e1
          rw [Nat.add_sub_cancel, ← he, List.getElem?_eq_getElem htQ] at e2
          cases e1; cases e2; rw [← hx, ← hy]; exact hl)
        have Hn2 := Lib.hid (show bytesLess y.key x.key = true → ∀ x y : Pr, h < r0 → P[h - a]? = some x → Q[p - h - m]? = some y → bytesLess y.key x.key = true from fun hl x' y' _ e1 e2 => by
          rw [List.getElem?_eq_getElem htP] at e1
          rw [← he, List.getElem?_eq_getElem htQ] at e2
          cases e1; cases e2; rw [← hx, ← hy]; exact hl)
        unfold Pr.val at HC
        clear hzz hh ex ey lx ly hmx hxo hyo hPr hi1 hi2 hA hx hy he htP htQ hem
        cases hlc : bytesLess y.key x.key with
        | true =>
          have hzl : z < 0 := hz.2 hlc
          have hF := Hn2.out hlc
          have HF := Lib.hid hF
          clear hz hlc hF Hn1 Hn2
          go_wp2
          have hHeld : (fun W : World => (W.cell? ⟨g, e * 2, none⟩ = some (.slice y.A1 y.n1 y.c1) ∧ W.cell? ⟨g, e * 2 + 1, none⟩ = some (.slice y.A2 y.n2 y.c2)) ∧ W.cell? ⟨g, h * 2, none⟩ = some (.slice x.A1 x.n1 x.c1) ∧ W.cell? ⟨g, h * 2 + 1, none⟩ = some (.slice x.A2 x.n2 x.c2)) wr.drew := ⟨c0, c1⟩
          refine wp_region_noPanic ?_
          refine wp_region_held (S := fun W : World => (W.cell? ⟨g, e * 2, none⟩ = some (.slice y.A1 y.n1 y.c1) ∧ W.cell? ⟨g, e * 2 + 1, none⟩ = some (.slice y.A2 y.n2 y.c2)) ∧ W.cell? ⟨g, h * 2, none⟩ = some (.slice x.A1 x.n1 x.c1) ∧ W.cell? ⟨g, h * 2 + 1, none⟩ = some (.slice x.A2 x.n2 x.c2)) (by kernel_rfl) ?_
          simp only [List.size_toArray, List.length_cons, List.length_nil, Nat.reduceAdd]
          refine heldTake (i := 0) (v := ?_) rfl (by kernel_rfl) (by kernel_rfl) (by kernel_rfl) (fun _ _ _ h => h) hHeld (by rfl) ?_ ?_
          rotate_left
          · (intro w hSw; (try dsimp only at hSw); go_simp; try with_reducible rfl)
          try simp only [Act.put, List.setIfInBounds_toArray, List.set_cons_zero, List.set_cons_succ]
          refine heldTake (i := 1) (v := ?_) rfl (by kernel_rfl) (by kernel_rfl) (by kernel_rfl) (fun _ _ _ h => h) hHeld (by rfl) ?_ ?_
          rotate_left
          · (intro w hSw; (try dsimp only at hSw); go_simp; try with_reducible rfl)
          try simp only [Act.put, List.setIfInBounds_toArray, List.set_cons_zero, List.set_cons_succ]
          refine heldTake (i := 2) (v := ?_) rfl (by kernel_rfl) (by kernel_rfl) (by kernel_rfl) (fun _ _ _ h => h) hHeld (by rfl) ?_ ?_
          rotate_left
          · (intro w hSw; (try dsimp only at hSw); go_simp; try with_reducible rfl)
          try simp only [Act.put, List.setIfInBounds_toArray, List.set_cons_zero, List.set_cons_succ]
          refine heldTake (i := 3) (v := ?_) rfl (by kernel_rfl) (by kernel_rfl) (by kernel_rfl) (fun _ _ _ h => h) hHeld (by rfl) ?_ ?_
          rotate_left
          · (intro w hSw; (try dsimp only at hSw); go_simp; try with_reducible rfl)
          try simp only [Act.put, List.setIfInBounds_toArray, List.set_cons_zero, List.set_cons_succ]
          refine heldTake (i := 4) (v := ?_) rfl (by kernel_rfl) (by kernel_rfl) (by kernel_rfl) (fun _ _ _ h => h) hHeld (by rfl) ?_ ?_
          rotate_left
          · (intro w hSw; (try dsimp only at hSw); go_simp; try with_reducible rfl)
          try simp only [Act.put, List.setIfInBounds_toArray, List.set_cons_zero, List.set_cons_succ]
          refine heldTake (i := 5) (v := ?_) rfl (by kernel_rfl) (by kernel_rfl) (by kernel_rfl) (fun _ _ _ h => h) hHeld (by rfl) ?_ ?_
          rotate_left
          · (intro w hSw; (try dsimp only at hSw); go_simp; try with_reducible rfl)
          try simp only [Act.put, List.setIfInBounds_toArray, List.set_cons_zero, List.set_cons_succ]
          refine heldTake (i := 6) (v := ?_) rfl (by kernel_rfl) (by kernel_rfl) (by kernel_rfl) (fun _ _ _ h => h) hHeld (by rfl) ?_ ?_
          rotate_left
          · (intro w hSw; (try dsimp only at hSw); go_simp; try with_reducible rfl)
          try simp only [Act.put, List.setIfInBounds_toArray, List.set_cons_zero, List.set_cons_succ]
          refine heldTake (i := 7) (v := ?_) rfl (by kernel_rfl) (by kernel_rfl) (by kernel_rfl) (fun _ _ _ h => h) hHeld (by rfl) ?_ ?_
          rotate_left
          · (intro w hSw; (try dsimp only at hSw); go_simp; try with_reducible rfl)
          try simp only [Act.put, List.setIfInBounds_toArray, List.set_cons_zero, List.set_cons_succ]
          refine heldTake (i := 8) (v := ?_) rfl (by kernel_rfl) (by kernel_rfl) (by kernel_rfl) (fun _ _ _ h => h) hHeld (by rfl) ?_ ?_
          rotate_left
          · (intro w hSw; (try dsimp only at hSw); go_simp; try with_reducible rfl)
          try simp only [Act.put, List.setIfInBounds_toArray, List.set_cons_zero, List.set_cons_succ]
          refine heldTake (i := 9) (v := ?_) rfl (by kernel_rfl) (by kernel_rfl) (by kernel_rfl) (fun _ _ _ h => h) hHeld (by rfl) ?_ ?_
          rotate_left
          · (intro w hSw; (try dsimp only at hSw); go_simp; try with_reducible rfl)
          try simp only [Act.put, List.setIfInBounds_toArray, List.set_cons_zero, List.set_cons_succ]
          refine heldTake (i := 10) (v := ?_) rfl (by kernel_rfl) (by kernel_rfl) (by kernel_rfl) (fun _ _ _ h => h) hHeld (by rfl) ?_ ?_
          rotate_left
          · (intro w hSw; (try dsimp only at hSw); go_simp; try with_reducible rfl)
          try simp only [Act.put, List.setIfInBounds_toArray, List.set_cons_zero, List.set_cons_succ]
          refine heldStep (i := 11) rfl (by kernel_rfl) (fun K hK => ?_)
          go_simp
          go_at_call 37
          refine HC.out.mono ?_
          rintro e w5 ⟨rfl, hb5⟩
          have hb5w : Below wr.heap.size wr w5 := ((Below.refl wr.heap.size wr).drew).trans hb5
          refine hK.out _ _ (⟨⟨(hb5.cell (p := ⟨g, e * 2, none⟩) HP.out.lt).trans c0.1, (hb5.cell (p := ⟨g, e * 2 + 1, none⟩) HP.out.lt).trans c0.2⟩, (hb5.cell (p := ⟨g, h * 2, none⟩) HP.out.lt).trans c1.1, (hb5.cell (p := ⟨g, h * 2 + 1, none⟩) HP.out.lt).trans c1.2⟩) (fun hHeld => ?_)
          clear hK K
          try simp only [Act.put, List.setIfInBounds_toArray, List.set_cons_zero, List.set_cons_succ]
          refine heldTake (i := 12) (v := ?_) rfl (by kernel_rfl) (by kernel_rfl) (by kernel_rfl) (fun _ _ _ h => h) hHeld (by rfl) ?_ ?_
          rotate_left
          · (intro w hSw; (try dsimp only at hSw); go_simp; try with_reducible rfl)
          try simp only [Act.put, List.setIfInBounds_toArray, List.set_cons_zero, List.set_cons_succ]
          refine heldTake (i := 13) (v := ?_) rfl (by kernel_rfl) (by kernel_rfl) (by kernel_rfl) (fun _ _ _ h => h) hHeld (by rfl) ?_ ?_
          rotate_left
          · (intro w hSw; (try dsimp only at hSw); go_simp; try with_reducible rfl)
          try simp only [Act.put, List.setIfInBounds_toArray, List.set_cons_zero, List.set_cons_succ]
          refine wpAnyH_done (by kernel_rfl) ?_ _
          refine NoPanic.normal ?_
          go_wp2
          exact ⟨⟨s, h, rfl, rfl, hs1, by omega, by omega, Hi1.out, HF.out, HP.out.below hb5w HP.out.lt, hkb.trans (Kb.of_below hb5w : Kb [] wr w5) (fun b hb => by simp at hb)⟩, by simp [intOf]; omega⟩
        | false =>
          have hzl : ¬ z < 0 := fun h => by rw [hz.1 h] at hlc; cases hlc
          have hzl2 : decide (z < 0) = false := decide_eq_false hzl
          have hzl3 : 0 ≤ z := by omega
          have hF := Hn1.out hlc
          have HF := Lib.hid hF
          clear hz hlc hF Hn1 Hn2
          go_wp2
          have hHeld : (fun W : World => (W.cell? ⟨g, e * 2, none⟩ = some (.slice y.A1 y.n1 y.c1) ∧ W.cell? ⟨g, e * 2 + 1, none⟩ = some (.slice y.A2 y.n2 y.c2)) ∧ W.cell? ⟨g, h * 2, none⟩ = some (.slice x.A1 x.n1 x.c1) ∧ W.cell? ⟨g, h * 2 + 1, none⟩ = some (.slice x.A2 x.n2 x.c2)) wr.drew := ⟨c0, c1⟩
          refine wp_region_noPanic ?_
          refine wp_region_held (S := fun W : World => (W.cell? ⟨g, e * 2, none⟩ = some (.slice y.A1 y.n1 y.c1) ∧ W.cell? ⟨g, e * 2 + 1, none⟩ = some (.slice y.A2 y.n2 y.c2)) ∧ W.cell? ⟨g, h * 2, none⟩ = some (.slice x.A1 x.n1 x.c1) ∧ W.cell? ⟨g, h * 2 + 1, none⟩ = some (.slice x.A2 x.n2 x.c2)) (by kernel_rfl) ?_
          simp only [List.size_toArray, List.length_cons, List.length_nil, Nat.reduceAdd]
          refine heldTake (i := 0) (v := ?_) rfl (by kernel_rfl) (by kernel_rfl) (by kernel_rfl) (fun _ _ _ h => h) hHeld (by rfl) ?_ ?_
          rotate_left
          · (intro w hSw; (try dsimp only at hSw); go_simp; try with_reducible rfl)
          try simp only [Act.put, List.setIfInBounds_toArray, List.set_cons_zero, List.set_cons_succ]
          refine heldTake (i := 1) (v := ?_) rfl (by kernel_rfl) (by kernel_rfl) (by kernel_rfl) (fun _ _ _ h => h) hHeld (by rfl) ?_ ?_
          rotate_left
          · (intro w hSw; (try dsimp only at hSw); go_simp; try with_reducible rfl)
          try simp only [Act.put, List.setIfInBounds_toArray, List.set_cons_zero, List.set_cons_succ]
          refine heldTake (i := 2) (v := ?_) rfl (by kernel_rfl) (by kernel_rfl) (by kernel_rfl) (fun _ _ _ h => h) hHeld (by rfl) ?_ ?_
          rotate_left
          · (intro w hSw; (try dsimp only at hSw); go_simp; try with_reducible rfl)
          try simp only [Act.put, List.setIfInBounds_toArray, List.set_cons_zero, List.set_cons_succ]
          refine heldTake (i := 3) (v := ?_) rfl (by kernel_rfl) (by kernel_rfl) (by kernel_rfl) (fun _ _ _ h => h) hHeld (by rfl) ?_ ?_
          rotate_left
          · (intro w hSw; (try dsimp only at hSw); go_simp; try with_reducible rfl)
          try simp only [Act.put, List.setIfInBounds_toArray, List.set_cons_zero, List.set_cons_succ]
          refine heldTake (i := 4) (v := ?_) rfl (by kernel_rfl) (by kernel_rfl) (by kernel_rfl) (fun _ _ _ h => h) hHeld (by rfl) ?_ ?_
          rotate_left
          · (intro w hSw; (try dsimp only at hSw); go_simp; try with_reducible rfl)
          try simp only [Act.put, List.setIfInBounds_toArray, List.set_cons_zero, List.set_cons_succ]
          refine heldTake (i := 5) (v := ?_) rfl (by kernel_rfl) (by kernel_rfl) (by kernel_rfl) (fun _ _ _ h => h) hHeld (by rfl) ?_ ?_
          rotate_left
          · (intro w hSw; (try dsimp only at hSw); go_simp; try with_reducible rfl)
          try simp only [Act.put, List.setIfInBounds_toArray, List.set_cons_zero, List.set_cons_succ]
          refine heldTake (i := 6) (v := ?_) rfl (by kernel_rfl) (by kernel_rfl) (by kernel_rfl) (fun _ _ _ h => h) hHeld (by rfl) ?_ ?_
          rotate_left
          · (intro w hSw; (try dsimp only at hSw); go_simp; try with_reducible rfl)
          try simp only [Act.put, List.setIfInBounds_toArray, List.set_cons_zero, List.set_cons_succ]
          refine heldTake (i := 7) (v := ?_) rfl (by kernel_rfl) (by kernel_rfl) (by kernel_rfl) (fun _ _ _ h => h) hHeld (by rfl) ?_ ?_
          rotate_left
          · (intro w hSw; (try dsimp only at hSw); go_simp; try with_reducible rfl)
          try simp only [Act.put, List.setIfInBounds_toArray, List.set_cons_zero, List.set_cons_succ]
          refine heldTake (i := 8) (v := ?_) rfl (by kernel_rfl) (by kernel_rfl) (by kernel_rfl) (fun _ _ _ h => h) hHeld (by rfl) ?_ ?_
          rotate_left
          · (intro w hSw; (try dsimp only at hSw); go_simp; try with_reducible rfl)
          try simp only [Act.put, List.setIfInBounds_toArray, List.set_cons_zero, List.set_cons_succ]
          refine heldTake (i := 9) (v := ?_) rfl (by kernel_rfl) (by kernel_rfl) (by kernel_rfl) (fun _ _ _ h => h) hHeld (by rfl) ?_ ?_
          rotate_left
          · (intro w hSw; (try dsimp only at hSw); go_simp; try with_reducible rfl)
          try simp only [Act.put, List.setIfInBounds_toArray, List.set_cons_zero, List.set_cons_succ]
          refine heldTake (i := 10) (v := ?_) rfl (by kernel_rfl) (by kernel_rfl) (by kernel_rfl) (fun _ _ _ h => h) hHeld (by rfl) ?_ ?_
          rotate_left
          · (intro w hSw; (try dsimp only at hSw); go_simp; try with_reducible rfl)
          try simp only [Act.put, List.setIfInBounds_toArray, List.set_cons_zero, List.set_cons_succ]
          refine heldStep (i := 11) rfl (by kernel_rfl) (fun K hK => ?_)
          go_simp
          go_at_call 37
          refine HC.out.mono ?_
          rintro e w5 ⟨rfl, hb5⟩
          have hb5w : Below wr.heap.size wr w5 := ((Below.refl wr.heap.size wr).drew).trans hb5
          refine hK.out _ _ (⟨⟨(hb5.cell (p := ⟨g, e * 2, none⟩) HP.out.lt).trans c0.1, (hb5.cell (p := ⟨g, e * 2 + 1, none⟩) HP.out.lt).trans c0.2⟩, (hb5.cell (p := ⟨g, h * 2, none⟩) HP.out.lt).trans c1.1, (hb5.cell (p := ⟨g, h * 2 + 1, none⟩) HP.out.lt).trans c1.2⟩) (fun hHeld => ?_)
          clear hK K
          try simp only [Act.put, List.setIfInBounds_toArray, List.set_cons_zero, List.set_cons_succ]
          refine heldTake (i := 12) (v := ?_) rfl (by kernel_rfl) (by kernel_rfl) (by kernel_rfl) (fun _ _ _ h => h) hHeld (by rfl) ?_ ?_
          rotate_left
          · (intro w hSw; (try dsimp only at hSw); go_simp; try with_reducible rfl)
          try simp only [Act.put, List.setIfInBounds_toArray, List.set_cons_zero, List.set_cons_succ]
          refine heldTake (i := 13) (v := ?_) rfl (by kernel_rfl) (by kernel_rfl) (by kernel_rfl) (fun _ _ _ h => h) hHeld (by rfl) ?_ ?_
          rotate_left
          · (intro w hSw; (try dsimp only at hSw); go_simp; try with_reducible rfl)
          try simp only [Act.put, List.setIfInBounds_toArray, List.set_cons_zero, List.set_cons_succ]
          refine wpAnyH_done (by kernel_rfl) ?_ _
          refine NoPanic.normal ?_
          go_wp2
          exact ⟨⟨h + 1, r, by go_num, rfl, by omega, by omega, hr1, HF.out, Hi2.out, HP.out.below hb5w HP.out.lt, hkb.trans (Kb.of_below hb5w : Kb [] wr w5) (fun b hb => by simp at hb)⟩, by simp [intOf]; omega⟩
      · obtain rfl : s = r := by omega
        have hlt' : ¬ (s : Int) < (s : Int) := by omega
        obtain ⟨en, hen⟩ : ∃ en, en = nn - s := ⟨_, rfl⟩
        have w7 : IntKind.i64.wrap ((nn : Int) - (s : Int)) = (en : Int) := by have := Hall.out; rw [IntWalk.i64_in _ (by omega)]; omega
        have hA := Hall.out
        obtain ⟨u1, hu1⟩ : ∃ l, l = P.take (s - a) := ⟨_, rfl⟩
        obtain ⟨v1, hv1⟩ : ∃ l, l = P.drop (s - a) := ⟨_, rfl⟩
        obtain ⟨u2, hu2⟩ : ∃ l, l = Q.take (en - m) := ⟨_, rfl⟩
        obtain ⟨v2, hv2⟩ : ∃ l, l = Q.drop (en - m) := ⟨_, rfl⟩
        have hPe : P = u1 ++ v1 := by rw [hu1, hv1, List.take_append_drop]
        have hQe : Q = u2 ++ v2 := by rw [hu2, hv2, List.take_append_drop]
        have l1 : u1.length = s - a := by rw [hu1, List.length_take]; omega
        have l2 : v1.length = m - s := by rw [hv1, List.length_drop]; omega
        have l3 : u2.length = en - m := by rw [hu2, List.length_take]; omega
        have l4 : v2.length = b - en := by rw [hv2, List.length_drop]; omega
        have hsu : SrtK Pr.key (u1 ++ v1) ∧ SrtK Pr.key (u2 ++ v2) := by rw [← hPe, ← hQe]; exact HS.out
        have hcl : ∀ x ∈ u1, ∀ y ∈ v2, bytesLess y.key x.key = false := cross_left hsu.1 hsu.2 fun z y hz hy => by
          have hne : 0 < u1.length := by cases u1 with | nil => cases hz | cons _ _ => simp
          have hne2 : 0 < v2.length := by cases v2 with | nil => cases hy | cons _ _ => simp
          refine hi1 z y (by have := H0.out; omega) ?_ ?_
          · rw [List.getLast?_eq_getElem?, hu1, List.length_take, Nat.min_eq_left (by omega), List.getElem?_take_of_lt (by omega)] at hz
            rw [← hz]; congr 1; omega
          · rw [List.head?_eq_getElem?, hv2, List.getElem?_drop] at hy
            rw [← hy]; congr 1; omega
        have hcr : ∀ x ∈ u2, ∀ y ∈ v1, bytesLess x.key y.key = true := cross_right hsu.1 hsu.2 fun z y hz hy => by
          have hne : 0 < u2.length := by cases u2 with | nil => cases hz | cons _ _ => simp
          have hne2 : 0 < v1.length := by cases v1 with | nil => cases hy | cons _ _ => simp
          refine hi2 y z (by have := H1.out; omega) ?_ ?_
          · rw [List.head?_eq_getElem?, hv1, List.getElem?_drop] at hy
            rw [← hy]; congr 1
          · rw [List.getLast?_eq_getElem?, hu2, List.length_take, Nat.min_eq_left (by omega), List.getElem?_take_of_lt (by omega)] at hz
            rw [← hz]; congr 1; omega
        have HFin := Lib.hid (show ∀ (W : World) (L R : List Pr), Stb Pr.key (u1 ++ u2) L → SrtK Pr.key L → Stb Pr.key (v1 ++ v2) R → SrtK Pr.key R → PrB 56 W g (U ++ L ++ R ++ D) → Kb [g] w W → SrtP w g U (P ++ Q) D (.returned (.tuple #[])) W from fun W L R h1 h2 h3 h4 h5 h6 => by
          obtain ⟨m1, m2⟩ := merge_cut hsu.1 hsu.2 h1 h3 h2 h4 hcl hcr
          refine ⟨rfl, L ++ R, by simpa only [List.append_assoc] using h5, ?_, m2, h6⟩
          rw [hPe, hQe]; exact m1)
        have HL0 := Lib.hid (show (s ≤ a ∨ mid ≤ s) → SrtK Pr.key (u1 ++ u2) from fun h => by
          rcases h with h | h
          · have : u1 = [] := List.eq_nil_of_length_eq_zero (by omega)
            rw [this, List.nil_append]; exact hsu.2.left
          · have : u2 = [] := List.eq_nil_of_length_eq_zero (by omega)
            rw [this, List.append_nil]; exact hsu.1.left)
        have HR0 := Lib.hid (show (m ≤ s ∨ b ≤ en) → SrtK Pr.key (v1 ++ v2) from fun h => by
          rcases h with h | h
          · have : v1 = [] := List.eq_nil_of_length_eq_zero (by omega)
            rw [this, List.nil_append]; exact hsu.2.right
          · have : v2 = [] := List.eq_nil_of_length_eq_zero (by omega)
            rw [this, List.append_nil]; exact hsu.1.right)
        have hrow : PrB 56 wr g (U ++ u1 ++ v1 ++ u2 ++ (v2 ++ D)) := by rw [hPe, hQe] at hPr; simpa only [List.append_assoc] using hPr
        have HNo := Lib.hid (show (m ≤ s ∨ mid ≤ s) → PrB 56 wr g (U ++ u1 ++ u2 ++ (v1 ++ v2 ++ D)) from fun h => by
          rcases h with h | h
          · have : v1 = [] := List.eq_nil_of_length_eq_zero (by omega)
            rw [this] at hrow ⊢; simpa only [List.append_assoc, List.append_nil, List.nil_append] using hrow
          · have : u2 = [] := List.eq_nil_of_length_eq_zero (by omega)
            rw [this] at hrow ⊢; simpa only [List.append_assoc, List.append_nil, List.nil_append] using hrow)
        have HRot := Lib.hid (show s < m → s < mid → _ from fun h1 h2 => c_rot wr (cv := .func (.func 37) #[] #[]) (a := s) (m := m) (b := en) (U := U ++ u1) (P := v1) (Q := u2) (D := v2 ++ D) hrow (by simp only [List.length_append]; omega) hnc hn2 (by rw [List.length_append]; omega) (by rw [List.length_append]; omega) (by rw [List.length_append]; omega) (by omega) (by omega))
        have HL := Lib.hid (show a < s → s < mid → ∀ W : World, PrB 56 W g (U ++ u1 ++ u2 ++ (v1 ++ v2 ++ D)) → Kb [g] w W → _ from fun h1 h2 W hR hk => hIH.out W (a := a) (m := s) (b := mid) (U := U) (P := u1) (Q := u2) (D := v1 ++ v2 ++ D) (by omega) hR ((HOk.out W hk).perm (fun x hx => by rw [hPe, hQe]; simp only [List.mem_append] at hx ⊢; rcases hx with ((hx | hx) | hx) | ((hx | hx) | hx) <;> simp [hx])) (by simp only [List.length_append]; omega) hnc hn2 (by omega) (by omega) (by omega) (by omega) (by omega) hsu.1.left hsu.2.left)
        have HR := Lib.hid (show s < m → en < b → ∀ (W : World) (L : List Pr), Stb Pr.key (u1 ++ u2) L → PrB 56 W g (U ++ L ++ v1 ++ v2 ++ D) → Kb [g] w W → _ from fun h1 h2 W L hst hR hk => hIH.out W (a := mid) (m := en) (b := b) (U := U ++ L) (P := v1) (Q := v2) (D := D) (by omega) hR ((HOk.out W hk).perm (fun x hx => by
            rw [hPe, hQe]; simp only [List.mem_append] at hx ⊢
            have hm : x ∈ L → x ∈ u1 ∨ x ∈ u2 := fun hx => by have := hst.mem.1 hx; simpa only [List.mem_append] using this
            rcases hx with ((((hx | hx) | hx) | hx) | hx)
            · simp [hx]
            · rcases hm hx with hx | hx <;> simp [hx]
            · simp [hx]
            · simp [hx]
            · simp [hx])) (by have := hst.length; simp only [List.length_append] at this ⊢; omega) hnc hn2 (by have := hst.length; simp only [List.length_append] at this ⊢; omega) (by have := hst.length; simp only [List.length_append] at this ⊢; omega) (by have := hst.length; simp only [List.length_append] at this ⊢; omega) (by omega) (by omega) hsu.1.right hsu.2.right)
        unfold MovP at HRot
        unfold SrtP at HL HR
        have hEn := Lib.hid (show en = mid + m - s ∧ s ≤ m ∧ s ≤ mid ∧ a ≤ s ∧ en ≤ b from by omega)
        clear hu1 hv1 hu2 hv2 hPe hQe l1 l2 l3 l4 hsu hcl hcr hi1 hi2 hPr hrow hA hen
        by_cases c1 : s < m
        · skip
          by_cases c2 : s < mid
          · skip
            by_cases c3 : a < s
            · skip
              by_cases c4 : en < b
              · skip
                have f1 : (s : Int) < (m : Int) := by have := hEn.out; omega
                have f2 : (m : Int) < (en : Int) := by have := hEn.out; omega
                have f3 : (a : Int) < (s : Int) := by have := hEn.out; omega
                have f4 : (s : Int) < (mid : Int) := by have := hEn.out; omega
                have f5 : (mid : Int) < (en : Int) := by have := hEn.out; omega
                have f6 : (en : Int) < (b : Int) := by have := hEn.out; omega
                go_wp2_with (first | fail | (go_at_call 67; (with_reducible refine (HRot.out (by omega) (by omega)).mono ?_); rintro e w4 ⟨rfl, hRow, hk4⟩; have hRow : PrB 56 w4 g (U ++ u1 ++ u2 ++ (v1 ++ v2 ++ D)) := (by simpa only [List.append_assoc] using hRow); have hK := hkb.trans hk4 (fun b hb => .inl hb); have HLc := Lib.hid (HL.out (by omega) (by omega) w4 hRow hK)) | (go_at_call 66; (with_reducible refine HLc.out.mono ?_); rintro e w5 ⟨rfl, L, hRw, hSt, hSr, hk5⟩; clear HLc; have hRw2 : PrB 56 w5 g (U ++ L ++ v1 ++ v2 ++ D) := (by simpa only [List.append_assoc] using hRw); have hK := hK.trans hk5 (fun b hb => .inl hb); have HRc := Lib.hid (HR.out (by omega) (by omega) w5 L hSt hRw2 hK); skip) | (go_at_call 66; (with_reducible refine HRc.out.mono ?_); rintro e w6 ⟨rfl, R, hRw6, hSt6, hSr6, hk6⟩))
                all_goals (go_end0; exact HFin.out w6 L R hSt hSr hSt6 hSr6 (by simpa only [List.append_assoc] using hRw6) (hK.trans hk6 (fun b hb => .inl hb)))
              · skip
                have f1 : (s : Int) < (m : Int) := by have := hEn.out; omega
                have f2 : (m : Int) < (en : Int) := by have := hEn.out; omega
                have f3 : (a : Int) < (s : Int) := by have := hEn.out; omega
                have f4 : (s : Int) < (mid : Int) := by have := hEn.out; omega
                have f5 : (mid : Int) < (en : Int) := by have := hEn.out; omega
                have f6 : ¬ (en : Int) < (b : Int) := by have := hEn.out; omega
                go_wp2_with (first | fail | (go_at_call 67; (with_reducible refine (HRot.out (by omega) (by omega)).mono ?_); rintro e w4 ⟨rfl, hRow, hk4⟩; have hRow : PrB 56 w4 g (U ++ u1 ++ u2 ++ (v1 ++ v2 ++ D)) := (by simpa only [List.append_assoc] using hRow); have hK := hkb.trans hk4 (fun b hb => .inl hb); have HLc := Lib.hid (HL.out (by omega) (by omega) w4 hRow hK)) | (go_at_call 66; (with_reducible refine HLc.out.mono ?_); rintro e w5 ⟨rfl, L, hRw, hSt, hSr, hk5⟩; clear HLc; have hRw2 : PrB 56 w5 g (U ++ L ++ v1 ++ v2 ++ D) := (by simpa only [List.append_assoc] using hRw); have hK := hK.trans hk5 (fun b hb => .inl hb); skip))
                all_goals (go_end0; exact HFin.out w5 L (v1 ++ v2) hSt hSr (Stb.refl _) (HR0.out (.inr (by omega))) (by simpa only [List.append_assoc] using hRw2) hK)
            · skip
              by_cases c4 : en < b
              · skip
                have f1 : (s : Int) < (m : Int) := by have := hEn.out; omega
                have f2 : (m : Int) < (en : Int) := by have := hEn.out; omega
                have f3 : ¬ (a : Int) < (s : Int) := by have := hEn.out; omega
                have f4 : (s : Int) < (mid : Int) := by have := hEn.out; omega
                have f5 : (mid : Int) < (en : Int) := by have := hEn.out; omega
                have f6 : (en : Int) < (b : Int) := by have := hEn.out; omega
                go_wp2_with (first | fail | (go_at_call 67; (with_reducible refine (HRot.out (by omega) (by omega)).mono ?_); rintro e w4 ⟨rfl, hRow, hk4⟩; have hRow : PrB 56 w4 g (U ++ u1 ++ u2 ++ (v1 ++ v2 ++ D)) := (by simpa only [List.append_assoc] using hRow); have hK := hkb.trans hk4 (fun b hb => .inl hb); have hSt := Stb.refl (key := Pr.key) (u1 ++ u2); have hSr := HL0.out (.inl (by omega)); have hRw2 : PrB 56 w4 g (U ++ (u1 ++ u2) ++ v1 ++ v2 ++ D) := (by simpa only [List.append_assoc] using hRow); have HRc := Lib.hid (HR.out (by omega) (by omega) w4 (u1 ++ u2) hSt hRw2 hK)) | (go_at_call 66; (with_reducible refine HRc.out.mono ?_); rintro e w6 ⟨rfl, R, hRw6, hSt6, hSr6, hk6⟩))
                all_goals (go_end0; exact HFin.out w6 (u1 ++ u2) R hSt hSr hSt6 hSr6 (by simpa only [List.append_assoc] using hRw6) (hK.trans hk6 (fun b hb => .inl hb)))
              · skip
                have f1 : (s : Int) < (m : Int) := by have := hEn.out; omega
                have f2 : (m : Int) < (en : Int) := by have := hEn.out; omega
                have f3 : ¬ (a : Int) < (s : Int) := by have := hEn.out; omega
                have f4 : (s : Int) < (mid : Int) := by have := hEn.out; omega
                have f5 : (mid : Int) < (en : Int) := by have := hEn.out; omega
                have f6 : ¬ (en : Int) < (b : Int) := by have := hEn.out; omega
                go_wp2_with (first | fail | (go_at_call 67; (with_reducible refine (HRot.out (by omega) (by omega)).mono ?_); rintro e w4 ⟨rfl, hRow, hk4⟩; have hRow : PrB 56 w4 g (U ++ u1 ++ u2 ++ (v1 ++ v2 ++ D)) := (by simpa only [List.append_assoc] using hRow); have hK := hkb.trans hk4 (fun b hb => .inl hb); have hSt := Stb.refl (key := Pr.key) (u1 ++ u2); have hSr := HL0.out (.inl (by omega)); have hRw2 : PrB 56 w4 g (U ++ (u1 ++ u2) ++ v1 ++ v2 ++ D) := by simpa only [List.append_assoc] using hRow))
                all_goals (go_end0; exact HFin.out w4 (u1 ++ u2) (v1 ++ v2) hSt hSr (Stb.refl _) (HR0.out (.inr (by omega))) (by simpa only [List.append_assoc] using hRw2) hK)
          · skip
            by_cases c3 : a < s
            · skip
              by_cases c4 : en < b
              · skip
                have f1 : (s : Int) < (m : Int) := by have := hEn.out; omega
                have f2 : ¬ (m : Int) < (en : Int) := by have := hEn.out; omega
                have f3 : (a : Int) < (s : Int) := by have := hEn.out; omega
                have f4 : ¬ (s : Int) < (mid : Int) := by have := hEn.out; omega
                have f5 : (mid : Int) < (en : Int) := by have := hEn.out; omega
                have f6 : (en : Int) < (b : Int) := by have := hEn.out; omega
                have hRow := HNo.out (.inr (by omega))
                have hK := hkb
                have hSt := Stb.refl (key := Pr.key) (u1 ++ u2)
                have hSr := HL0.out (.inr (by omega))
                have hRw2 : PrB 56 wr g (U ++ (u1 ++ u2) ++ v1 ++ v2 ++ D) := by simpa only [List.append_assoc] using hRow
                have HRc := Lib.hid (HR.out (by omega) (by omega) wr (u1 ++ u2) hSt hRw2 hK)
                go_wp2_with (first | fail | (go_at_call 66; (with_reducible refine HRc.out.mono ?_); rintro e w6 ⟨rfl, R, hRw6, hSt6, hSr6, hk6⟩))
                all_goals (go_end0; exact HFin.out w6 (u1 ++ u2) R hSt hSr hSt6 hSr6 (by simpa only [List.append_assoc] using hRw6) (hK.trans hk6 (fun b hb => .inl hb)))
              · skip
                have f1 : (s : Int) < (m : Int) := by have := hEn.out; omega
                have f2 : ¬ (m : Int) < (en : Int) := by have := hEn.out; omega
                have f3 : (a : Int) < (s : Int) := by have := hEn.out; omega
                have f4 : ¬ (s : Int) < (mid : Int) := by have := hEn.out; omega
                have f5 : (mid : Int) < (en : Int) := by have := hEn.out; omega
                have f6 : ¬ (en : Int) < (b : Int) := by have := hEn.out; omega
                have hRow := HNo.out (.inr (by omega))
                have hK := hkb
                have hSt := Stb.refl (key := Pr.key) (u1 ++ u2)
                have hSr := HL0.out (.inr (by omega))
                have hRw2 : PrB 56 wr g (U ++ (u1 ++ u2) ++ v1 ++ v2 ++ D) := by simpa only [List.append_assoc] using hRow
                go_wp2_with (first | fail)
                all_goals (go_end0; exact HFin.out wr (u1 ++ u2) (v1 ++ v2) hSt hSr (Stb.refl _) (HR0.out (.inr (by omega))) (by simpa only [List.append_assoc] using hRw2) hK)
            · skip
              by_cases c4 : en < b
              · skip
                have f1 : (s : Int) < (m : Int) := by have := hEn.out; omega
                have f2 : ¬ (m : Int) < (en : Int) := by have := hEn.out; omega
                have f3 : ¬ (a : Int) < (s : Int) := by have := hEn.out; omega
                have f4 : ¬ (s : Int) < (mid : Int) := by have := hEn.out; omega
                have f5 : (mid : Int) < (en : Int) := by have := hEn.out; omega
                have f6 : (en : Int) < (b : Int) := by have := hEn.out; omega
                have hRow := HNo.out (.inr (by omega))
                have hK := hkb
                have hSt := Stb.refl (key := Pr.key) (u1 ++ u2)
                have hSr := HL0.out (.inl (by omega))
                have hRw2 : PrB 56 wr g (U ++ (u1 ++ u2) ++ v1 ++ v2 ++ D) := by simpa only [List.append_assoc] using hRow
                have HRc := Lib.hid (HR.out (by omega) (by omega) wr (u1 ++ u2) hSt hRw2 hK)
                go_wp2_with (first | fail | (go_at_call 66; (with_reducible refine HRc.out.mono ?_); rintro e w6 ⟨rfl, R, hRw6, hSt6, hSr6, hk6⟩))
                all_goals (go_end0; exact HFin.out w6 (u1 ++ u2) R hSt hSr hSt6 hSr6 (by simpa only [List.append_assoc] using hRw6) (hK.trans hk6 (fun b hb => .inl hb)))
              · skip
                have f1 : (s : Int) < (m : Int) := by have := hEn.out; omega
                have f2 : ¬ (m : Int) < (en : Int) := by have := hEn.out; omega
                have f3 : ¬ (a : Int) < (s : Int) := by have := hEn.out; omega
                have f4 : ¬ (s : Int) < (mid : Int) := by have := hEn.out; omega
                have f5 : (mid : Int) < (en : Int) := by have := hEn.out; omega
                have f6 : ¬ (en : Int) < (b : Int) := by have := hEn.out; omega
                have hRow := HNo.out (.inr (by omega))
                have hK := hkb
                have hSt := Stb.refl (key := Pr.key) (u1 ++ u2)
                have hSr := HL0.out (.inl (by omega))
                have hRw2 : PrB 56 wr g (U ++ (u1 ++ u2) ++ v1 ++ v2 ++ D) := by simpa only [List.append_assoc] using hRow
                go_wp2_with (first | fail)
                all_goals (go_end0; exact HFin.out wr (u1 ++ u2) (v1 ++ v2) hSt hSr (Stb.refl _) (HR0.out (.inr (by omega))) (by simpa only [List.append_assoc] using hRw2) hK)
        · skip
          by_cases c2 : s < mid
          · skip
            by_cases c3 : a < s
            · skip
              by_cases c4 : en < b
              · skip
                have f1 : ¬ (s : Int) < (m : Int) := by have := hEn.out; omega
                have f2 : (m : Int) < (en : Int) := by have := hEn.out; omega
                have f3 : (a : Int) < (s : Int) := by have := hEn.out; omega
                have f4 : (s : Int) < (mid : Int) := by have := hEn.out; omega
                have f5 : ¬ (mid : Int) < (en : Int) := by have := hEn.out; omega
                have f6 : (en : Int) < (b : Int) := by have := hEn.out; omega
                have hRow := HNo.out (.inl (by omega))
                have hK := hkb
                have HLc := Lib.hid (HL.out (by omega) (by omega) wr hRow hK)
                go_wp2_with (first | fail | (go_at_call 66; (with_reducible refine HLc.out.mono ?_); rintro e w5 ⟨rfl, L, hRw, hSt, hSr, hk5⟩; clear HLc; have hRw2 : PrB 56 w5 g (U ++ L ++ v1 ++ v2 ++ D) := (by simpa only [List.append_assoc] using hRw); have hK := hK.trans hk5 (fun b hb => .inl hb); skip))
                all_goals (go_end0; exact HFin.out w5 L (v1 ++ v2) hSt hSr (Stb.refl _) (HR0.out (.inl (by omega))) (by simpa only [List.append_assoc] using hRw2) hK)
              · skip
                have f1 : ¬ (s : Int) < (m : Int) := by have := hEn.out; omega
                have f2 : (m : Int) < (en : Int) := by have := hEn.out; omega
                have f3 : (a : Int) < (s : Int) := by have := hEn.out; omega
                have f4 : (s : Int) < (mid : Int) := by have := hEn.out; omega
                have f5 : ¬ (mid : Int) < (en : Int) := by have := hEn.out; omega
                have f6 : ¬ (en : Int) < (b : Int) := by have := hEn.out; omega
                have hRow := HNo.out (.inl (by omega))
                have hK := hkb
                have HLc := Lib.hid (HL.out (by omega) (by omega) wr hRow hK)
                go_wp2_with (first | fail | (go_at_call 66; (with_reducible refine HLc.out.mono ?_); rintro e w5 ⟨rfl, L, hRw, hSt, hSr, hk5⟩; clear HLc; have hRw2 : PrB 56 w5 g (U ++ L ++ v1 ++ v2 ++ D) := (by simpa only [List.append_assoc] using hRw); have hK := hK.trans hk5 (fun b hb => .inl hb); skip))
                all_goals (go_end0; exact HFin.out w5 L (v1 ++ v2) hSt hSr (Stb.refl _) (HR0.out (.inl (by omega))) (by simpa only [List.append_assoc] using hRw2) hK)
            · skip
              by_cases c4 : en < b
              · skip
                have f1 : ¬ (s : Int) < (m : Int) := by have := hEn.out; omega
                have f2 : (m : Int) < (en : Int) := by have := hEn.out; omega
                have f3 : ¬ (a : Int) < (s : Int) := by have := hEn.out; omega
                have f4 : (s : Int) < (mid : Int) := by have := hEn.out; omega
                have f5 : ¬ (mid : Int) < (en : Int) := by have := hEn.out; omega
                have f6 : (en : Int) < (b : Int) := by have := hEn.out; omega
                have hRow := HNo.out (.inl (by omega))
                have hK := hkb
                have hSt := Stb.refl (key := Pr.key) (u1 ++ u2)
                have hSr := HL0.out (.inl (by omega))
                have hRw2 : PrB 56 wr g (U ++ (u1 ++ u2) ++ v1 ++ v2 ++ D) := by simpa only [List.append_assoc] using hRow
                go_wp2_with (first | fail)
                all_goals (go_end0; exact HFin.out wr (u1 ++ u2) (v1 ++ v2) hSt hSr (Stb.refl _) (HR0.out (.inl (by omega))) (by simpa only [List.append_assoc] using hRw2) hK)
              · skip
                have f1 : ¬ (s : Int) < (m : Int) := by have := hEn.out; omega
                have f2 : (m : Int) < (en : Int) := by have := hEn.out; omega
                have f3 : ¬ (a : Int) < (s : Int) := by have := hEn.out; omega
                have f4 : (s : Int) < (mid : Int) := by have := hEn.out; omega
                have f5 : ¬ (mid : Int) < (en : Int) := by have := hEn.out; omega
                have f6 : ¬ (en : Int) < (b : Int) := by have := hEn.out; omega
                have hRow := HNo.out (.inl (by omega))
                have hK := hkb
                have hSt := Stb.refl (key := Pr.key) (u1 ++ u2)
                have hSr := HL0.out (.inl (by omega))
                have hRw2 : PrB 56 wr g (U ++ (u1 ++ u2) ++ v1 ++ v2 ++ D) := by simpa only [List.append_assoc] using hRow
                go_wp2_with (first | fail)
                all_goals (go_end0; exact HFin.out wr (u1 ++ u2) (v1 ++ v2) hSt hSr (Stb.refl _) (HR0.out (.inl (by omega))) (by simpa only [List.append_assoc] using hRw2) hK)
          · skip
            by_cases c3 : a < s
            · skip
              by_cases c4 : en < b
              · skip
                have f1 : ¬ (s : Int) < (m : Int) := by have := hEn.out; omega
                have f2 : ¬ (m : Int) < (en : Int) := by have := hEn.out; omega
                have f3 : (a : Int) < (s : Int) := by have := hEn.out; omega
                have f4 : ¬ (s : Int) < (mid : Int) := by have := hEn.out; omega
                have f5 : ¬ (mid : Int) < (en : Int) := by have := hEn.out; omega
                have f6 : (en : Int) < (b : Int) := by have := hEn.out; omega
                have hRow := HNo.out (.inl (by omega))
                have hK := hkb
                have hSt := Stb.refl (key := Pr.key) (u1 ++ u2)
                have hSr := HL0.out (.inr (by omega))
                have hRw2 : PrB 56 wr g (U ++ (u1 ++ u2) ++ v1 ++ v2 ++ D) := by simpa only [List.append_assoc] using hRow
                go_wp2_with (first | fail)
                all_goals (go_end0; exact HFin.out wr (u1 ++ u2) (v1 ++ v2) hSt hSr (Stb.refl _) (HR0.out (.inl (by omega))) (by simpa only [List.append_assoc] using hRw2) hK)
              · skip
                have f1 : ¬ (s : Int) < (m : Int) := by have := hEn.out; omega
                have f2 : ¬ (m : Int) < (en : Int) := by have := hEn.out; omega
                have f3 : (a : Int) < (s : Int) := by have := hEn.out; omega
                have f4 : ¬ (s : Int) < (mid : Int) := by have := hEn.out; omega
                have f5 : ¬ (mid : Int) < (en : Int) := by have := hEn.out; omega
                have f6 : ¬ (en : Int) < (b : Int) := by have := hEn.out; omega
                have hRow := HNo.out (.inl (by omega))
                have hK := hkb
                have hSt := Stb.refl (key := Pr.key) (u1 ++ u2)
                have hSr := HL0.out (.inr (by omega))
                have hRw2 : PrB 56 wr g (U ++ (u1 ++ u2) ++ v1 ++ v2 ++ D) := by simpa only [List.append_assoc] using hRow
                go_wp2_with (first | fail)
                all_goals (go_end0; exact HFin.out wr (u1 ++ u2) (v1 ++ v2) hSt hSr (Stb.refl _) (HR0.out (.inl (by omega))) (by simpa only [List.append_assoc] using hRw2) hK)
            · skip
              by_cases c4 : en < b
              · skip
                have f1 : ¬ (s : Int) < (m : Int) := by have := hEn.out; omega
                have f2 : ¬ (m : Int) < (en : Int) := by have := hEn.out; omega
                have f3 : ¬ (a : Int) < (s : Int) := by have := hEn.out; omega
                have f4 : ¬ (s : Int) < (mid : Int) := by have := hEn.out; omega
                have f5 : ¬ (mid : Int) < (en : Int) := by have := hEn.out; omega
                have f6 : (en : Int) < (b : Int) := by have := hEn.out; omega
                have hRow := HNo.out (.inl (by omega))
                have hK := hkb
                have hSt := Stb.refl (key := Pr.key) (u1 ++ u2)
                have hSr := HL0.out (.inl (by omega))
                have hRw2 : PrB 56 wr g (U ++ (u1 ++ u2) ++ v1 ++ v2 ++ D) := by simpa only [List.append_assoc] using hRow
                go_wp2_with (first | fail)
                all_goals (go_end0; exact HFin.out wr (u1 ++ u2) (v1 ++ v2) hSt hSr (Stb.refl _) (HR0.out (.inl (by omega))) (by simpa only [List.append_assoc] using hRw2) hK)
              · skip
                have f1 : ¬ (s : Int) < (m : Int) := by have := hEn.out; omega
                have f2 : ¬ (m : Int) < (en : Int) := by have := hEn.out; omega
                have f3 : ¬ (a : Int) < (s : Int) := by have := hEn.out; omega
                have f4 : ¬ (s : Int) < (mid : Int) := by have := hEn.out; omega
                have f5 : ¬ (mid : Int) < (en : Int) := by have := hEn.out; omega
                have f6 : ¬ (en : Int) < (b : Int) := by have := hEn.out; omega
                have hRow := HNo.out (.inl (by omega))
                have hK := hkb
                have hSt := Stb.refl (key := Pr.key) (u1 ++ u2)
                have hSr := HL0.out (.inl (by omega))
                have hRw2 : PrB 56 wr g (U ++ (u1 ++ u2) ++ v1 ++ v2 ++ D) := by simpa only [List.append_assoc] using hRow
                go_wp2_with (first | fail)
                all_goals (go_end0; exact HFin.out wr (u1 ++ u2) (v1 ++ v2) hSt hSr (Stb.refl _) (HR0.out (.inl (by omega))) (by simpa only [List.append_assoc] using hRw2) hK)
set_option maxRecDepth 100000 in
theorem c_sym : ∀ N, SymN N := by
  intro N
  induction N with
  | zero => intro w g n c a m b U P Q D hN hP hok hn hnc hn2 ha hm hb hp hq; omega
  | succ N ih =>
    intro w g n c a m b U P Q D hN hP hok hn hnc hn2 ha hm hb hp hq hsP hsQ
    by_cases h1 : P.length = 1
    · obtain ⟨x, rfl⟩ := List.length_eq_one_iff.mp h1
      have e : U ++ [x] ++ Q ++ D = U ++ x :: (Q ++ D) := by simp
      rw [e] at hP hok
      exact c_sym1 w hP hok hn hnc hn2 ha hm hb hsQ
    · by_cases h2 : Q.length = 1
      · obtain ⟨x, rfl⟩ := List.length_eq_one_iff.mp h2
        have e : U ++ P ++ [x] ++ D = U ++ (P ++ x :: D) := by simp
        rw [e] at hP hok
        exact c_sym2 w hP hok hn hnc hn2 ha hm hb (by omega) hsP
      · exact c_sym3 ih w hN hP hok hn hnc hn2 ha hm hb (by omega) (by omega) hsP hsQ
end Go.Proofs.Ytedelkifadonjaa
