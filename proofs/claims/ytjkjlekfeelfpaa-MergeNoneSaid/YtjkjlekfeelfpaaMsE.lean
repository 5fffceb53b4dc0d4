/- Layer 23: two stretches in order are merged (symMerge): the two short ways. -/
import Derived.Test.YtjkjlekfeelfpaaMsD
namespace Go.Proofs.Ytjkjlekfeelfpaa
open Go.RowKit Go.Lec Go.Op
set_option maxRecDepth 100000 in
set_option maxHeartbeats 4000000 in
theorem c_sym1 (w : World) {g n c a m b : Nat} {U Q D : List Pr} {x : Pr} (hP : PrB 42 w g (U ++ x :: (Q ++ D))) (hok : PrOk w g (U ++ x :: (Q ++ D))) (hn : U.length + 1 + Q.length + D.length = n) (hnc : n ≤ c) (hn2 : n ≤ 100000)
    (ha : a = U.length) (hm : m = U.length + 1) (hb : b = U.length + 1 + Q.length) (hs : SrtK Pr.key Q) :
    Calls Try.prog 69 #[.slice (some ⟨g, 0, none⟩) n c, .int .i64 (a : Int), .int .i64 (m : Int), .int .i64 (b : Int), .func (.func 31) #[] #[]] w (SrtP w g U (x :: Q) D) := by
  have HOk := Lib.hid (fun (W : World) (hk : Kb [g] w W) => hok.kb hk)
  have w1 : IntKind.i64.wrap ((m : Int) - (a : Int)) = 1 := by rw [IntWalk.i64_in _ (by omega)]; omega
  have Ha := Lib.hid ha
  have Hm := Lib.hid hm
  have Hb := Lib.hid hb
  have Hn := Lib.hid hn
  have hbn : b ≤ n := by omega
  have hmb : m ≤ b := by omega
  have ham : a < m := by omega
  clear ha hm hb hn hok
  go_enter Try.func69, Try.ntmps69
  go_wp2
  go_loopw [10, 11] (fun vi vj wr => ∃ i j : Nat, vi = .int .i64 (i : Int) ∧ vj = .int .i64 (j : Int) ∧ m ≤ i ∧ i ≤ j ∧ j ≤ b ∧ (∀ z, (Q.take (i - m)).getLast? = some z → bytesLess z.key x.key = true) ∧ (∀ y, (Q.drop (j - m)).head? = some y → bytesLess y.key x.key = false) ∧ PrB 42 wr g (U ++ x :: (Q ++ D)) ∧ Kb [g] w wr) (fun vi vj _ => (intOf vj).toNat - (intOf vi).toNat)
  case atStart => exact ⟨m, b, rfl, rfl, Nat.le_refl _, hmb, Nat.le_refl _, by simp, by have := Hm.out; have := Hb.out; rw [show b - m = Q.length from by omega, List.drop_length]; simp, hP, Kb.refl _ _⟩
  case round =>
    obtain ⟨i, j, rfl, rfl, hmi, hij, hjb, hz1, hz2, hPr, hkb⟩ := hrel
    clear hP
    by_cases hlt : i < j
    · obtain ⟨h, hh⟩ : ∃ h, h = (i + j) / 2 := ⟨_, rfl⟩
      have hhi : ((i : Int) + (j : Int)) / 2 = (h : Int) := by omega
      have h1 : i ≤ h := by omega
      have h2 : h < j := by omega
      obtain ⟨t, ht⟩ : ∃ t, t = h - m := ⟨_, rfl⟩
      have htQ : t < Q.length := by have := Hm.out; have := Hb.out; omega
      obtain ⟨q, hq⟩ : ∃ q, q = Q[t] := ⟨_, rfl⟩
      have la : a < (U ++ x :: (Q ++ D)).length := by have := Ha.out; simp; omega
      have lh : h < (U ++ x :: (Q ++ D)).length := by have := Hm.out; simp; omega
      have ea : (U ++ x :: (Q ++ D))[a] = x := by have := Ha.out; subst this; simp
      have eh : (U ++ x :: (Q ++ D))[h] = q := by
        have e : h = U.length + 1 + t := by have := Hm.out; omega
        subst e
        rw [List.getElem_append_right (by omega), hq]
        simp [show U.length + 1 + t - U.length = t + 1 from by omega, List.getElem_append_left htQ]
      have c1 := hPr.cell la
      have c0 := hPr.cell lh
      rw [ea] at c1
      rw [eh] at c0
      have hmx := HOk.out wr hkb
      have hqo := hmx q (by simp [hq])
      have hxo := hmx x (by simp)
      have HC := Lib.hid (c_cmp wr.drew hqo.1 hxo.1 (Nat.le_refl _) (Nat.le_refl _))
      have HP := Lib.hid hPr
      have dQ : Q.drop t = q :: Q.drop (t + 1) := by rw [hq]; exact List.drop_eq_getElem_cons htQ
      have tQ : Q.take (t + 1) = Q.take t ++ [q] := by rw [hq]; exact List.take_succ_eq_append_getElem htQ
      have Ht := Lib.hid ht
      have Hz1 := Lib.hid hz1
      have Hz2 := Lib.hid hz2
      have hz := cmp_neg q.key x.key
      obtain ⟨z, hzz⟩ : ∃ z, z = Lib.compareBytes q.key x.key := ⟨_, rfl⟩
      rw [← hzz] at HC hz
      have Hh := Lib.hid hh
      have w2 : IntKind.i64.wrap (h : Int) = (h : Int) := IntWalk.i64_in _ (by omega)
      have w3 : IntKind.i64.wrap (a : Int) = (a : Int) := IntWalk.i64_in _ (by omega)
      have i1 : (0 : Int) ≤ (h : Int) := by omega
      have i2 : (h : Int) < (n : Int) := by omega
      have i3 : (0 : Int) ≤ (a : Int) := by omega
      have i4 : (a : Int) < (n : Int) := by omega
      unfold Pr.val at HC
      clear hzz hh ea eh la lh hmx hqo hxo hPr hq ht hz1 hz2
      cases hlc : bytesLess q.key x.key with
      | true =>
        have hzl : z < 0 := hz.2 hlc
        have Hfin := Lib.hid (show ∀ z, (Q.take (h + 1 - m)).getLast? = some z → bytesLess z.key x.key = true from fun z hz => by
          rw [show h + 1 - m = t + 1 from by have := Ht.out; omega, tQ] at hz
          simp at hz; subst hz; exact hlc)
        clear hz hlc dQ tQ
        go_wp2
        have hHeld : (fun W : World => (W.cell? ⟨g, h * 2, none⟩ = some (.slice q.A1 q.n1 q.c1) ∧ W.cell? ⟨g, h * 2 + 1, none⟩ = some (.slice q.A2 q.n2 q.c2)) ∧ W.cell? ⟨g, a * 2, none⟩ = some (.slice x.A1 x.n1 x.c1) ∧ W.cell? ⟨g, a * 2 + 1, none⟩ = some (.slice x.A2 x.n2 x.c2)) wr.drew := ⟨c0, c1⟩
        refine wp_region_noPanic ?_
        refine wp_region_held (S := fun W : World => (W.cell? ⟨g, h * 2, none⟩ = some (.slice q.A1 q.n1 q.c1) ∧ W.cell? ⟨g, h * 2 + 1, none⟩ = some (.slice q.A2 q.n2 q.c2)) ∧ W.cell? ⟨g, a * 2, none⟩ = some (.slice x.A1 x.n1 x.c1) ∧ W.cell? ⟨g, a * 2 + 1, none⟩ = some (.slice x.A2 x.n2 x.c2)) (by kernel_rfl) ?_
        simp only [List.size_toArray, List.length_cons, List.length_nil, Nat.reduceAdd]
        refine heldTake (i := 0) (v := ?_) rfl (by kernel_rfl) (by kernel_rfl) (by kernel_rfl) (fun _ _ _ h => h) hHeld (by rfl) ?_ ?_
        rotate_left
        · (intro w hSw; (try dsimp only at hSw); go_simp; try with_reducible rfl)
        try simp only [Act.put, List.setIfInBounds_toArray, List.set_cons_zero, List.set_cons_succ]
        refine heldTake (i := 1) (v := ?_) rfl (by kernel_rfl) (by kernel_rfl) (by kernel_rfl) (fun _ _ _ h => h) hHeld (by rfl) ?_ ?_
        rotate_left
        · (intro w hSw; (try dsimp only at hSw); go_simp; try with_reducible rfl)
        try simp only [Act.put, List.setIfInBounds_toArray, List.set_cons_zero, List.set_cons_succ]
        refine heldTake (i := 2) (v := ?_) rfl (by kernel_rfl) (by kernel_rfl) (by kernel_rfl) (fun _ _ _ h => h) hHeld (by rfl) ?_ ?_
        rotate_left
        · (intro w hSw; (try dsimp only at hSw); go_simp; try with_reducible rfl)
        try simp only [Act.put, List.setIfInBounds_toArray, List.set_cons_zero, List.set_cons_succ]
        refine heldTake (i := 3) (v := ?_) rfl (by kernel_rfl) (by kernel_rfl) (by kernel_rfl) (fun _ _ _ h => h) hHeld (by rfl) ?_ ?_
        rotate_left
        · (intro w hSw; (try dsimp only at hSw); go_simp; try with_reducible rfl)
        try simp only [Act.put, List.setIfInBounds_toArray, List.set_cons_zero, List.set_cons_succ]
        refine heldTake (i := 4) (v := ?_) rfl (by kernel_rfl) (by kernel_rfl) (by kernel_rfl) (fun _ _ _ h => h) hHeld (by rfl) ?_ ?_
        rotate_left
        · (intro w hSw; (try dsimp only at hSw); go_simp; try with_reducible rfl)
        try simp only [Act.put, List.setIfInBounds_toArray, List.set_cons_zero, List.set_cons_succ]
        refine heldTake (i := 5) (v := ?_) rfl (by kernel_rfl) (by kernel_rfl) (by kernel_rfl) (fun _ _ _ h => h) hHeld (by rfl) ?_ ?_
        rotate_left
        · (intro w hSw; (try dsimp only at hSw); go_simp; try with_reducible rfl)
        try simp only [Act.put, List.setIfInBounds_toArray, List.set_cons_zero, List.set_cons_succ]
        refine heldTake (i := 6) (v := ?_) rfl (by kernel_rfl) (by kernel_rfl) (by kernel_rfl) (fun _ _ _ h => h) hHeld (by rfl) ?_ ?_
        rotate_left
        · (intro w hSw; (try dsimp only at hSw); go_simp; try with_reducible rfl)
        try simp only [Act.put, List.setIfInBounds_toArray, List.set_cons_zero, List.set_cons_succ]
        refine heldTake (i := 7) (v := ?_) rfl (by kernel_rfl) (by kernel_rfl) (by kernel_rfl) (fun _ _ _ h => h) hHeld (by rfl) ?_ ?_
        rotate_left
        · (intro w hSw; (try dsimp only at hSw); go_simp; try with_reducible rfl)
        try simp only [Act.put, List.setIfInBounds_toArray, List.set_cons_zero, List.set_cons_succ]
        refine heldTake (i := 8) (v := ?_) rfl (by kernel_rfl) (by kernel_rfl) (by kernel_rfl) (fun _ _ _ h => h) hHeld (by rfl) ?_ ?_
        rotate_left
        · (intro w hSw; (try dsimp only at hSw); go_simp; try with_reducible rfl)
        try simp only [Act.put, List.setIfInBounds_toArray, List.set_cons_zero, List.set_cons_succ]
        refine heldStep (i := 9) rfl (by kernel_rfl) (fun K hK => ?_)
        go_simp
        go_at_call 31
        refine HC.out.mono ?_
        rintro e w5 ⟨rfl, hb5⟩
        have hb5w : Below wr.heap.size wr w5 := ((Below.refl wr.heap.size wr).drew).trans hb5
        refine hK.out _ _ (⟨⟨(hb5.cell (p := ⟨g, h * 2, none⟩) HP.out.lt).trans c0.1, (hb5.cell (p := ⟨g, h * 2 + 1, none⟩) HP.out.lt).trans c0.2⟩, (hb5.cell (p := ⟨g, a * 2, none⟩) HP.out.lt).trans c1.1, (hb5.cell (p := ⟨g, a * 2 + 1, none⟩) HP.out.lt).trans c1.2⟩) (fun hHeld => ?_)
        clear hK K
        try simp only [Act.put, List.setIfInBounds_toArray, List.set_cons_zero, List.set_cons_succ]
        refine heldTake (i := 10) (v := ?_) rfl (by kernel_rfl) (by kernel_rfl) (by kernel_rfl) (fun _ _ _ h => h) hHeld (by rfl) ?_ ?_
        rotate_left
        · (intro w hSw; (try dsimp only at hSw); go_simp; try with_reducible rfl)
        try simp only [Act.put, List.setIfInBounds_toArray, List.set_cons_zero, List.set_cons_succ]
        refine wpAnyH_done (by kernel_rfl) ?_ _
        refine NoPanic.normal ?_
        go_wp2
        exact ⟨⟨h + 1, j, by go_num, rfl, by omega, by omega, hjb, Hfin.out, Hz2.out, HP.out.below hb5w HP.out.lt, hkb.trans (Kb.of_below hb5w : Kb [] wr w5) (fun b hb => by simp at hb)⟩, by simp [intOf]; omega⟩
      | false =>
        have hzl : ¬ z < 0 := fun h => by rw [hz.1 h] at hlc; cases hlc
        have Hfin := Lib.hid (show ∀ y, (Q.drop (h - m)).head? = some y → bytesLess y.key x.key = false from fun y hy => by
          rw [← Ht.out, dQ] at hy
          simp at hy; subst hy; exact hlc)
        clear hz hlc dQ tQ
        go_wp2
        have hHeld : (fun W : World => (W.cell? ⟨g, h * 2, none⟩ = some (.slice q.A1 q.n1 q.c1) ∧ W.cell? ⟨g, h * 2 + 1, none⟩ = some (.slice q.A2 q.n2 q.c2)) ∧ W.cell? ⟨g, a * 2, none⟩ = some (.slice x.A1 x.n1 x.c1) ∧ W.cell? ⟨g, a * 2 + 1, none⟩ = some (.slice x.A2 x.n2 x.c2)) wr.drew := ⟨c0, c1⟩
        refine wp_region_noPanic ?_
        refine wp_region_held (S := fun W : World => (W.cell? ⟨g, h * 2, none⟩ = some (.slice q.A1 q.n1 q.c1) ∧ W.cell? ⟨g, h * 2 + 1, none⟩ = some (.slice q.A2 q.n2 q.c2)) ∧ W.cell? ⟨g, a * 2, none⟩ = some (.slice x.A1 x.n1 x.c1) ∧ W.cell? ⟨g, a * 2 + 1, none⟩ = some (.slice x.A2 x.n2 x.c2)) (by kernel_rfl) ?_
        simp only [List.size_toArray, List.length_cons, List.length_nil, Nat.reduceAdd]
        refine heldTake (i := 0) (v := ?_) rfl (by kernel_rfl) (by kernel_rfl) (by kernel_rfl) (fun _ _ _ h => h) hHeld (by rfl) ?_ ?_
        rotate_left
        · (intro w hSw; (try dsimp only at hSw); go_simp; try with_reducible rfl)
        try simp only [Act.put, List.setIfInBounds_toArray, List.set_cons_zero, List.set_cons_succ]
        refine heldTake (i := 1) (v := ?_) rfl (by kernel_rfl) (by kernel_rfl) (by kernel_rfl) (fun _ _ _ h => h) hHeld (by rfl) ?_ ?_
        rotate_left
        · (intro w hSw; (try dsimp only at hSw); go_simp; try with_reducible rfl)
        try simp only [Act.put, List.setIfInBounds_toArray, List.set_cons_zero, List.set_cons_succ]
        refine heldTake (i := 2) (v := ?_) rfl (by kernel_rfl) (by kernel_rfl) (by kernel_rfl) (fun _ _ _ h => h) hHeld (by rfl) ?_ ?_
        rotate_left
        · (intro w hSw; (try dsimp only at hSw); go_simp; try with_reducible rfl)
        try simp only [Act.put, List.setIfInBounds_toArray, List.set_cons_zero, List.set_cons_succ]
        refine heldTake (i := 3) (v := ?_) rfl (by kernel_rfl) (by kernel_rfl) (by kernel_rfl) (fun _ _ _ h => h) hHeld (by rfl) ?_ ?_
        rotate_left
        · (intro w hSw; (try dsimp only at hSw); go_simp; try with_reducible rfl)
        try simp only [Act.put, List.setIfInBounds_toArray, List.set_cons_zero, List.set_cons_succ]
        refine heldTake (i := 4) (v := ?_) rfl (by kernel_rfl) (by kernel_rfl) (by kernel_rfl) (fun _ _ _ h => h) hHeld (by rfl) ?_ ?_
        rotate_left
        · (intro w hSw; (try dsimp only at hSw); go_simp; try with_reducible rfl)
        try simp only [Act.put, List.setIfInBounds_toArray, List.set_cons_zero, List.set_cons_succ]
        refine heldTake (i := 5) (v := ?_) rfl (by kernel_rfl) (by kernel_rfl) (by kernel_rfl) (fun _ _ _ h => h) hHeld (by rfl) ?_ ?_
        rotate_left
        · (intro w hSw; (try dsimp only at hSw); go_simp; try with_reducible rfl)
        try simp only [Act.put, List.setIfInBounds_toArray, List.set_cons_zero, List.set_cons_succ]
        refine heldTake (i := 6) (v := ?_) rfl (by kernel_rfl) (by kernel_rfl) (by kernel_rfl) (fun _ _ _ h => h) hHeld (by rfl) ?_ ?_
        rotate_left
        · (intro w hSw; (try dsimp only at hSw); go_simp; try with_reducible rfl)
        try simp only [Act.put, List.setIfInBounds_toArray, List.set_cons_zero, List.set_cons_succ]
        refine heldTake (i := 7) (v := ?_) rfl (by kernel_rfl) (by kernel_rfl) (by kernel_rfl) (fun _ _ _ h => h) hHeld (by rfl) ?_ ?_
        rotate_left
        · (intro w hSw; (try dsimp only at hSw); go_simp; try with_reducible rfl)
        try simp only [Act.put, List.setIfInBounds_toArray, List.set_cons_zero, List.set_cons_succ]
        refine heldTake (i := 8) (v := ?_) rfl (by kernel_rfl) (by kernel_rfl) (by kernel_rfl) (fun _ _ _ h => h) hHeld (by rfl) ?_ ?_
        rotate_left
        · (intro w hSw; (try dsimp only at hSw); go_simp; try with_reducible rfl)
        try simp only [Act.put, List.setIfInBounds_toArray, List.set_cons_zero, List.set_cons_succ]
        refine heldStep (i := 9) rfl (by kernel_rfl) (fun K hK => ?_)
        go_simp
        go_at_call 31
        refine HC.out.mono ?_
        rintro e w5 ⟨rfl, hb5⟩
        have hb5w : Below wr.heap.size wr w5 := ((Below.refl wr.heap.size wr).drew).trans hb5
        refine hK.out _ _ (⟨⟨(hb5.cell (p := ⟨g, h * 2, none⟩) HP.out.lt).trans c0.1, (hb5.cell (p := ⟨g, h * 2 + 1, none⟩) HP.out.lt).trans c0.2⟩, (hb5.cell (p := ⟨g, a * 2, none⟩) HP.out.lt).trans c1.1, (hb5.cell (p := ⟨g, a * 2 + 1, none⟩) HP.out.lt).trans c1.2⟩) (fun hHeld => ?_)
        clear hK K
        try simp only [Act.put, List.setIfInBounds_toArray, List.set_cons_zero, List.set_cons_succ]
        refine heldTake (i := 10) (v := ?_) rfl (by kernel_rfl) (by kernel_rfl) (by kernel_rfl) (fun _ _ _ h => h) hHeld (by rfl) ?_ ?_
        rotate_left
        · (intro w hSw; (try dsimp only at hSw); go_simp; try with_reducible rfl)
        try simp only [Act.put, List.setIfInBounds_toArray, List.set_cons_zero, List.set_cons_succ]
        refine wpAnyH_done (by kernel_rfl) ?_ _
        refine NoPanic.normal ?_
        go_wp2
        exact ⟨⟨i, h, rfl, rfl, hmi, by omega, by omega, Hz1.out, Hfin.out, HP.out.below hb5w HP.out.lt, hkb.trans (Kb.of_below hb5w : Kb [] wr w5) (fun b hb => by simp at hb)⟩, by simp [intOf]; omega⟩
    · obtain rfl : i = j := by omega
      obtain ⟨t, ht⟩ : ∃ t, t = i - m := ⟨_, rfl⟩
      rw [← ht] at hz1 hz2
      have htQ : t ≤ Q.length := by have := Hm.out; have := Hb.out; omega
      have hsQ := hs
      rw [← List.take_append_drop t Q] at hsQ
      have hput := put_left (x := x) hsQ hz1 hz2
      rw [List.take_append_drop] at hput
      have Hput := Lib.hid hput
      have hlt' : ¬ (i : Int) < (i : Int) := by omega
      have w2 : IntKind.i64.wrap ((i : Int) - 1) = ((a + t : Nat) : Int) := by have := Ha.out; have := Hm.out; rw [IntWalk.i64_in _ (by omega)]; omega
      obtain ⟨e, he⟩ : ∃ e, e = a + t := ⟨_, rfl⟩
      rw [← he] at w2
      have He := Lib.hid he
      clear hz1 hz2 hsQ hput ht he
      go_wp2
      go_loopw [13] (fun vk wr => ∃ s : Nat, vk = .int .i64 ((a + s : Nat) : Int) ∧ s ≤ t ∧ PrB 42 wr g (U ++ Q.take s ++ x :: (Q.drop s ++ D)) ∧ Kb [g] w wr) (fun vk _ => e - (intOf vk).toNat)
      case atStart => exact ⟨0, rfl, Nat.zero_le _, by simpa using hPr, hkb⟩
      case round =>
        clear hPr hkb
        obtain ⟨s, rfl, hst, hPr, hkb⟩ := hrel
        obtain ⟨k, hk⟩ : ∃ k, k = a + s := ⟨_, rfl⟩
        rw [← hk]
        by_cases hlt2 : s < t
        · have hsQ : s < Q.length := by omega
          obtain ⟨q, hq⟩ : ∃ q, q = Q[s] := ⟨_, rfl⟩
          have dQ : Q.drop s = q :: Q.drop (s + 1) := by rw [hq]; exact List.drop_eq_getElem_cons hsQ
          have tQ : Q.take (s + 1) = Q.take s ++ [q] := by rw [hq]; exact List.take_succ_eq_append_getElem hsQ
          have hlk : (k : Int) < (e : Int) := by have := He.out; omega
          have hrow : U ++ Q.take s ++ x :: (Q.drop s ++ D) = (U ++ Q.take s) ++ x :: ([] ++ q :: (Q.drop (s + 1) ++ D)) := by rw [dQ]; simp
          have hrow2 : (U ++ Q.take s) ++ q :: ([] ++ x :: (Q.drop (s + 1) ++ D)) = U ++ Q.take (s + 1) ++ x :: (Q.drop (s + 1) ++ D) := by rw [tQ]; simp
          rw [hrow] at hPr
          obtain ⟨hfin, c0, c1⟩ := hPr.swapFar (i := k) (j := k + 1) (by rw [List.length_append, List.length_take, Nat.min_eq_left (by omega), hk, Ha.out]) (by simp only [List.length_append, List.length_take, List.length_nil]; rw [Nat.min_eq_left (by omega), hk, Ha.out])
          have z := hPr.frz
          rw [hrow2] at hfin
          have Hfin := Lib.hid hfin
          obtain ⟨k1, k2, k3⟩ := swap_cells (p := k) (r := k + 1) (a1 := .slice q.A1 q.n1 q.c1) (a2 := .slice q.A2 q.n2 q.c2) (b1 := .slice x.A1 x.n1 x.c1) (by omega) c0.1 c0.2 c1.1 c1.2
          have hkn : k + 1 < n := by have := Ha.out; have := Hn.out; omega
          have w4 : IntKind.i64.wrap ((k : Int) + 1) = (k : Int) + 1 := IntWalk.i64_in _ (by omega)
          have w5 : IntKind.i64.wrap (k : Int) = (k : Int) := IntWalk.i64_in _ (by omega)
          have i1 : (0 : Int) ≤ (k : Int) := by omega
          have i2 : (k : Int) < (n : Int) := by omega
          have i3 : (0 : Int) ≤ (k : Int) + 1 := by omega
          have i4 : (k : Int) + 1 < (n : Int) := by omega
          have Hk := Lib.hid hk
          have Hkb := Lib.hid hkb
          clear hPr hrow hrow2 dQ tQ hq hfin hk hsQ hkb
          go_wp2
          have hHeld : (fun W : World => (W.cell? ⟨g, k * 2, none⟩ = some (.slice x.A1 x.n1 x.c1) ∧ W.cell? ⟨g, k * 2 + 1, none⟩ = some (.slice x.A2 x.n2 x.c2)) ∧ W.cell? ⟨g, (k + 1) * 2, none⟩ = some (.slice q.A1 q.n1 q.c1) ∧ W.cell? ⟨g, (k + 1) * 2 + 1, none⟩ = some (.slice q.A2 q.n2 q.c2)) wr.drew := ⟨c0, c1⟩
          refine wp_region_U (S := fun W : World => (W.cell? ⟨g, k * 2, none⟩ = some (.slice x.A1 x.n1 x.c1) ∧ W.cell? ⟨g, k * 2 + 1, none⟩ = some (.slice x.A2 x.n2 x.c2)) ∧ W.cell? ⟨g, (k + 1) * 2, none⟩ = some (.slice q.A1 q.n1 q.c1) ∧ W.cell? ⟨g, (k + 1) * 2 + 1, none⟩ = some (.slice q.A2 q.n2 q.c2)) (ks := [9, 13]) (by kernel_rfl) ?_
          simp only [List.size_toArray, List.length_cons, List.length_nil, Nat.reduceAdd]
          refine uPure (i := 0) (v := ?_) rfl (by kernel_rfl) (by kernel_rfl) (by kernel_rfl) (by kernel_rfl) (fun _ _ _ h => h) (by rfl) ?_ ?_
          rotate_left
          · (intro w; go_simp; try with_reducible rfl)
          try simp only [Act.put, List.setIfInBounds_toArray, List.set_cons_zero, List.set_cons_succ]
          refine uPure (i := 1) (v := ?_) rfl (by kernel_rfl) (by kernel_rfl) (by kernel_rfl) (by kernel_rfl) (fun _ _ _ h => h) (by rfl) ?_ ?_
          rotate_left
          · (intro w; go_simp; try with_reducible rfl)
          try simp only [Act.put, List.setIfInBounds_toArray, List.set_cons_zero, List.set_cons_succ]
          refine uPure (i := 2) (v := ?_) rfl (by kernel_rfl) (by kernel_rfl) (by kernel_rfl) (by kernel_rfl) (fun _ _ _ h => h) (by rfl) ?_ ?_
          rotate_left
          · (intro w; go_simp; try with_reducible rfl)
          try simp only [Act.put, List.setIfInBounds_toArray, List.set_cons_zero, List.set_cons_succ]
          refine uPure (i := 3) (v := ?_) rfl (by kernel_rfl) (by kernel_rfl) (by kernel_rfl) (by kernel_rfl) (fun _ _ _ h => h) (by rfl) ?_ ?_
          rotate_left
          · (intro w; go_simp; try with_reducible rfl)
          try simp only [Act.put, List.setIfInBounds_toArray, List.set_cons_zero, List.set_cons_succ]
          refine uPure (i := 4) (v := ?_) rfl (by kernel_rfl) (by kernel_rfl) (by kernel_rfl) (by kernel_rfl) (fun _ _ _ h => h) (by rfl) ?_ ?_
          rotate_left
          · (intro w; go_simp; try with_reducible rfl)
          try simp only [Act.put, List.setIfInBounds_toArray, List.set_cons_zero, List.set_cons_succ]
          refine uPure (i := 5) (v := ?_) rfl (by kernel_rfl) (by kernel_rfl) (by kernel_rfl) (by kernel_rfl) (fun _ _ _ h => h) (by rfl) ?_ ?_
          rotate_left
          · (intro w; go_simp; try with_reducible rfl)
          try simp only [Act.put, List.setIfInBounds_toArray, List.set_cons_zero, List.set_cons_succ]
          refine uPure (i := 6) (v := ?_) rfl (by kernel_rfl) (by kernel_rfl) (by kernel_rfl) (by kernel_rfl) (fun _ _ _ h => h) (by rfl) ?_ ?_
          rotate_left
          · (intro w; go_simp; try with_reducible rfl)
          try simp only [Act.put, List.setIfInBounds_toArray, List.set_cons_zero, List.set_cons_succ]
          refine uPure (i := 7) (v := ?_) rfl (by kernel_rfl) (by kernel_rfl) (by kernel_rfl) (by kernel_rfl) (fun _ _ _ h => h) (by rfl) ?_ ?_
          rotate_left
          · (intro w; go_simp; try with_reducible rfl)
          try simp only [Act.put, List.setIfInBounds_toArray, List.set_cons_zero, List.set_cons_succ]
          refine uPure (i := 8) (v := ?_) rfl (by kernel_rfl) (by kernel_rfl) (by kernel_rfl) (by kernel_rfl) (fun _ _ _ h => h) (by rfl) ?_ ?_
          rotate_left
          · (intro w; go_simp; try with_reducible rfl)
          try simp only [Act.put, List.setIfInBounds_toArray, List.set_cons_zero, List.set_cons_succ]
          refine uPure (i := 10) (v := ?_) rfl (by kernel_rfl) (by kernel_rfl) (by kernel_rfl) (by kernel_rfl) (fun _ _ _ h => h) (by rfl) ?_ ?_
          rotate_left
          · (intro w; go_simp; try with_reducible rfl)
          try simp only [Act.put, List.setIfInBounds_toArray, List.set_cons_zero, List.set_cons_succ]
          refine uPure (i := 11) (v := ?_) rfl (by kernel_rfl) (by kernel_rfl) (by kernel_rfl) (by kernel_rfl) (fun _ _ _ h => h) (by rfl) ?_ ?_
          rotate_left
          · (intro w; go_simp; try with_reducible rfl)
          try simp only [Act.put, List.setIfInBounds_toArray, List.set_cons_zero, List.set_cons_succ]
          refine uPure (i := 12) (v := ?_) rfl (by kernel_rfl) (by kernel_rfl) (by kernel_rfl) (by kernel_rfl) (fun _ _ _ h => h) (by rfl) ?_ ?_
          rotate_left
          · (intro w; go_simp; try with_reducible rfl)
          try simp only [Act.put, List.setIfInBounds_toArray, List.set_cons_zero, List.set_cons_succ]
          refine uTake (i := 9) (v := ?_) rfl (by kernel_rfl) (by kernel_rfl) (by kernel_rfl) (by kernel_rfl) (fun _ _ _ h => h) hHeld (by rfl) ?_ ?_
          rotate_left
          · (intro w hSw; (try dsimp only at hSw); go_simp; try with_reducible rfl)
          try simp only [Act.put, List.setIfInBounds_toArray, List.set_cons_zero, List.set_cons_succ]
          refine uTake (i := 13) (v := ?_) rfl (by kernel_rfl) (by kernel_rfl) (by kernel_rfl) (by kernel_rfl) (fun _ _ _ h => h) hHeld (by rfl) ?_ ?_
          rotate_left
          · (intro w hSw; (try dsimp only at hSw); go_simp; try with_reducible rfl)
          try simp only [Act.put, List.setIfInBounds_toArray, List.set_cons_zero, List.set_cons_succ]
          refine uPure (i := 14) (v := ?_) rfl (by kernel_rfl) (by kernel_rfl) (by kernel_rfl) (by kernel_rfl) (fun _ _ _ h => h) (by rfl) ?_ ?_
          rotate_left
          · (intro w; go_simp; try with_reducible rfl)
          try simp only [Act.put, List.setIfInBounds_toArray, List.set_cons_zero, List.set_cons_succ]
          refine uStep (i := 15) rfl (by kernel_rfl) (fun K hK => ?_)
          go_simp
          refine hK.out _ _ (fun h => absurd h (by decide)) ?_
          clear hK K
          try simp only [Act.put, List.setIfInBounds_toArray, List.set_cons_zero, List.set_cons_succ]
          refine uPure (i := 16) (v := ?_) rfl (by kernel_rfl) (by kernel_rfl) (by kernel_rfl) (by kernel_rfl) (fun _ _ _ h => h) (by rfl) ?_ ?_
          rotate_left
          · (intro w; go_simp; try with_reducible rfl)
          try simp only [Act.put, List.setIfInBounds_toArray, List.set_cons_zero, List.set_cons_succ]
          refine uStep (i := 17) rfl (by kernel_rfl) (fun K hK => ?_)
          go_simp
          refine hK.out _ _ (fun h => absurd h (by decide)) ?_
          clear hK K
          try simp only [Act.put, List.setIfInBounds_toArray, List.set_cons_zero, List.set_cons_succ]
          refine uDone (by kernel_rfl) ?_ _
          go_wp2
          refine ⟨⟨s + 1, by rw [show a + (s + 1) = k + 1 from by have := Hk.out; omega]; go_num, by omega, Hfin.out.drew, ((((Hkb.out.setCell (p := ⟨g, k * 2, none⟩) (.inl (by simp)) _).setCell (p := ⟨g, k * 2 + 1, none⟩) (.inl (by simp)) _).setCell (p := ⟨g, (k + 1) * 2, none⟩) (.inl (by simp)) _).setCell (p := ⟨g, (k + 1) * 2 + 1, none⟩) (.inl (by simp)) _).drew⟩, ?_⟩
          simp [intOf]; omega
        · obtain rfl : s = t := by omega
          have hlk : ¬ (k : Int) < (e : Int) := by have := He.out; omega
          have hfin : PrB 42 wr g (U ++ (Q.take s ++ x :: Q.drop s) ++ D) := by simpa only [List.append_assoc, List.cons_append] using hPr
          clear hPr hk
          go_wp2
          refine bodyPost_ret (results_none rfl _ _ _) rfl ?_
          exact ⟨rfl, _, hfin, Hput.out.1, Hput.out.2, hkb⟩
end Go.Proofs.Ytjkjlekfeelfpaa
