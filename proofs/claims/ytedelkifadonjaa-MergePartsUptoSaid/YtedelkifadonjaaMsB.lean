/- Layer 23: the insertion sort. -/
import Derived.Test.YtedelkifadonjaaMsA
import Derived.Test.YtedelkifadonjaaBlPlain
namespace Go.Proofs.Ytedelkifadonjaa
open Go.RowKit Go.Lec Go.Op
/-- What a sorted stretch is. -/
def SrtP (w : World) (g : Nat) (U M D : List Pr) (e : Ending) (w' : World) : Prop :=
  e = .returned (.tuple #[]) ∧ ∃ S, PrB 56 w' g (U ++ S ++ D) ∧ Stb Pr.key M S ∧ SrtK Pr.key S ∧ Kb [g] w w'
theorem pr_mem {L L' : List Pr} (h : Stb Pr.key L L') {U D : List Pr} : ∀ m ∈ U ++ L' ++ D, m ∈ U ++ L ++ D := fun m hm => by
  simp only [List.mem_append] at hm ⊢
  rcases hm with (hm | hm) | hm
  · exact .inl (.inl hm)
  · exact .inl (.inr (h.mem.1 hm))
  · exact .inr hm
set_option maxRecDepth 100000 in
set_option maxHeartbeats 4000000 in
theorem c_ins (w : World) {g n c : Nat} {U M D : List Pr} (hP : PrB 56 w g (U ++ M ++ D)) (hok : PrOk w g (U ++ M ++ D)) (hn : U.length + M.length + D.length = n) (hnc : n ≤ c) (hn2 : n ≤ 100000) :
    Calls Try.prog 65 #[.slice (some ⟨g, 0, none⟩) n c, .int .i64 (U.length : Int), .int .i64 ((U.length + M.length : Nat) : Int), .func (.func 37) #[] #[]] w (SrtP w g U M D) := by
  obtain ⟨a, ha⟩ : ∃ a, a = U.length := ⟨_, rfl⟩
  obtain ⟨b, hb⟩ : ∃ b, b = U.length + M.length := ⟨_, rfl⟩
  rw [← hb, ← ha]
  have Ha := Lib.hid ha
  have Hb := Lib.hid hb
  have HOk := Lib.hid (fun (W : World) (hk : Kb [g] w W) => hok.kb hk)
  have Hn := Lib.hid hn
  have hba : b ≤ n := by omega
  have hab : a ≤ b := by omega
  clear ha hb hok hn
  go_enter Try.func65, Try.ntmps65
  go_wp2
  go_loopw [8] (fun i wr => ∃ (k : Nat) (S : List Pr), i = .int .i64 ((a + k : Nat) : Int) ∧ 1 ≤ k ∧ (k ≤ M.length ∨ M = []) ∧ PrB 56 wr g (U ++ S ++ (M.drop k ++ D)) ∧ Stb Pr.key (M.take k) S ∧ SrtK Pr.key S ∧ Kb [g] w wr) (fun i _ => b - (intOf i).toNat)
  case atStart => exact ⟨1, M.take 1, by go_num, Nat.le_refl _, by cases M <;> simp, by rw [List.append_assoc, ← List.append_assoc (M.take 1), List.take_append_drop, ← List.append_assoc]; exact hP, Stb.refl _, by cases M <;> simp [SrtK], Kb.refl _ _⟩
  case round =>
    obtain ⟨k, S, rfl, hk1, hkM, hPr, hst, hsr, hkb⟩ := hrel
    clear hP
    by_cases hlt : a + k < b
    · have hkl : k < M.length := by have := Ha.out; have := Hb.out; omega
      obtain ⟨x, hx⟩ : ∃ x, x = M[k] := ⟨_, rfl⟩
      have hdr : M.drop k = x :: M.drop (k + 1) := by rw [hx]; exact List.drop_eq_getElem_cons hkl
      have htk : M.take (k + 1) = M.take k ++ [x] := by rw [hx]; exact List.take_succ_eq_append_getElem hkl
      have hSl : S.length = k := by rw [hst.length, List.length_take]; omega
      obtain ⟨R, hR⟩ : ∃ R, R = M.drop (k + 1) ++ D := ⟨_, rfl⟩
      rw [hdr, List.cons_append, ← hR] at hPr
      have HR := Lib.hid hR
      have Htk := Lib.hid htk
      have HSl := Lib.hid hSl
      have hxm : x ∈ M := by rw [hx]; exact List.getElem_mem hkl
      have HNx := Lib.hid (show ∀ (V1 V2 : List Pr) (W : World), S = V1 ++ V2 → (∀ y ∈ V2, bytesLess x.key y.key = true) → (∀ z, V1.getLast? = some z → bytesLess x.key z.key = false) → PrB 56 W g (U ++ V1 ++ x :: (V2 ++ R)) →
          PrB 56 W g (U ++ (V1 ++ x :: V2) ++ (M.drop (k + 1) ++ D)) ∧ Stb Pr.key (M.take (k + 1)) (V1 ++ x :: V2) ∧ SrtK Pr.key (V1 ++ x :: V2) from fun V1 V2 W h1 h2 h3 h4 => by
        subst h1
        obtain ⟨p1, p2⟩ := put_right (x := x) hsr h3 (fun y hy => h2 y (List.mem_of_mem_head? hy))
        refine ⟨by rw [← hR]; simpa only [List.append_assoc, List.cons_append] using h4, ?_, p2⟩
        rw [htk]
        exact (hst.app (Stb.refl [x])).trans p1)
      clear hdr htk hSl hR hx
      have hlt' : ((a + k : Nat) : Int) < (b : Int) := by omega
      go_wp2
      go_loopw [9] (fun j wr => ∃ V1 V2 : List Pr, j = .int .i64 ((a + V1.length : Nat) : Int) ∧ S = V1 ++ V2 ∧ (∀ y ∈ V2, bytesLess x.key y.key = true) ∧ PrB 56 wr g (U ++ V1 ++ x :: (V2 ++ R)) ∧ Kb [g] w wr) (fun j _ => (intOf j).toNat)
      case atStart => exact ⟨S, [], by rw [HSl.out], by simp, (fun y hy => by cases hy), by simpa using hPr, hkb⟩
      case round =>
        obtain ⟨V1, V2, rfl, hSv, hV2, hPv, hkv⟩ := hrel
        have HSv := Lib.hid hSv
        clear hPr hSv
        have hV1 : V1 = [] ∨ ∃ V y, V1 = V ++ [y] := by
          rcases List.eq_nil_or_concat V1 with h | ⟨V, y, h⟩
          · exact .inl h
          · exact .inr ⟨V, y, by simpa using h⟩
        rcases hV1 with rfl | ⟨V, y, rfl⟩
        · have hg : decide ((a : Int) < (a : Int)) = false := by simp
          simp only [List.length_nil, Nat.add_zero]
          go_wp2
          have hHeld : (fun W : World => True) wr.drew := trivial
          refine wp_region_noPanic ?_
          refine wp_region_held (S := fun W : World => True) (by kernel_rfl) ?_
          simp only [List.size_toArray, List.length_cons, List.length_nil, Nat.reduceAdd]
          refine heldTake (i := 0) (v := ?_) rfl (by kernel_rfl) (by kernel_rfl) (by kernel_rfl) (fun _ _ _ h => h) hHeld (by rfl) ?_ ?_
          rotate_left
          · (intro w hSw; (try dsimp only at hSw); go_simp; try with_reducible rfl)
          try simp only [Act.put, List.setIfInBounds_toArray, List.set_cons_zero, List.set_cons_succ]
          refine heldTake (i := 1) (v := ?_) rfl (by kernel_rfl) (by kernel_rfl) (by kernel_rfl) (fun _ _ _ h => h) hHeld (by rfl) ?_ ?_
          rotate_left
          · (intro w hSw; (try dsimp only at hSw); go_simp; try with_reducible rfl)
          try simp only [Act.put, List.setIfInBounds_toArray, List.set_cons_zero, List.set_cons_succ]
          refine heldTake (i := 2) (v := ?_) rfl (by kernel_rfl) (by kernel_rfl) (by kernel_rfl) (fun _ _ _ h => h) hHeld (by rfl) ?_ ?_
          rotate_left
          · (intro w hSw; (try dsimp only at hSw); go_simp; try with_reducible rfl)
          try simp only [Act.put, List.setIfInBounds_toArray, List.set_cons_zero, List.set_cons_succ]
          refine heldTake (i := 3) (v := ?_) rfl (by kernel_rfl) (by kernel_rfl) (by kernel_rfl) (fun _ _ _ h => h) hHeld (by rfl) ?_ ?_
          rotate_left
          · (intro w hSw; (try dsimp only at hSw); go_simp; try with_reducible rfl)
          try simp only [Act.put, List.setIfInBounds_toArray, List.set_cons_zero, List.set_cons_succ]
          refine heldPass (i := 4) rfl (by kernel_rfl) (by kernel_rfl) (by kernel_rfl) (fun _ _ _ h => h) hHeld (by rfl) ?_
          try simp only [Act.put, List.setIfInBounds_toArray, List.set_cons_zero, List.set_cons_succ]
          refine heldPass (i := 5) rfl (by kernel_rfl) (by kernel_rfl) (by kernel_rfl) (fun _ _ _ h => h) hHeld (by rfl) ?_
          try simp only [Act.put, List.setIfInBounds_toArray, List.set_cons_zero, List.set_cons_succ]
          refine heldPass (i := 6) rfl (by kernel_rfl) (by kernel_rfl) (by kernel_rfl) (fun _ _ _ h => h) hHeld (by rfl) ?_
          try simp only [Act.put, List.setIfInBounds_toArray, List.set_cons_zero, List.set_cons_succ]
          refine heldPass (i := 7) rfl (by kernel_rfl) (by kernel_rfl) (by kernel_rfl) (fun _ _ _ h => h) hHeld (by rfl) ?_
          try simp only [Act.put, List.setIfInBounds_toArray, List.set_cons_zero, List.set_cons_succ]
          refine heldPass (i := 8) rfl (by kernel_rfl) (by kernel_rfl) (by kernel_rfl) (fun _ _ _ h => h) hHeld (by rfl) ?_
          try simp only [Act.put, List.setIfInBounds_toArray, List.set_cons_zero, List.set_cons_succ]
          refine heldPass (i := 9) rfl (by kernel_rfl) (by kernel_rfl) (by kernel_rfl) (fun _ _ _ h => h) hHeld (by rfl) ?_
          try simp only [Act.put, List.setIfInBounds_toArray, List.set_cons_zero, List.set_cons_succ]
          refine heldPass (i := 10) rfl (by kernel_rfl) (by kernel_rfl) (by kernel_rfl) (fun _ _ _ h => h) hHeld (by rfl) ?_
          try simp only [Act.put, List.setIfInBounds_toArray, List.set_cons_zero, List.set_cons_succ]
          refine heldPass (i := 11) rfl (by kernel_rfl) (by kernel_rfl) (by kernel_rfl) (fun _ _ _ h => h) hHeld (by rfl) ?_
          try simp only [Act.put, List.setIfInBounds_toArray, List.set_cons_zero, List.set_cons_succ]
          refine heldPass (i := 12) rfl (by kernel_rfl) (by kernel_rfl) (by kernel_rfl) (fun _ _ _ h => h) hHeld (by rfl) ?_
          try simp only [Act.put, List.setIfInBounds_toArray, List.set_cons_zero, List.set_cons_succ]
          refine heldPass (i := 13) rfl (by kernel_rfl) (by kernel_rfl) (by kernel_rfl) (fun _ _ _ h => h) hHeld (by rfl) ?_
          try simp only [Act.put, List.setIfInBounds_toArray, List.set_cons_zero, List.set_cons_succ]
          refine heldPass (i := 14) rfl (by kernel_rfl) (by kernel_rfl) (by kernel_rfl) (fun _ _ _ h => h) hHeld (by rfl) ?_
          try simp only [Act.put, List.setIfInBounds_toArray, List.set_cons_zero, List.set_cons_succ]
          refine heldPass (i := 15) rfl (by kernel_rfl) (by kernel_rfl) (by kernel_rfl) (fun _ _ _ h => h) hHeld (by rfl) ?_
          try simp only [Act.put, List.setIfInBounds_toArray, List.set_cons_zero, List.set_cons_succ]
          refine heldTake (i := 16) (v := ?_) rfl (by kernel_rfl) (by kernel_rfl) (by kernel_rfl) (fun _ _ _ h => h) hHeld (by rfl) ?_ ?_
          rotate_left
          · (intro w hSw; (try dsimp only at hSw); go_simp; try with_reducible rfl)
          try simp only [Act.put, List.setIfInBounds_toArray, List.set_cons_zero, List.set_cons_succ]
          refine wpAnyH_done (by kernel_rfl) ?_ _
          refine NoPanic.normal ?_
          go_wp2
          obtain ⟨n1, n2, n3⟩ := HNx.out [] V2 _ HSv.out hV2 (fun z hz => by cases hz) hPv
          exact ⟨⟨k + 1, _, by go_num, by omega, .inl (by omega), n1, n2, n3, hkv.drew⟩, by simp [intOf]; omega⟩
        · have hPw : PrB 56 wr g (U ++ V ++ y :: x :: (V2 ++ R)) := by simpa only [List.append_assoc, List.cons_append, List.singleton_append, List.nil_append] using hPv
          have hl0 : (U ++ V).length = a + V.length := by rw [List.length_append, Ha.out]
          have hl1 : (U ++ V).length + 1 < (U ++ V ++ y :: x :: (V2 ++ R)).length := by simp only [List.length_append, List.length_cons]; omega
          have hl2 : (U ++ V).length < (U ++ V ++ y :: x :: (V2 ++ R)).length := by simp only [List.length_append, List.length_cons]; omega
          have e1 : (U ++ V ++ y :: x :: (V2 ++ R))[(U ++ V).length] = y := by simp
          have e2 : (U ++ V ++ y :: x :: (V2 ++ R))[(U ++ V).length + 1] = x := by rw [List.getElem_append_right (by omega)]; simp
          have cy := hPw.cell hl2
          have cx := hPw.cell hl1
          have hsw : ∀ W : World, PrB 56 W g (U ++ V ++ y :: x :: (V2 ++ R)) → PrB 56 ((((W.setCell ⟨g, ((U ++ V).length + 1) * 2, none⟩ (.slice y.A1 y.n1 y.c1)).setCell ⟨g, ((U ++ V).length + 1) * 2 + 1, none⟩ (.slice y.A2 y.n2 y.c2)).setCell ⟨g, (U ++ V).length * 2, none⟩ (.slice x.A1 x.n1 x.c1)).setCell ⟨g, (U ++ V).length * 2 + 1, none⟩ (.slice x.A2 x.n2 x.c2)) g (U ++ V ++ x :: y :: (V2 ++ R)) := fun W hW => by
            have := hW.swap hl1 hl2
            rw [swp_next, e1, e2] at this
            exact this
          rw [e1] at cy
          rw [e2] at cx
          have hlen : (U ++ V).length + 1 < n := by
            have h1 := congrArg List.length HSv.out
            rw [HSl.out] at h1
            simp only [List.length_append, List.length_cons, List.length_nil] at h1 ⊢
            have := Hn.out
            omega
          have hmx := HOk.out wr hkv
          have hxo := hmx x (by simp [hxm])
          have hyM : y ∈ M := by
            have h1 : y ∈ S := by rw [HSv.out]; simp
            exact List.mem_of_mem_take ((hst.mem).1 h1)
          have hyo := hmx y (by simp [hyM])
          obtain ⟨q, hq⟩ : ∃ q, q = (U ++ V).length := ⟨_, rfl⟩
          rw [← hq] at cy cx hsw hlen hl0
          have hjq : a + (V ++ [y]).length = q + 1 := by rw [List.length_append, List.length_singleton]; omega
          rw [hjq]
          have hqa : (a : Int) < ((q : Int) + 1) := by omega
          have Hl0 := Lib.hid hl0
          have HC := Lib.hid (c_cmp wr.drew hxo.1 hyo.1 (Nat.le_refl _) (Nat.le_refl _))
          have HPw := Lib.hid hPw
          have HPv := Lib.hid hPv
          have Hsw := Lib.hid hsw
          have HxO := Lib.hid hxo
          have q0 : (0 : Int) ≤ (q : Int) := by omega
          have q1 : (q : Int) < (n : Int) := by omega
          have q2 : (q : Int) + 1 < (n : Int) := by omega
          have q3 : (0 : Int) ≤ (q : Int) + 1 := by omega
          have w0 : IntKind.i64.wrap (q : Int) = (q : Int) := IntWalk.i64_in _ (by omega)
          have w1' : IntKind.i64.wrap ((q : Int) + 1) = (q : Int) + 1 := IntWalk.i64_in _ (by omega)
          clear e1 e2 hl1 hl2 hPv hPw hjq hq hsw hl0 hmx hxo hyo
          have hz := cmp_neg x.key y.key
          obtain ⟨z, hzz⟩ : ∃ z, z = Lib.compareBytes x.key y.key := ⟨_, rfl⟩
          rw [← hzz] at HC hz
          clear hzz
          cases hlc : bytesLess x.key y.key with
          | true =>
            have hz1 : z < 0 := hz.2 hlc
            have Hlc := Lib.hid hlc
            clear hz hlc
            unfold Pr.val at HC
            go_wp2
            have hHeld : (fun W : World => (W.cell? ⟨g, q * 2, none⟩ = some (.slice y.A1 y.n1 y.c1) ∧ W.cell? ⟨g, q * 2 + 1, none⟩ = some (.slice y.A2 y.n2 y.c2)) ∧ W.cell? ⟨g, (q + 1) * 2, none⟩ = some (.slice x.A1 x.n1 x.c1) ∧ W.cell? ⟨g, (q + 1) * 2 + 1, none⟩ = some (.slice x.A2 x.n2 x.c2)) wr.drew := ⟨cy, cx⟩
            refine wp_region_noPanic ?_
            refine wp_region_held (S := fun W : World => (W.cell? ⟨g, q * 2, none⟩ = some (.slice y.A1 y.n1 y.c1) ∧ W.cell? ⟨g, q * 2 + 1, none⟩ = some (.slice y.A2 y.n2 y.c2)) ∧ W.cell? ⟨g, (q + 1) * 2, none⟩ = some (.slice x.A1 x.n1 x.c1) ∧ W.cell? ⟨g, (q + 1) * 2 + 1, none⟩ = some (.slice x.A2 x.n2 x.c2)) (by kernel_rfl) ?_
            simp only [List.size_toArray, List.length_cons, List.length_nil, Nat.reduceAdd]
            refine heldTake (i := 0) (v := ?_) rfl (by kernel_rfl) (by kernel_rfl) (by kernel_rfl) (fun _ _ _ h => h) hHeld (by rfl) ?_ ?_
            rotate_left
            · (intro w hSw; (try dsimp only at hSw); go_simp; try with_reducible rfl)
            try simp only [Act.put, List.setIfInBounds_toArray, List.set_cons_zero, List.set_cons_succ]
            refine heldTake (i := 1) (v := ?_) rfl (by kernel_rfl) (by kernel_rfl) (by kernel_rfl) (fun _ _ _ h => h) hHeld (by rfl) ?_ ?_
            rotate_left
            · (intro w hSw; (try dsimp only at hSw); go_simp; try with_reducible rfl)
            try simp only [Act.put, List.setIfInBounds_toArray, List.set_cons_zero, List.set_cons_succ]
            refine heldTake (i := 2) (v := ?_) rfl (by kernel_rfl) (by kernel_rfl) (by kernel_rfl) (fun _ _ _ h => h) hHeld (by rfl) ?_ ?_
            rotate_left
            · (intro w hSw; (try dsimp only at hSw); go_simp; try with_reducible rfl)
            try simp only [Act.put, List.setIfInBounds_toArray, List.set_cons_zero, List.set_cons_succ]
            refine heldTake (i := 3) (v := ?_) rfl (by kernel_rfl) (by kernel_rfl) (by kernel_rfl) (fun _ _ _ h => h) hHeld (by rfl) ?_ ?_
            rotate_left
            · (intro w hSw; (try dsimp only at hSw); go_simp; try with_reducible rfl)
            try simp only [Act.put, List.setIfInBounds_toArray, List.set_cons_zero, List.set_cons_succ]
            refine heldTake (i := 4) (v := ?_) rfl (by kernel_rfl) (by kernel_rfl) (by kernel_rfl) (fun _ _ _ h => h) hHeld (by rfl) ?_ ?_
            rotate_left
            · (intro w hSw; (try dsimp only at hSw); go_simp; try with_reducible rfl)
            try simp only [Act.put, List.setIfInBounds_toArray, List.set_cons_zero, List.set_cons_succ]
            refine heldTake (i := 5) (v := ?_) rfl (by kernel_rfl) (by kernel_rfl) (by kernel_rfl) (fun _ _ _ h => h) hHeld (by rfl) ?_ ?_
            rotate_left
            · (intro w hSw; (try dsimp only at hSw); go_simp; try with_reducible rfl)
            try simp only [Act.put, List.setIfInBounds_toArray, List.set_cons_zero, List.set_cons_succ]
            refine heldTake (i := 6) (v := ?_) rfl (by kernel_rfl) (by kernel_rfl) (by kernel_rfl) (fun _ _ _ h => h) hHeld (by rfl) ?_ ?_
            rotate_left
            · (intro w hSw; (try dsimp only at hSw); go_simp; try with_reducible rfl)
            try simp only [Act.put, List.setIfInBounds_toArray, List.set_cons_zero, List.set_cons_succ]
            refine heldTake (i := 7) (v := ?_) rfl (by kernel_rfl) (by kernel_rfl) (by kernel_rfl) (fun _ _ _ h => h) hHeld (by rfl) ?_ ?_
            rotate_left
            · (intro w hSw; (try dsimp only at hSw); go_simp; try with_reducible rfl)
            try simp only [Act.put, List.setIfInBounds_toArray, List.set_cons_zero, List.set_cons_succ]
            refine heldTake (i := 8) (v := ?_) rfl (by kernel_rfl) (by kernel_rfl) (by kernel_rfl) (fun _ _ _ h => h) hHeld (by rfl) ?_ ?_
            rotate_left
            · (intro w hSw; (try dsimp only at hSw); go_simp; try with_reducible rfl)
            try simp only [Act.put, List.setIfInBounds_toArray, List.set_cons_zero, List.set_cons_succ]
            refine heldTake (i := 9) (v := ?_) rfl (by kernel_rfl) (by kernel_rfl) (by kernel_rfl) (fun _ _ _ h => h) hHeld (by rfl) ?_ ?_
            rotate_left
            · (intro w hSw; (try dsimp only at hSw); go_simp; try with_reducible rfl)
            try simp only [Act.put, List.setIfInBounds_toArray, List.set_cons_zero, List.set_cons_succ]
            refine heldTake (i := 10) (v := ?_) rfl (by kernel_rfl) (by kernel_rfl) (by kernel_rfl) (fun _ _ _ h => h) hHeld (by rfl) ?_ ?_
            rotate_left
            · (intro w hSw; (try dsimp only at hSw); go_simp; try with_reducible rfl)
            try simp only [Act.put, List.setIfInBounds_toArray, List.set_cons_zero, List.set_cons_succ]
            refine heldTake (i := 11) (v := ?_) rfl (by kernel_rfl) (by kernel_rfl) (by kernel_rfl) (fun _ _ _ h => h) hHeld (by rfl) ?_ ?_
            rotate_left
            · (intro w hSw; (try dsimp only at hSw); go_simp; try with_reducible rfl)
            try simp only [Act.put, List.setIfInBounds_toArray, List.set_cons_zero, List.set_cons_succ]
            refine heldTake (i := 12) (v := ?_) rfl (by kernel_rfl) (by kernel_rfl) (by kernel_rfl) (fun _ _ _ h => h) hHeld (by rfl) ?_ ?_
            rotate_left
            · (intro w hSw; (try dsimp only at hSw); go_simp; try with_reducible rfl)
            try simp only [Act.put, List.setIfInBounds_toArray, List.set_cons_zero, List.set_cons_succ]
            refine heldTake (i := 13) (v := ?_) rfl (by kernel_rfl) (by kernel_rfl) (by kernel_rfl) (fun _ _ _ h => h) hHeld (by rfl) ?_ ?_
            rotate_left
            · (intro w hSw; (try dsimp only at hSw); go_simp; try with_reducible rfl)
            try simp only [Act.put, List.setIfInBounds_toArray, List.set_cons_zero, List.set_cons_succ]
            refine heldStep (i := 14) rfl (by kernel_rfl) (fun K hK => ?_)
            go_simp
            go_at_call 37
            refine HC.out.mono ?_
            rintro e w5 ⟨rfl, hb5⟩
            have hb5w : Below wr.heap.size wr w5 := ((Below.refl wr.heap.size wr).drew).trans hb5
            refine hK.out _ _ (⟨⟨(hb5.cell (p := ⟨g, q * 2, none⟩) HPw.out.lt).trans cy.1, (hb5.cell (p := ⟨g, q * 2 + 1, none⟩) HPw.out.lt).trans cy.2⟩, (hb5.cell (p := ⟨g, (q + 1) * 2, none⟩) HPw.out.lt).trans cx.1, (hb5.cell (p := ⟨g, (q + 1) * 2 + 1, none⟩) HPw.out.lt).trans cx.2⟩) (fun hHeld => ?_)
            clear hK K
            try simp only [Act.put, List.setIfInBounds_toArray, List.set_cons_zero, List.set_cons_succ]
            refine heldTake (i := 15) (v := ?_) rfl (by kernel_rfl) (by kernel_rfl) (by kernel_rfl) (fun _ _ _ h => h) hHeld (by rfl) ?_ ?_
            rotate_left
            · (intro w hSw; (try dsimp only at hSw); go_simp; try with_reducible rfl)
            try simp only [Act.put, List.setIfInBounds_toArray, List.set_cons_zero, List.set_cons_succ]
            refine heldTake (i := 16) (v := ?_) rfl (by kernel_rfl) (by kernel_rfl) (by kernel_rfl) (fun _ _ _ h => h) hHeld (by rfl) ?_ ?_
            rotate_left
            · (intro w hSw; (try dsimp only at hSw); go_simp; try with_reducible rfl)
            try simp only [Act.put, List.setIfInBounds_toArray, List.set_cons_zero, List.set_cons_succ]
            refine wpAnyH_done (by kernel_rfl) ?_ _
            refine NoPanic.normal ?_
            have hP5 := HPw.out.below hb5w HPw.out.lt
            have z5 := hP5.frz
            obtain ⟨k1, k2, k3⟩ := swap_cells (p := q + 1) (r := q) (a1 := .slice y.A1 y.n1 y.c1) (a2 := .slice y.A2 y.n2 y.c2) (b1 := .slice x.A1 x.n1 x.c1) (by omega) hHeld.2.1 hHeld.2.2 hHeld.1.1 hHeld.1.2
            go_wp2
            have hHeld5 : (fun W : World => (W.cell? ⟨g, q * 2, none⟩ = some (.slice y.A1 y.n1 y.c1) ∧ W.cell? ⟨g, q * 2 + 1, none⟩ = some (.slice y.A2 y.n2 y.c2)) ∧ W.cell? ⟨g, (q + 1) * 2, none⟩ = some (.slice x.A1 x.n1 x.c1) ∧ W.cell? ⟨g, (q + 1) * 2 + 1, none⟩ = some (.slice x.A2 x.n2 x.c2)) w5.drew := hHeld
            clear hHeld
            have hHeld := hHeld5
            clear hHeld5
            refine wp_region_U (S := fun W : World => (W.cell? ⟨g, q * 2, none⟩ = some (.slice y.A1 y.n1 y.c1) ∧ W.cell? ⟨g, q * 2 + 1, none⟩ = some (.slice y.A2 y.n2 y.c2)) ∧ W.cell? ⟨g, (q + 1) * 2, none⟩ = some (.slice x.A1 x.n1 x.c1) ∧ W.cell? ⟨g, (q + 1) * 2 + 1, none⟩ = some (.slice x.A2 x.n2 x.c2)) (ks := [9, 13]) (by kernel_rfl) ?_
            simp only [List.size_toArray, List.length_cons, List.length_nil, Nat.reduceAdd]
            refine uPure (i := 0) (v := ?_) rfl (by kernel_rfl) (by kernel_rfl) (by kernel_rfl) (by kernel_rfl) (fun _ _ _ h => h) (by rfl) ?_ ?_
            rotate_left
            · (intro w; go_simp; try with_reducible rfl)
            try simp only [Act.put, List.setIfInBounds_toArray, List.set_cons_zero, List.set_cons_succ]
            refine uPure (i := 1) (v := ?_) rfl (by kernel_rfl) (by kernel_rfl) (by kernel_rfl) (by kernel_rfl) (fun _ _ _ h => h) (by rfl) ?_ ?_
            rotate_left
            · (intro w; go_simp; try with_reducible rfl)
            try simp only [Act.put, List.setIfInBounds_toArray, List.set_cons_zero, List.set_cons_succ]
            refine uPure (i := 2) (v := ?_) rfl (by kernel_rfl) (by kernel_rfl) (by kernel_rfl) (by kernel_rfl) (fun _ _ _ h => h) (by rfl) ?_ ?_
            rotate_left
            · (intro w; go_simp; try with_reducible rfl)
            try simp only [Act.put, List.setIfInBounds_toArray, List.set_cons_zero, List.set_cons_succ]
            refine uPure (i := 3) (v := ?_) rfl (by kernel_rfl) (by kernel_rfl) (by kernel_rfl) (by kernel_rfl) (fun _ _ _ h => h) (by rfl) ?_ ?_
            rotate_left
            · (intro w; go_simp; try with_reducible rfl)
            try simp only [Act.put, List.setIfInBounds_toArray, List.set_cons_zero, List.set_cons_succ]
            refine uPure (i := 4) (v := ?_) rfl (by kernel_rfl) (by kernel_rfl) (by kernel_rfl) (by kernel_rfl) (fun _ _ _ h => h) (by rfl) ?_ ?_
            rotate_left
            · (intro w; go_simp; try with_reducible rfl)
            try simp only [Act.put, List.setIfInBounds_toArray, List.set_cons_zero, List.set_cons_succ]
            refine uPure (i := 5) (v := ?_) rfl (by kernel_rfl) (by kernel_rfl) (by kernel_rfl) (by kernel_rfl) (fun _ _ _ h => h) (by rfl) ?_ ?_
            rotate_left
            · (intro w; go_simp; try with_reducible rfl)
            try simp only [Act.put, List.setIfInBounds_toArray, List.set_cons_zero, List.set_cons_succ]
            refine uPure (i := 6) (v := ?_) rfl (by kernel_rfl) (by kernel_rfl) (by kernel_rfl) (by kernel_rfl) (fun _ _ _ h => h) (by rfl) ?_ ?_
            rotate_left
            · (intro w; go_simp; try with_reducible rfl)
            try simp only [Act.put, List.setIfInBounds_toArray, List.set_cons_zero, List.set_cons_succ]
            refine uPure (i := 7) (v := ?_) rfl (by kernel_rfl) (by kernel_rfl) (by kernel_rfl) (by kernel_rfl) (fun _ _ _ h => h) (by rfl) ?_ ?_
            rotate_left
            · (intro w; go_simp; try with_reducible rfl)
            try simp only [Act.put, List.setIfInBounds_toArray, List.set_cons_zero, List.set_cons_succ]
            refine uPure (i := 8) (v := ?_) rfl (by kernel_rfl) (by kernel_rfl) (by kernel_rfl) (by kernel_rfl) (fun _ _ _ h => h) (by rfl) ?_ ?_
            rotate_left
            · (intro w; go_simp; try with_reducible rfl)
            try simp only [Act.put, List.setIfInBounds_toArray, List.set_cons_zero, List.set_cons_succ]
            refine uPure (i := 10) (v := ?_) rfl (by kernel_rfl) (by kernel_rfl) (by kernel_rfl) (by kernel_rfl) (fun _ _ _ h => h) (by rfl) ?_ ?_
            rotate_left
            · (intro w; go_simp; try with_reducible rfl)
            try simp only [Act.put, List.setIfInBounds_toArray, List.set_cons_zero, List.set_cons_succ]
            refine uPure (i := 11) (v := ?_) rfl (by kernel_rfl) (by kernel_rfl) (by kernel_rfl) (by kernel_rfl) (fun _ _ _ h => h) (by rfl) ?_ ?_
            rotate_left
            · (intro w; go_simp; try with_reducible rfl)
            try simp only [Act.put, List.setIfInBounds_toArray, List.set_cons_zero, List.set_cons_succ]
            refine uPure (i := 12) (v := ?_) rfl (by kernel_rfl) (by kernel_rfl) (by kernel_rfl) (by kernel_rfl) (fun _ _ _ h => h) (by rfl) ?_ ?_
            rotate_left
            · (intro w; go_simp; try with_reducible rfl)
            try simp only [Act.put, List.setIfInBounds_toArray, List.set_cons_zero, List.set_cons_succ]
            refine uTake (i := 9) (v := ?_) rfl (by kernel_rfl) (by kernel_rfl) (by kernel_rfl) (by kernel_rfl) (fun _ _ _ h => h) hHeld (by rfl) ?_ ?_
            rotate_left
            · (intro w hSw; (try dsimp only at hSw); go_simp; try with_reducible rfl)
            try simp only [Act.put, List.setIfInBounds_toArray, List.set_cons_zero, List.set_cons_succ]
            refine uTake (i := 13) (v := ?_) rfl (by kernel_rfl) (by kernel_rfl) (by kernel_rfl) (by kernel_rfl) (fun _ _ _ h => h) hHeld (by rfl) ?_ ?_
            rotate_left
            · (intro w hSw; (try dsimp only at hSw); go_simp; try with_reducible rfl)
            try simp only [Act.put, List.setIfInBounds_toArray, List.set_cons_zero, List.set_cons_succ]
            refine uPure (i := 14) (v := ?_) rfl (by kernel_rfl) (by kernel_rfl) (by kernel_rfl) (by kernel_rfl) (fun _ _ _ h => h) (by rfl) ?_ ?_
            rotate_left
            · (intro w; go_simp; try with_reducible rfl)
            try simp only [Act.put, List.setIfInBounds_toArray, List.set_cons_zero, List.set_cons_succ]
            refine uStep (i := 15) rfl (by kernel_rfl) (fun K hK => ?_)
            go_simp
            refine hK.out _ _ (fun h => absurd h (by decide)) ?_
            clear hK K
            try simp only [Act.put, List.setIfInBounds_toArray, List.set_cons_zero, List.set_cons_succ]
            refine uPure (i := 16) (v := ?_) rfl (by kernel_rfl) (by kernel_rfl) (by kernel_rfl) (by kernel_rfl) (fun _ _ _ h => h) (by rfl) ?_ ?_
            rotate_left
            · (intro w; go_simp; try with_reducible rfl)
            try simp only [Act.put, List.setIfInBounds_toArray, List.set_cons_zero, List.set_cons_succ]
            refine uStep (i := 17) rfl (by kernel_rfl) (fun K hK => ?_)
            go_simp
            refine hK.out _ _ (fun h => absurd h (by decide)) ?_
            clear hK K
            try simp only [Act.put, List.setIfInBounds_toArray, List.set_cons_zero, List.set_cons_succ]
            refine uDone (by kernel_rfl) ?_ _
            go_wp2
            have hfin := (Hsw.out _ hP5).drew
            refine ⟨⟨V, by have := Hl0.out; omega, y :: V2, by rw [HSv.out]; simp, fun u hu => ?_, ?_, ?_⟩, ?_⟩
            · rcases List.mem_cons.1 hu with rfl | hu
              · exact Hlc.out
              · exact hV2 u hu
            · simpa only [List.append_assoc, List.cons_append] using hfin
            · exact ((((((hkv.trans (Kb.of_below hb5w : Kb [] wr w5) (fun b hb => by simp at hb)).setCell (p := ⟨g, (q + 1) * 2, none⟩) (.inl (by simp)) _).setCell (p := ⟨g, (q + 1) * 2 + 1, none⟩) (.inl (by simp)) _).setCell (p := ⟨g, q * 2, none⟩) (.inl (by simp)) _).setCell (p := ⟨g, q * 2 + 1, none⟩) (.inl (by simp)) _)).drew
            · simp [intOf]; omega
          | false =>
            have hz1 : ¬ z < 0 := fun h => by rw [hz.1 h] at hlc; cases hlc
            have Hlc := Lib.hid hlc
            clear hz hlc
            unfold Pr.val at HC
            go_wp2
            have hHeld : (fun W : World => (W.cell? ⟨g, q * 2, none⟩ = some (.slice y.A1 y.n1 y.c1) ∧ W.cell? ⟨g, q * 2 + 1, none⟩ = some (.slice y.A2 y.n2 y.c2)) ∧ W.cell? ⟨g, (q + 1) * 2, none⟩ = some (.slice x.A1 x.n1 x.c1) ∧ W.cell? ⟨g, (q + 1) * 2 + 1, none⟩ = some (.slice x.A2 x.n2 x.c2)) wr.drew := ⟨cy, cx⟩
            refine wp_region_noPanic ?_
            refine wp_region_held (S := fun W : World => (W.cell? ⟨g, q * 2, none⟩ = some (.slice y.A1 y.n1 y.c1) ∧ W.cell? ⟨g, q * 2 + 1, none⟩ = some (.slice y.A2 y.n2 y.c2)) ∧ W.cell? ⟨g, (q + 1) * 2, none⟩ = some (.slice x.A1 x.n1 x.c1) ∧ W.cell? ⟨g, (q + 1) * 2 + 1, none⟩ = some (.slice x.A2 x.n2 x.c2)) (by kernel_rfl) ?_
            simp only [List.size_toArray, List.length_cons, List.length_nil, Nat.reduceAdd]
            refine heldTake (i := 0) (v := ?_) rfl (by kernel_rfl) (by kernel_rfl) (by kernel_rfl) (fun _ _ _ h => h) hHeld (by rfl) ?_ ?_
            rotate_left
            · (intro w hSw; (try dsimp only at hSw); go_simp; try with_reducible rfl)
            try simp only [Act.put, List.setIfInBounds_toArray, List.set_cons_zero, List.set_cons_succ]
            refine heldTake (i := 1) (v := ?_) rfl (by kernel_rfl) (by kernel_rfl) (by kernel_rfl) (fun _ _ _ h => h) hHeld (by rfl) ?_ ?_
            rotate_left
            · (intro w hSw; (try dsimp only at hSw); go_simp; try with_reducible rfl)
            try simp only [Act.put, List.setIfInBounds_toArray, List.set_cons_zero, List.set_cons_succ]
            refine heldTake (i := 2) (v := ?_) rfl (by kernel_rfl) (by kernel_rfl) (by kernel_rfl) (fun _ _ _ h => h) hHeld (by rfl) ?_ ?_
            rotate_left
            · (intro w hSw; (try dsimp only at hSw); go_simp; try with_reducible rfl)
            try simp only [Act.put, List.setIfInBounds_toArray, List.set_cons_zero, List.set_cons_succ]
            refine heldTake (i := 3) (v := ?_) rfl (by kernel_rfl) (by kernel_rfl) (by kernel_rfl) (fun _ _ _ h => h) hHeld (by rfl) ?_ ?_
            rotate_left
            · (intro w hSw; (try dsimp only at hSw); go_simp; try with_reducible rfl)
            try simp only [Act.put, List.setIfInBounds_toArray, List.set_cons_zero, List.set_cons_succ]
            refine heldTake (i := 4) (v := ?_) rfl (by kernel_rfl) (by kernel_rfl) (by kernel_rfl) (fun _ _ _ h => h) hHeld (by rfl) ?_ ?_
            rotate_left
            · (intro w hSw; (try dsimp only at hSw); go_simp; try with_reducible rfl)
            try simp only [Act.put, List.setIfInBounds_toArray, List.set_cons_zero, List.set_cons_succ]
            refine heldTake (i := 5) (v := ?_) rfl (by kernel_rfl) (by kernel_rfl) (by kernel_rfl) (fun _ _ _ h => h) hHeld (by rfl) ?_ ?_
            rotate_left
            · (intro w hSw; (try dsimp only at hSw); go_simp; try with_reducible rfl)
            try simp only [Act.put, List.setIfInBounds_toArray, List.set_cons_zero, List.set_cons_succ]
            refine heldTake (i := 6) (v := ?_) rfl (by kernel_rfl) (by kernel_rfl) (by kernel_rfl) (fun _ _ _ h => h) hHeld (by rfl) ?_ ?_
            rotate_left
            · (intro w hSw; (try dsimp only at hSw); go_simp; try with_reducible rfl)
            try simp only [Act.put, List.setIfInBounds_toArray, List.set_cons_zero, List.set_cons_succ]
            refine heldTake (i := 7) (v := ?_) rfl (by kernel_rfl) (by kernel_rfl) (by kernel_rfl) (fun _ _ _ h => h) hHeld (by rfl) ?_ ?_
            rotate_left
            · (intro w hSw; (try dsimp only at hSw); go_simp; try with_reducible rfl)
            try simp only [Act.put, List.setIfInBounds_toArray, List.set_cons_zero, List.set_cons_succ]
            refine heldTake (i := 8) (v := ?_) rfl (by kernel_rfl) (by kernel_rfl) (by kernel_rfl) (fun _ _ _ h => h) hHeld (by rfl) ?_ ?_
            rotate_left
            · (intro w hSw; (try dsimp only at hSw); go_simp; try with_reducible rfl)
            try simp only [Act.put, List.setIfInBounds_toArray, List.set_cons_zero, List.set_cons_succ]
            refine heldTake (i := 9) (v := ?_) rfl (by kernel_rfl) (by kernel_rfl) (by kernel_rfl) (fun _ _ _ h => h) hHeld (by rfl) ?_ ?_
            rotate_left
            · (intro w hSw; (try dsimp only at hSw); go_simp; try with_reducible rfl)
            try simp only [Act.put, List.setIfInBounds_toArray, List.set_cons_zero, List.set_cons_succ]
            refine heldTake (i := 10) (v := ?_) rfl (by kernel_rfl) (by kernel_rfl) (by kernel_rfl) (fun _ _ _ h => h) hHeld (by rfl) ?_ ?_
            rotate_left
            · (intro w hSw; (try dsimp only at hSw); go_simp; try with_reducible rfl)
            try simp only [Act.put, List.setIfInBounds_toArray, List.set_cons_zero, List.set_cons_succ]
            refine heldTake (i := 11) (v := ?_) rfl (by kernel_rfl) (by kernel_rfl) (by kernel_rfl) (fun _ _ _ h => h) hHeld (by rfl) ?_ ?_
            rotate_left
            · (intro w hSw; (try dsimp only at hSw); go_simp; try with_reducible rfl)
            try simp only [Act.put, List.setIfInBounds_toArray, List.set_cons_zero, List.set_cons_succ]
            refine heldTake (i := 12) (v := ?_) rfl (by kernel_rfl) (by kernel_rfl) (by kernel_rfl) (fun _ _ _ h => h) hHeld (by rfl) ?_ ?_
            rotate_left
            · (intro w hSw; (try dsimp only at hSw); go_simp; try with_reducible rfl)
            try simp only [Act.put, List.setIfInBounds_toArray, List.set_cons_zero, List.set_cons_succ]
            refine heldTake (i := 13) (v := ?_) rfl (by kernel_rfl) (by kernel_rfl) (by kernel_rfl) (fun _ _ _ h => h) hHeld (by rfl) ?_ ?_
            rotate_left
            · (intro w hSw; (try dsimp only at hSw); go_simp; try with_reducible rfl)
            try simp only [Act.put, List.setIfInBounds_toArray, List.set_cons_zero, List.set_cons_succ]
            refine heldStep (i := 14) rfl (by kernel_rfl) (fun K hK => ?_)
            go_simp
            go_at_call 37
            refine HC.out.mono ?_
            rintro e w5 ⟨rfl, hb5⟩
            have hb5w : Below wr.heap.size wr w5 := ((Below.refl wr.heap.size wr).drew).trans hb5
            refine hK.out _ _ (⟨⟨(hb5.cell (p := ⟨g, q * 2, none⟩) HPw.out.lt).trans cy.1, (hb5.cell (p := ⟨g, q * 2 + 1, none⟩) HPw.out.lt).trans cy.2⟩, (hb5.cell (p := ⟨g, (q + 1) * 2, none⟩) HPw.out.lt).trans cx.1, (hb5.cell (p := ⟨g, (q + 1) * 2 + 1, none⟩) HPw.out.lt).trans cx.2⟩) (fun hHeld => ?_)
            clear hK K
            try simp only [Act.put, List.setIfInBounds_toArray, List.set_cons_zero, List.set_cons_succ]
            refine heldTake (i := 15) (v := ?_) rfl (by kernel_rfl) (by kernel_rfl) (by kernel_rfl) (fun _ _ _ h => h) hHeld (by rfl) ?_ ?_
            rotate_left
            · (intro w hSw; (try dsimp only at hSw); go_simp; try with_reducible rfl)
            try simp only [Act.put, List.setIfInBounds_toArray, List.set_cons_zero, List.set_cons_succ]
            refine heldTake (i := 16) (v := ?_) rfl (by kernel_rfl) (by kernel_rfl) (by kernel_rfl) (fun _ _ _ h => h) hHeld (by rfl) ?_ ?_
            rotate_left
            · (intro w hSw; (try dsimp only at hSw); go_simp; try with_reducible rfl)
            try simp only [Act.put, List.setIfInBounds_toArray, List.set_cons_zero, List.set_cons_succ]
            refine wpAnyH_done (by kernel_rfl) ?_ _
            refine NoPanic.normal ?_
            go_wp2
            obtain ⟨n1, n2, n3⟩ := HNx.out (V ++ [y]) V2 w5 HSv.out hV2 (fun z hz => by simp at hz; subst hz; exact Hlc.out) (HPv.out.below hb5w HPv.out.lt)
            exact ⟨⟨k + 1, _, by go_num, by omega, .inl (by omega), n1, n2, n3, hkv.trans (Kb.of_below hb5w : Kb [] wr w5) (fun b hb => by simp at hb)⟩, by simp [intOf]; omega⟩
    · have hab2 : ¬ ((a + k : Nat) : Int) < (b : Int) := by omega
      have hfin : PrB 56 wr g (U ++ S ++ D) ∧ Stb Pr.key M S := by
        have hd : M.drop k = [] := List.drop_eq_nil_iff.2 (by have := Ha.out; have := Hb.out; omega)
        have ht : M.take k = M := List.take_of_length_le (by have := Ha.out; have := Hb.out; omega)
        rw [hd, List.nil_append] at hPr
        rw [ht] at hst
        exact ⟨hPr, hst⟩
      go_wp2
      go_end0
      exact ⟨rfl, S, hfin.1, hfin.2, hsr, hkb⟩
end Go.Proofs.Ytedelkifadonjaa
/- Layer 23: stretches change places: swapRange, rotate. -/
namespace Go.Lec
open Go.RowKit
theorem swp_far (A B C : List Pr) (p q : Pr) (h0 : A.length < (A ++ p :: (B ++ q :: C)).length) (h1 : A.length + 1 + B.length < (A ++ p :: (B ++ q :: C)).length) : swp (A ++ p :: (B ++ q :: C)) A.length (A.length + 1 + B.length) h0 h1 = A ++ q :: (B ++ p :: C) := by
  unfold swp
  have e1 : (A ++ p :: (B ++ q :: C))[A.length] = p := by simp
  have e2 : (A ++ p :: (B ++ q :: C))[A.length + 1 + B.length] = q := by
    rw [List.getElem_append_right (by omega)]
    have : A.length + 1 + B.length - A.length = B.length + 1 := by omega
    simp [this]
  rw [e1, e2, List.set_append_right _ _ (by omega)]
  rw [Nat.sub_self, List.set_cons_zero, List.set_append_right _ _ (by omega)]
  rw [show A.length + 1 + B.length - A.length = B.length + 1 from by omega, List.set_cons_succ, List.set_append_right _ _ (by omega), Nat.sub_self, List.set_cons_zero]
theorem PrB.swapFar {t : TypeId} {w : World} {g : Nat} {A B C : List Pr} {p q : Pr} (h : PrB t w g (A ++ p :: (B ++ q :: C))) {i j : Nat} (hi : i = A.length) (hj : j = A.length + 1 + B.length) :
    PrB t ((((w.setCell ⟨g, i * 2, none⟩ (.slice q.A1 q.n1 q.c1)).setCell ⟨g, i * 2 + 1, none⟩ (.slice q.A2 q.n2 q.c2)).setCell ⟨g, j * 2, none⟩ (.slice p.A1 p.n1 p.c1)).setCell ⟨g, j * 2 + 1, none⟩ (.slice p.A2 p.n2 p.c2)) g (A ++ q :: (B ++ p :: C)) ∧
    (w.cell? ⟨g, i * 2, none⟩ = some (.slice p.A1 p.n1 p.c1) ∧ w.cell? ⟨g, i * 2 + 1, none⟩ = some (.slice p.A2 p.n2 p.c2)) ∧ w.cell? ⟨g, j * 2, none⟩ = some (.slice q.A1 q.n1 q.c1) ∧ w.cell? ⟨g, j * 2 + 1, none⟩ = some (.slice q.A2 q.n2 q.c2) := by
  subst hi hj
  have h0 : A.length < (A ++ p :: (B ++ q :: C)).length := by simp
  have h1 : A.length + 1 + B.length < (A ++ p :: (B ++ q :: C)).length := by simp; omega
  have e1 : (A ++ p :: (B ++ q :: C))[A.length] = p := by simp
  have e2 : (A ++ p :: (B ++ q :: C))[A.length + 1 + B.length] = q := by
    rw [List.getElem_append_right (by omega)]
    have : A.length + 1 + B.length - A.length = B.length + 1 := by omega
    simp [this]
  have hs := h.swap h0 h1
  rw [swp_far, e1, e2] at hs
  have c0 := h.cell h0
  have c1 := h.cell h1
  rw [e1] at c0
  rw [e2] at c1
  exact ⟨hs, c0, c1⟩
theorem PrB.swapNext {t : TypeId} {w : World} {g : Nat} {A C : List Pr} {y x : Pr} (h : PrB t w g (A ++ y :: x :: C)) {i j : Nat} (hi : i = A.length + 1) (hj : j = A.length) :
    PrB t ((((w.setCell ⟨g, i * 2, none⟩ (.slice y.A1 y.n1 y.c1)).setCell ⟨g, i * 2 + 1, none⟩ (.slice y.A2 y.n2 y.c2)).setCell ⟨g, j * 2, none⟩ (.slice x.A1 x.n1 x.c1)).setCell ⟨g, j * 2 + 1, none⟩ (.slice x.A2 x.n2 x.c2)) g (A ++ x :: y :: C) ∧
    (w.cell? ⟨g, i * 2, none⟩ = some (.slice x.A1 x.n1 x.c1) ∧ w.cell? ⟨g, i * 2 + 1, none⟩ = some (.slice x.A2 x.n2 x.c2)) ∧ w.cell? ⟨g, j * 2, none⟩ = some (.slice y.A1 y.n1 y.c1) ∧ w.cell? ⟨g, j * 2 + 1, none⟩ = some (.slice y.A2 y.n2 y.c2) := by
  subst hi hj
  have h1 : A.length + 1 < (A ++ y :: x :: C).length := by simp only [List.length_append, List.length_cons]; omega
  have h0 : A.length < (A ++ y :: x :: C).length := by simp only [List.length_append, List.length_cons]; omega
  have e1 : (A ++ y :: x :: C)[A.length] = y := by simp
  have e2 : (A ++ y :: x :: C)[A.length + 1] = x := by rw [List.getElem_append_right (by omega)]; simp
  have hs := h.swap h1 h0
  rw [swp_next, e1, e2] at hs
  have c0 := h.cell h0
  have c1 := h.cell h1
  rw [e1] at c0
  rw [e2] at c1
  exact ⟨hs, c1, c0⟩
end Go.Lec
namespace Go.Proofs.Ytedelkifadonjaa
open Go.RowKit Go.Lec Go.Op
/-- What moving pairs leaves. -/
def MovP (w : World) (g : Nat) (L : List Pr) (e : Ending) (w' : World) : Prop := e = .returned (.tuple #[]) ∧ PrB 56 w' g L ∧ Kb [g] w w'
set_option maxRecDepth 100000 in
set_option maxHeartbeats 4000000 in
theorem c_swr (w : World) {g n c k0 a b : Nat} {U P X Q D : List Pr} {cv : Value} (hP : PrB 56 w g (U ++ P ++ X ++ Q ++ D)) (hPQ : Q.length = P.length) (hn : (U ++ P ++ X ++ Q ++ D).length = n) (hnc : n ≤ c) (hn2 : n ≤ 100000)
    (ha : a = U.length) (hb : b = U.length + P.length + X.length) (hk0 : k0 = P.length) :
    Calls Try.prog 68 #[.slice (some ⟨g, 0, none⟩) n c, .int .i64 (a : Int), .int .i64 (b : Int), .int .i64 (k0 : Int), cv] w (MovP w g (U ++ Q ++ X ++ P ++ D)) := by
  have Ha := Lib.hid ha
  have Hb := Lib.hid hb
  have Hk := Lib.hid hk0
  have HQ := Lib.hid hPQ
  simp only [List.length_append] at hn
  have Hn := Lib.hid hn
  have hbn : b + k0 ≤ n := by omega
  have hab : a + k0 ≤ b := by omega
  clear ha hb hk0 hPQ hn
  go_enter Try.func68, Try.ntmps68
  go_wp2
  go_loopw [10] (fun i wr => ∃ k : Nat, i = .int .i64 (k : Int) ∧ k ≤ k0 ∧ PrB 56 wr g (U ++ (Q.take k ++ P.drop k) ++ X ++ (P.take k ++ Q.drop k) ++ D) ∧ Kb [g] w wr) (fun i _ => k0 - (intOf i).toNat)
  case atStart => exact ⟨0, rfl, Nat.zero_le _, by simpa using hP, Kb.refl _ _⟩
  case round =>
    obtain ⟨k, rfl, hk, hPr, hkb⟩ := hrel
    clear hP
    by_cases hlt : k < k0
    · have hkP : k < P.length := by have := Hk.out; omega
      have hkQ : k < Q.length := by have := Hk.out; have := HQ.out; omega
      obtain ⟨p, hp⟩ : ∃ p, p = P[k] := ⟨_, rfl⟩
      obtain ⟨q, hq⟩ : ∃ q, q = Q[k] := ⟨_, rfl⟩
      have dP : P.drop k = p :: P.drop (k + 1) := by rw [hp]; exact List.drop_eq_getElem_cons hkP
      have dQ : Q.drop k = q :: Q.drop (k + 1) := by rw [hq]; exact List.drop_eq_getElem_cons hkQ
      have tP : P.take (k + 1) = P.take k ++ [p] := by rw [hp]; exact List.take_succ_eq_append_getElem hkP
      have tQ : Q.take (k + 1) = Q.take k ++ [q] := by rw [hq]; exact List.take_succ_eq_append_getElem hkQ
      have hrow : U ++ (Q.take k ++ P.drop k) ++ X ++ (P.take k ++ Q.drop k) ++ D = (U ++ Q.take k) ++ p :: ((P.drop (k + 1) ++ X ++ P.take k) ++ q :: (Q.drop (k + 1) ++ D)) := by rw [dP, dQ]; simp
      have hrow2 : (U ++ Q.take k) ++ q :: ((P.drop (k + 1) ++ X ++ P.take k) ++ p :: (Q.drop (k + 1) ++ D)) = U ++ (Q.take (k + 1) ++ P.drop (k + 1)) ++ X ++ (P.take (k + 1) ++ Q.drop (k + 1)) ++ D := by rw [tP, tQ]; simp
      rw [hrow] at hPr
      obtain ⟨hfin, c0, c1⟩ := hPr.swapFar (i := a + k) (j := b + k) (by rw [List.length_append, List.length_take, Nat.min_eq_left (by omega), Ha.out]) (by
        have := Ha.out; have := Hb.out; have := HQ.out
        simp only [List.length_append, List.length_take, List.length_drop]
        omega)
      have z := hPr.frz
      rw [hrow2] at hfin
      have Hfin := Lib.hid hfin
      obtain ⟨k1, k2, k3⟩ := swap_cells (p := a + k) (r := b + k) (a1 := .slice q.A1 q.n1 q.c1) (a2 := .slice q.A2 q.n2 q.c2) (b1 := .slice p.A1 p.n1 p.c1) (by omega) c0.1 c0.2 c1.1 c1.2
      obtain ⟨pa, hpa⟩ : ∃ x, x = a + k := ⟨_, rfl⟩
      obtain ⟨pb, hpb⟩ : ∃ x, x = b + k := ⟨_, rfl⟩
      have w1' : IntKind.i64.wrap ((a : Int) + (k : Int)) = (pa : Int) := by rw [IntWalk.i64_in _ (by omega)]; omega
      have w2' : IntKind.i64.wrap ((b : Int) + (k : Int)) = (pb : Int) := by rw [IntWalk.i64_in _ (by omega)]; omega
      have w3' : IntKind.i64.wrap (pa : Int) = (pa : Int) := IntWalk.i64_in _ (by omega)
      have w4' : IntKind.i64.wrap (pb : Int) = (pb : Int) := IntWalk.i64_in _ (by omega)
      have i1 : (0 : Int) ≤ (pa : Int) := by omega
      have i2 : (pa : Int) < (n : Int) := by omega
      have i3 : (0 : Int) ≤ (pb : Int) := by omega
      have i4 : (pb : Int) < (n : Int) := by omega
      rw [← hpa, ← hpb] at Hfin k2 k3
      rw [← hpa] at k1 c0
      rw [← hpb] at c1
      clear hPr hrow hrow2 dP dQ tP tQ hp hq hfin hpa hpb hkP hkQ
      go_wp2
      have hHeld : (fun W : World => (W.cell? ⟨g, pa * 2, none⟩ = some (.slice p.A1 p.n1 p.c1) ∧ W.cell? ⟨g, pa * 2 + 1, none⟩ = some (.slice p.A2 p.n2 p.c2)) ∧ W.cell? ⟨g, pb * 2, none⟩ = some (.slice q.A1 q.n1 q.c1) ∧ W.cell? ⟨g, pb * 2 + 1, none⟩ = some (.slice q.A2 q.n2 q.c2)) wr.drew := ⟨c0, c1⟩
      refine wp_region_U (S := fun W : World => (W.cell? ⟨g, pa * 2, none⟩ = some (.slice p.A1 p.n1 p.c1) ∧ W.cell? ⟨g, pa * 2 + 1, none⟩ = some (.slice p.A2 p.n2 p.c2)) ∧ W.cell? ⟨g, pb * 2, none⟩ = some (.slice q.A1 q.n1 q.c1) ∧ W.cell? ⟨g, pb * 2 + 1, none⟩ = some (.slice q.A2 q.n2 q.c2)) (ks := [13, 19]) (by kernel_rfl) ?_
      simp only [List.size_toArray, List.length_cons, List.length_nil, Nat.reduceAdd]
      refine uPure (i := 0) (v := ?_) rfl (by kernel_rfl) (by kernel_rfl) (by kernel_rfl) (by kernel_rfl) (fun _ _ _ h => h) (by rfl) ?_ ?_
      rotate_left
      · (intro w; go_simp; try with_reducible rfl)
      try simp only [Act.put, List.setIfInBounds_toArray, List.set_cons_zero, List.set_cons_succ]
      refine uPure (i := 1) (v := ?_) rfl (by kernel_rfl) (by kernel_rfl) (by kernel_rfl) (by kernel_rfl) (fun _ _ _ h => h) (by rfl) ?_ ?_
      rotate_left
      · (intro w; go_simp; try with_reducible rfl)
      try simp only [Act.put, List.setIfInBounds_toArray, List.set_cons_zero, List.set_cons_succ]
      refine uPure (i := 2) (v := ?_) rfl (by kernel_rfl) (by kernel_rfl) (by kernel_rfl) (by kernel_rfl) (fun _ _ _ h => h) (by rfl) ?_ ?_
      rotate_left
      · (intro w; go_simp; try with_reducible rfl)
      try simp only [Act.put, List.setIfInBounds_toArray, List.set_cons_zero, List.set_cons_succ]
      refine uPure (i := 3) (v := ?_) rfl (by kernel_rfl) (by kernel_rfl) (by kernel_rfl) (by kernel_rfl) (fun _ _ _ h => h) (by rfl) ?_ ?_
      rotate_left
      · (intro w; go_simp; try with_reducible rfl)
      try simp only [Act.put, List.setIfInBounds_toArray, List.set_cons_zero, List.set_cons_succ]
      refine uPure (i := 4) (v := ?_) rfl (by kernel_rfl) (by kernel_rfl) (by kernel_rfl) (by kernel_rfl) (fun _ _ _ h => h) (by rfl) ?_ ?_
      rotate_left
      · (intro w; go_simp; try with_reducible rfl)
      try simp only [Act.put, List.setIfInBounds_toArray, List.set_cons_zero, List.set_cons_succ]
      refine uPure (i := 5) (v := ?_) rfl (by kernel_rfl) (by kernel_rfl) (by kernel_rfl) (by kernel_rfl) (fun _ _ _ h => h) (by rfl) ?_ ?_
      rotate_left
      · (intro w; go_simp; try with_reducible rfl)
      try simp only [Act.put, List.setIfInBounds_toArray, List.set_cons_zero, List.set_cons_succ]
      refine uPure (i := 6) (v := ?_) rfl (by kernel_rfl) (by kernel_rfl) (by kernel_rfl) (by kernel_rfl) (fun _ _ _ h => h) (by rfl) ?_ ?_
      rotate_left
      · (intro w; go_simp; try with_reducible rfl)
      try simp only [Act.put, List.setIfInBounds_toArray, List.set_cons_zero, List.set_cons_succ]
      refine uPure (i := 7) (v := ?_) rfl (by kernel_rfl) (by kernel_rfl) (by kernel_rfl) (by kernel_rfl) (fun _ _ _ h => h) (by rfl) ?_ ?_
      rotate_left
      · (intro w; go_simp; try with_reducible rfl)
      try simp only [Act.put, List.setIfInBounds_toArray, List.set_cons_zero, List.set_cons_succ]
      refine uPure (i := 8) (v := ?_) rfl (by kernel_rfl) (by kernel_rfl) (by kernel_rfl) (by kernel_rfl) (fun _ _ _ h => h) (by rfl) ?_ ?_
      rotate_left
      · (intro w; go_simp; try with_reducible rfl)
      try simp only [Act.put, List.setIfInBounds_toArray, List.set_cons_zero, List.set_cons_succ]
      refine uPure (i := 9) (v := ?_) rfl (by kernel_rfl) (by kernel_rfl) (by kernel_rfl) (by kernel_rfl) (fun _ _ _ h => h) (by rfl) ?_ ?_
      rotate_left
      · (intro w; go_simp; try with_reducible rfl)
      try simp only [Act.put, List.setIfInBounds_toArray, List.set_cons_zero, List.set_cons_succ]
      refine uPure (i := 10) (v := ?_) rfl (by kernel_rfl) (by kernel_rfl) (by kernel_rfl) (by kernel_rfl) (fun _ _ _ h => h) (by rfl) ?_ ?_
      rotate_left
      · (intro w; go_simp; try with_reducible rfl)
      try simp only [Act.put, List.setIfInBounds_toArray, List.set_cons_zero, List.set_cons_succ]
      refine uPure (i := 11) (v := ?_) rfl (by kernel_rfl) (by kernel_rfl) (by kernel_rfl) (by kernel_rfl) (fun _ _ _ h => h) (by rfl) ?_ ?_
      rotate_left
      · (intro w; go_simp; try with_reducible rfl)
      try simp only [Act.put, List.setIfInBounds_toArray, List.set_cons_zero, List.set_cons_succ]
      refine uPure (i := 12) (v := ?_) rfl (by kernel_rfl) (by kernel_rfl) (by kernel_rfl) (by kernel_rfl) (fun _ _ _ h => h) (by rfl) ?_ ?_
      rotate_left
      · (intro w; go_simp; try with_reducible rfl)
      try simp only [Act.put, List.setIfInBounds_toArray, List.set_cons_zero, List.set_cons_succ]
      refine uPure (i := 14) (v := ?_) rfl (by kernel_rfl) (by kernel_rfl) (by kernel_rfl) (by kernel_rfl) (fun _ _ _ h => h) (by rfl) ?_ ?_
      rotate_left
      · (intro w; go_simp; try with_reducible rfl)
      try simp only [Act.put, List.setIfInBounds_toArray, List.set_cons_zero, List.set_cons_succ]
      refine uPure (i := 15) (v := ?_) rfl (by kernel_rfl) (by kernel_rfl) (by kernel_rfl) (by kernel_rfl) (fun _ _ _ h => h) (by rfl) ?_ ?_
      rotate_left
      · (intro w; go_simp; try with_reducible rfl)
      try simp only [Act.put, List.setIfInBounds_toArray, List.set_cons_zero, List.set_cons_succ]
      refine uPure (i := 16) (v := ?_) rfl (by kernel_rfl) (by kernel_rfl) (by kernel_rfl) (by kernel_rfl) (fun _ _ _ h => h) (by rfl) ?_ ?_
      rotate_left
      · (intro w; go_simp; try with_reducible rfl)
      try simp only [Act.put, List.setIfInBounds_toArray, List.set_cons_zero, List.set_cons_succ]
      refine uPure (i := 17) (v := ?_) rfl (by kernel_rfl) (by kernel_rfl) (by kernel_rfl) (by kernel_rfl) (fun _ _ _ h => h) (by rfl) ?_ ?_
      rotate_left
      · (intro w; go_simp; try with_reducible rfl)
      try simp only [Act.put, List.setIfInBounds_toArray, List.set_cons_zero, List.set_cons_succ]
      refine uPure (i := 18) (v := ?_) rfl (by kernel_rfl) (by kernel_rfl) (by kernel_rfl) (by kernel_rfl) (fun _ _ _ h => h) (by rfl) ?_ ?_
      rotate_left
      · (intro w; go_simp; try with_reducible rfl)
      try simp only [Act.put, List.setIfInBounds_toArray, List.set_cons_zero, List.set_cons_succ]
      refine uTake (i := 13) (v := ?_) rfl (by kernel_rfl) (by kernel_rfl) (by kernel_rfl) (by kernel_rfl) (fun _ _ _ h => h) hHeld (by rfl) ?_ ?_
      rotate_left
      · (intro w hSw; (try dsimp only at hSw); go_simp; try with_reducible rfl)
      try simp only [Act.put, List.setIfInBounds_toArray, List.set_cons_zero, List.set_cons_succ]
      refine uTake (i := 19) (v := ?_) rfl (by kernel_rfl) (by kernel_rfl) (by kernel_rfl) (by kernel_rfl) (fun _ _ _ h => h) hHeld (by rfl) ?_ ?_
      rotate_left
      · (intro w hSw; (try dsimp only at hSw); go_simp; try with_reducible rfl)
      try simp only [Act.put, List.setIfInBounds_toArray, List.set_cons_zero, List.set_cons_succ]
      refine uPure (i := 20) (v := ?_) rfl (by kernel_rfl) (by kernel_rfl) (by kernel_rfl) (by kernel_rfl) (fun _ _ _ h => h) (by rfl) ?_ ?_
      rotate_left
      · (intro w; go_simp; try with_reducible rfl)
      try simp only [Act.put, List.setIfInBounds_toArray, List.set_cons_zero, List.set_cons_succ]
      refine uStep (i := 21) rfl (by kernel_rfl) (fun K hK => ?_)
      go_simp
      refine hK.out _ _ (fun h => absurd h (by decide)) ?_
      clear hK K
      try simp only [Act.put, List.setIfInBounds_toArray, List.set_cons_zero, List.set_cons_succ]
      refine uPure (i := 22) (v := ?_) rfl (by kernel_rfl) (by kernel_rfl) (by kernel_rfl) (by kernel_rfl) (fun _ _ _ h => h) (by rfl) ?_ ?_
      rotate_left
      · (intro w; go_simp; try with_reducible rfl)
      try simp only [Act.put, List.setIfInBounds_toArray, List.set_cons_zero, List.set_cons_succ]
      refine uStep (i := 23) rfl (by kernel_rfl) (fun K hK => ?_)
      go_simp
      refine hK.out _ _ (fun h => absurd h (by decide)) ?_
      clear hK K
      try simp only [Act.put, List.setIfInBounds_toArray, List.set_cons_zero, List.set_cons_succ]
      refine uDone (by kernel_rfl) ?_ _
      go_wp2
      refine ⟨⟨k + 1, by go_num, by omega, Hfin.out.drew, ((((hkb.setCell (p := ⟨g, pa * 2, none⟩) (.inl (by simp)) _).setCell (p := ⟨g, pa * 2 + 1, none⟩) (.inl (by simp)) _).setCell (p := ⟨g, pb * 2, none⟩) (.inl (by simp)) _).setCell (p := ⟨g, pb * 2 + 1, none⟩) (.inl (by simp)) _).drew⟩, by simp [intOf]; omega⟩
    · obtain rfl : k = k0 := by omega
      have hfin : PrB 56 wr g (U ++ Q ++ X ++ P ++ D) := by
        have e1 : Q.take k = Q := List.take_of_length_le (by have := Hk.out; have := HQ.out; omega)
        have e2 : P.take k = P := List.take_of_length_le (by have := Hk.out; omega)
        have e3 : P.drop k = [] := List.drop_eq_nil_iff.2 (by have := Hk.out; omega)
        have e4 : Q.drop k = [] := List.drop_eq_nil_iff.2 (by have := Hk.out; have := HQ.out; omega)
        rw [e1, e2, e3, e4, List.append_nil, List.append_nil] at hPr
        exact hPr
      go_wp2
      go_end0
      exact ⟨rfl, hfin, hkb⟩
end Go.Proofs.Ytedelkifadonjaa
/- Layer 23: two stretches change places: rotate. -/
namespace Go.Proofs.Ytedelkifadonjaa
open Go.RowKit Go.Lec Go.Op
set_option maxRecDepth 100000 in
set_option maxHeartbeats 4000000 in
theorem c_rot (w : World) {g n c a m b : Nat} {U P Q D : List Pr} {cv : Value} (hP : PrB 56 w g (U ++ P ++ Q ++ D)) (hn : (U ++ P ++ Q ++ D).length = n) (hnc : n ≤ c) (hn2 : n ≤ 100000)
    (ha : a = U.length) (hm : m = U.length + P.length) (hb : b = U.length + P.length + Q.length) (hp0 : 0 < P.length) (hq0 : 0 < Q.length) :
    Calls Try.prog 67 #[.slice (some ⟨g, 0, none⟩) n c, .int .i64 (a : Int), .int .i64 (m : Int), .int .i64 (b : Int), cv] w (MovP w g (U ++ Q ++ P ++ D)) := by
  obtain ⟨F, hF⟩ : ∃ F, F = U ++ Q ++ P ++ D := ⟨_, rfl⟩
  rw [← hF]
  have hst : ∃ U' Lp Rp D' : List Pr, PrB 56 w g (U' ++ Lp ++ Rp ++ D') ∧ U'.length + Lp.length = m ∧ Lp.length = m - a ∧ Rp.length = b - m ∧ 0 < Lp.length ∧ 0 < Rp.length ∧ (U' ++ Lp ++ Rp ++ D').length = n ∧ U' ++ Rp ++ Lp ++ D' = F :=
    ⟨U, P, Q, D, hP, by omega, by omega, by omega, hp0, hq0, hn, hF.symm⟩
  have w1 : IntKind.i64.wrap ((m : Int) - (a : Int)) = ((m - a : Nat) : Int) := by
    simp only [List.length_append] at hn
    rw [IntWalk.i64_in _ (by omega)]; omega
  have w2 : IntKind.i64.wrap ((b : Int) - (m : Int)) = ((b - m : Nat) : Int) := by
    simp only [List.length_append] at hn
    rw [IntWalk.i64_in _ (by omega)]; omega
  have hbn : b ≤ n := by simp only [List.length_append] at hn; omega
  obtain ⟨i0, hi0⟩ : ∃ x, x = m - a := ⟨_, rfl⟩
  obtain ⟨j0, hj0⟩ : ∃ x, x = b - m := ⟨_, rfl⟩
  rw [← hi0] at w1 hst
  rw [← hj0] at w2 hst
  clear hP hn ha hm hb hp0 hq0 hF hi0 hj0
  go_enter Try.func67, Try.ntmps67
  go_wp2
  go_loopw [10, 11] (fun vi vj wr => ∃ (i j : Nat) (U' Lp Rp D' : List Pr), vi = .int .i64 (i : Int) ∧ vj = .int .i64 (j : Int) ∧ PrB 56 wr g (U' ++ Lp ++ Rp ++ D') ∧ U'.length + Lp.length = m ∧ Lp.length = i ∧ Rp.length = j ∧ 0 < i ∧ 0 < j ∧ (U' ++ Lp ++ Rp ++ D').length = n ∧ U' ++ Rp ++ Lp ++ D' = F ∧ Kb [g] w wr) (fun vi vj _ => (intOf vi).toNat + (intOf vj).toNat)
  case atStart =>
    obtain ⟨U', Lp, Rp, D', h1, h2, h3, h4, h5, h6, h7, h8⟩ := hst
    exact ⟨i0, j0, U', Lp, Rp, D', rfl, rfl, h1, h2, h3, h4, by omega, by omega, h7, h8, Kb.refl _ _⟩
  case round =>
    clear hst
    obtain ⟨i, j, U', Lp, Rp, D', rfl, rfl, hPr, hm, hi, hj, hi0, hj0, hn, hF, hkb⟩ := hrel
    have hn' := hn
    simp only [List.length_append] at hn'
    obtain ⟨u, hu⟩ : ∃ u, u = U'.length := ⟨_, rfl⟩
    have w3 : IntKind.i64.wrap ((m : Int) - (i : Int)) = (u : Int) := by rw [IntWalk.i64_in _ (by omega)]; omega
    by_cases hij : i = j
    · have hij2 : ((i : Int) != (j : Int)) = false := by simp [hij]
      have HC := Lib.hid (c_swr wr (cv := cv) (a := u) (b := m) (k0 := i) (U := U') (P := Lp) (X := []) (Q := Rp) (D := D') (by simpa using hPr) (by omega) (by simpa using hn) hnc hn2 hu (by simp; omega) hi.symm)
      have HF := Lib.hid hF
      have Hkb := Lib.hid hkb
      subst hij
      clear hPr hm hi hj hn hn' hF hu hkb
      go_wp2_with (first | (go_at_call 68; refine HC.out.mono ?_; rintro e w4 ⟨rfl, h4, hk4⟩))
      go_end0
      refine ⟨rfl, ?_, Hkb.out.trans hk4 (fun b hb => .inl hb)⟩
      rw [← HF.out]
      simpa using h4
    · have hij2 : ((i : Int) == (j : Int)) = false := by rw [beq_eq_false_iff_ne]; omega
      by_cases hgt : j < i
      · have hgt' : (j : Int) < (i : Int) := by omega
        obtain ⟨L1, L2, hL, hL1⟩ : ∃ L1 L2 : List Pr, Lp = L1 ++ L2 ∧ L1.length = j := ⟨Lp.take j, Lp.drop j, (List.take_append_drop _ _).symm, by rw [List.length_take]; omega⟩
        have hi2 : L1.length + L2.length = i := by rw [← hi, hL, List.length_append]
        have hL2 : L2.length = i - j := by omega
        have HC := Lib.hid (c_swr wr (cv := cv) (a := u) (b := m) (k0 := j) (U := U') (P := L1) (X := L2) (Q := Rp) (D := D') (by rw [hL] at hPr; simpa only [List.append_assoc] using hPr) (by omega) (by rw [hL] at hn; simpa only [List.append_assoc] using hn) hnc hn2 hu (by omega) hL1.symm)
        have w4 : IntKind.i64.wrap ((i : Int) - (j : Int)) = ((i - j : Nat) : Int) := by rw [IntWalk.i64_in _ (by omega)]; omega
        have hnew : (U' ++ Rp).length + L2.length = m ∧ (U' ++ Rp ++ L2 ++ L1 ++ D').length = n ∧ U' ++ Rp ++ L1 ++ L2 ++ D' = F := by
          refine ⟨by simp only [List.length_append]; omega, ?_, by rw [← hF, hL]; simp only [List.append_assoc]⟩
          rw [← hn, hL]; simp only [List.length_append]; omega
        have Hnew := Lib.hid hnew
        have Hkb := Lib.hid hkb
        obtain ⟨d, hd⟩ : ∃ d, d = i - j := ⟨_, rfl⟩
        rw [← hd] at w4 hL2
        have Hd := Lib.hid hd
        have HL := Lib.hid (show L2.length = d ∧ L1.length = j from ⟨hL2, hL1⟩)
        clear hPr hm hi hj hn hn' hF hu hkb hL hnew hL1 hL2 hi2 hd
        go_wp2_with (first | (go_at_call 68; refine HC.out.mono ?_; rintro e w4 ⟨rfl, h4, hk4⟩))
        refine ⟨⟨d, j, U' ++ Rp, L2, L1, D', by go_num, rfl, h4, Hnew.out.1, HL.out.1, HL.out.2, by have := Hd.out; omega, hj0, Hnew.out.2.1, Hnew.out.2.2, Hkb.out.trans hk4 (fun b hb => .inl hb)⟩, ?_⟩
        have := Hd.out
        simp [intOf]
        omega
      · have hgt' : ¬ (j : Int) < (i : Int) := by omega
        obtain ⟨R1, R2, hR, hR2⟩ : ∃ R1 R2 : List Pr, Rp = R1 ++ R2 ∧ R2.length = i := ⟨Rp.take (j - i), Rp.drop (j - i), (List.take_append_drop _ _).symm, by rw [List.length_drop]; omega⟩
        have hj2 : R1.length + R2.length = j := by rw [← hj, hR, List.length_append]
        have hR1 : R1.length = j - i := by omega
        obtain ⟨v, hv⟩ : ∃ v, v = m + j - i := ⟨_, rfl⟩
        have HC := Lib.hid (c_swr wr (cv := cv) (a := u) (b := v) (k0 := i) (U := U') (P := Lp) (X := R1) (Q := R2) (D := D') (by rw [hR] at hPr; simpa only [List.append_assoc] using hPr) (by omega) (by rw [hR] at hn; simpa only [List.append_assoc] using hn) hnc hn2 hu (by omega) hi.symm)
        have w4 : IntKind.i64.wrap ((j : Int) - (i : Int)) = ((j - i : Nat) : Int) := by rw [IntWalk.i64_in _ (by omega)]; omega
        have w5 : IntKind.i64.wrap ((m : Int) + (j : Int)) = ((m + j : Nat) : Int) := by rw [IntWalk.i64_in _ (by omega)]; omega
        have w6 : IntKind.i64.wrap ((m : Int) + (j : Int) - (i : Int)) = (v : Int) := by rw [IntWalk.i64_in _ (by omega)]; omega
        have hnew : U'.length + R2.length = m ∧ (U' ++ R2 ++ R1 ++ (Lp ++ D')).length = n ∧ U' ++ R1 ++ R2 ++ (Lp ++ D') = F := by
          refine ⟨by omega, ?_, by rw [← hF, hR]; simp only [List.append_assoc]⟩
          rw [← hn, hR]; simp only [List.length_append]; omega
        have Hnew := Lib.hid hnew
        have Hkb := Lib.hid hkb
        obtain ⟨d, hd⟩ : ∃ d, d = j - i := ⟨_, rfl⟩
        rw [← hd] at w4 hR1
        have Hd := Lib.hid (show d = j - i ∧ i < j from ⟨hd, by omega⟩)
        have HL := Lib.hid (show R1.length = d ∧ R2.length = i from ⟨hR1, hR2⟩)
        clear hPr hm hi hj hn hn' hF hu hkb hR hnew hR1 hR2 hj2 hd hv
        go_wp2_with (first | (go_at_call 68; refine HC.out.mono ?_; rintro e w4 ⟨rfl, h4, hk4⟩))
        refine ⟨⟨i, d, U', R2, R1, Lp ++ D', rfl, by go_num, by simpa only [List.append_assoc] using h4, Hnew.out.1, HL.out.2, HL.out.1, hi0, by have := Hd.out; omega, Hnew.out.2.1, Hnew.out.2.2, Hkb.out.trans hk4 (fun b hb => .inl hb)⟩, ?_⟩
        have := Hd.out
        simp [intOf]
        omega
end Go.Proofs.Ytedelkifadonjaa
/- Layer 23: two stretches in order are merged (symMerge): the two short ways. -/
namespace Go.Proofs.Ytedelkifadonjaa
open Go.RowKit Go.Lec Go.Op
set_option maxRecDepth 100000 in
set_option maxHeartbeats 4000000 in
theorem c_sym1 (w : World) {g n c a m b : Nat} {U Q D : List Pr} {x : Pr} (hP : PrB 56 w g (U ++ x :: (Q ++ D))) (hok : PrOk w g (U ++ x :: (Q ++ D))) (hn : U.length + 1 + Q.length + D.length = n) (hnc : n ≤ c) (hn2 : n ≤ 100000)
    (ha : a = U.length) (hm : m = U.length + 1) (hb : b = U.length + 1 + Q.length) (hs : SrtK Pr.key Q) :
    Calls Try.prog 66 #[.slice (some ⟨g, 0, none⟩) n c, .int .i64 (a : Int), .int .i64 (m : Int), .int .i64 (b : Int), .func (.func 37) #[] #[]] w (SrtP w g U (x :: Q) D) := by
  have HOk := Lib.hid (fun (W : World) (hk : Kb [g] w W) => hok.kb hk)
  have w1 : IntKind.i64.wrap ((m : Int) - (a : Int)) = 1 := by rw [IntWalk.i64_in _ (by omega)]; omega
  have Ha := Lib.hid ha
  have Hm := Lib.hid hm
  have Hb := Lib.hid hb
  have Hn := Lib.hid hn
  have hbn : b ≤ n := by omega
  have hmb : m ≤ b := by omega
  have ham : a < m := by omega
  clear ha hm hb hn hok
  go_enter Try.func66, Try.ntmps66
  go_wp2
  go_loopw [10, 11] (fun vi vj wr => ∃ i j : Nat, vi = .int .i64 (i : Int) ∧ vj = .int .i64 (j : Int) ∧ m ≤ i ∧ i ≤ j ∧ j ≤ b ∧ (∀ z, (Q.take (i - m)).getLast? = some z → bytesLess z.key x.key = true) ∧ (∀ y, (Q.drop (j - m)).head? = some y → bytesLess y.key x.key = false) ∧ PrB 56 wr g (U ++ x :: (Q ++ D)) ∧ Kb [g] w wr) (fun vi vj _ => (intOf vj).toNat - (intOf vi).toNat)
  case atStart => exact ⟨m, b, rfl, rfl, Nat.le_refl _, hmb, Nat.le_refl _, by simp, by have := Hm.out; have := Hb.out; rw [show b - m = Q.length from by omega, List.drop_length]; simp, hP, Kb.refl _ _⟩
  case round =>
    obtain ⟨i, j, rfl, rfl, hmi, hij, hjb, hz1, hz2, hPr, hkb⟩ := hrel
    clear hP
    by_cases hlt : i < j
    · obtain ⟨h, hh⟩ : ∃ h, h = (i + j) / 2 := ⟨_, rfl⟩
      have hhi : ((i : Int) + (j : Int)) / 2 = (h : Int) := by omega
      have h1 : i ≤ h := by omega
      have h2 : h < j := by omega
      obtain ⟨t, ht⟩ : ∃ t, t = h - m := ⟨_, rfl⟩
      have htQ : t < Q.length := by have := Hm.out; have := Hb.out; omega
      obtain ⟨q, hq⟩ : ∃ q, q = Q[t] := ⟨_, rfl⟩
      have la : a < (U ++ x :: (Q ++ D)).length := by have := Ha.out; simp; omega
      have lh : h < (U ++ x :: (Q ++ D)).length := by have := Hm.out; simp; omega
      have ea : (U ++ x :: (Q ++ D))[a] = x := by have := Ha.out; subst this; simp
      have eh : (U ++ x :: (Q ++ D))[h] = q := by
        have e : h = U.length + 1 + t := by have := Hm.out; omega
        subst e
        rw [List.getElem_append_right (by omega), hq]
        simp [show U.length + 1 + t - U.length = t + 1 from by omega, List.getElem_append_left htQ]
      have c1 := hPr.cell la
      have c0 := hPr.cell lh
      rw [ea] at c1
      rw [eh] at c0
      have hmx := HOk.out wr hkb
      have hqo := hmx q (by simp [hq])
      have hxo := hmx x (by simp)
      have HC := Lib.hid (c_cmp wr.drew hqo.1 hxo.1 (Nat.le_refl _) (Nat.le_refl _))
      have HP := Lib.hid hPr
      have dQ : Q.drop t = q :: Q.drop (t + 1) := by rw [hq]; exact List.drop_eq_getElem_cons htQ
      have tQ : Q.take (t + 1) = Q.take t ++ [q] := by rw [hq]; exact List.take_succ_eq_append_getElem htQ
      have Ht := Lib.hid ht
      have Hz1 := Lib.hid hz1
      have Hz2 := Lib.hid hz2
      have hz := cmp_neg q.key x.key
      obtain ⟨z, hzz⟩ : ∃ z, z = Lib.compareBytes q.key x.key := ⟨_, rfl⟩
      rw [← hzz] at HC hz
      have Hh := Lib.hid hh
      have w2 : IntKind.i64.wrap (h : Int) = (h : Int) := IntWalk.i64_in _ (by omega)
      have w3 : IntKind.i64.wrap (a : Int) = (a : Int) := IntWalk.i64_in _ (by omega)
      have i1 : (0 : Int) ≤ (h : Int) := by omega
      have i2 : (h : Int) < (n : Int) := by omega
      have i3 : (0 : Int) ≤ (a : Int) := by omega
      have i4 : (a : Int) < (n : Int) := by omega
      unfold Pr.val at HC
      clear hzz hh ea eh la lh hmx hqo hxo hPr hq ht hz1 hz2
      cases hlc : bytesLess q.key x.key with
      | true =>
        have hzl : z < 0 := hz.2 hlc
        have Hfin := Lib.hid (show ∀ z, (Q.take (h + 1 - m)).getLast? = some z → bytesLess z.key x.key = true from fun z hz => by
          rw [show h + 1 - m = t + 1 from by have := Ht.out; omega, tQ] at hz
          simp at hz; subst hz; exact hlc)
        clear hz hlc dQ tQ
        go_wp2
        have hHeld : (fun W : World => (W.cell? ⟨g, h * 2, none⟩ = some (.slice q.A1 q.n1 q.c1) ∧ W.cell? ⟨g, h * 2 + 1, none⟩ = some (.slice q.A2 q.n2 q.c2)) ∧ W.cell? ⟨g, a * 2, none⟩ = some (.slice x.A1 x.n1 x.c1) ∧ W.cell? ⟨g, a * 2 + 1, none⟩ = some (.slice x.A2 x.n2 x.c2)) wr.drew := ⟨c0, c1⟩
        refine wp_region_noPanic ?_
        refine wp_region_held (S := fun W : World => (W.cell? ⟨g, h * 2, none⟩ = some (.slice q.A1 q.n1 q.c1) ∧ W.cell? ⟨g, h * 2 + 1, none⟩ = some (.slice q.A2 q.n2 q.c2)) ∧ W.cell? ⟨g, a * 2, none⟩ = some (.slice x.A1 x.n1 x.c1) ∧ W.cell? ⟨g, a * 2 + 1, none⟩ = some (.slice x.A2 x.n2 x.c2)) (by kernel_rfl) ?_
        simp only [List.size_toArray, List.length_cons, List.length_nil, Nat.reduceAdd]
        refine heldTake (i := 0) (v := ?_) rfl (by kernel_rfl) (by kernel_rfl) (by kernel_rfl) (fun _ _ _ h => h) hHeld (by rfl) ?_ ?_
        rotate_left
        · (intro w hSw; (try dsimp only at hSw); go_simp; try with_reducible rfl)
        try simp only [Act.put, List.setIfInBounds_toArray, List.set_cons_zero, List.set_cons_succ]
        refine heldTake (i := 1) (v := ?_) rfl (by kernel_rfl) (by kernel_rfl) (by kernel_rfl) (fun _ _ _ h => h) hHeld (by rfl) ?_ ?_
        rotate_left
        · (intro w hSw; (try dsimp only at hSw); go_simp; try with_reducible rfl)
        try simp only [Act.put, List.setIfInBounds_toArray, List.set_cons_zero, List.set_cons_succ]
        refine heldTake (i := 2) (v := ?_) rfl (by kernel_rfl) (by kernel_rfl) (by kernel_rfl) (fun _ _ _ h => h) hHeld (by rfl) ?_ ?_
        rotate_left
        · (intro w hSw; (try dsimp only at hSw); go_simp; try with_reducible rfl)
        try simp only [Act.put, List.setIfInBounds_toArray, List.set_cons_zero, List.set_cons_succ]
        refine heldTake (i := 3) (v := ?_) rfl (by kernel_rfl) (by kernel_rfl) (by kernel_rfl) (fun _ _ _ h => h) hHeld (by rfl) ?_ ?_
        rotate_left
        · (intro w hSw; (try dsimp only at hSw); go_simp; try with_reducible rfl)
        try simp only [Act.put, List.setIfInBounds_toArray, List.set_cons_zero, List.set_cons_succ]
        refine heldTake (i := 4) (v := ?_) rfl (by kernel_rfl) (by kernel_rfl) (by kernel_rfl) (fun _ _ _ h => h) hHeld (by rfl) ?_ ?_
        rotate_left
        · (intro w hSw; (try dsimp only at hSw); go_simp; try with_reducible rfl)
        try simp only [Act.put, List.setIfInBounds_toArray, List.set_cons_zero, List.set_cons_succ]
        refine heldTake (i := 5) (v := ?_) rfl (by kernel_rfl) (by kernel_rfl) (by kernel_rfl) (fun _ _ _ h => h) hHeld (by rfl) ?_ ?_
        rotate_left
        · (intro w hSw; (try dsimp only at hSw); go_simp; try with_reducible rfl)
        try simp only [Act.put, List.setIfInBounds_toArray, List.set_cons_zero, List.set_cons_succ]
        refine heldTake (i := 6) (v := ?_) rfl (by kernel_rfl) (by kernel_rfl) (by kernel_rfl) (fun _ _ _ h => h) hHeld (by rfl) ?_ ?_
        rotate_left
        · (intro w hSw; (try dsimp only at hSw); go_simp; try with_reducible rfl)
        try simp only [Act.put, List.setIfInBounds_toArray, List.set_cons_zero, List.set_cons_succ]
        refine heldTake (i := 7) (v := ?_) rfl (by kernel_rfl) (by kernel_rfl) (by kernel_rfl) (fun _ _ _ h => h) hHeld (by rfl) ?_ ?_
        rotate_left
        · (intro w hSw; (try dsimp only at hSw); go_simp; try with_reducible rfl)
        try simp only [Act.put, List.setIfInBounds_toArray, List.set_cons_zero, List.set_cons_succ]
        refine heldTake (i := 8) (v := ?_) rfl (by kernel_rfl) (by kernel_rfl) (by kernel_rfl) (fun _ _ _ h => h) hHeld (by rfl) ?_ ?_
        rotate_left
        · (intro w hSw; (try dsimp only at hSw); go_simp; try with_reducible rfl)
        try simp only [Act.put, List.setIfInBounds_toArray, List.set_cons_zero, List.set_cons_succ]
        refine heldStep (i := 9) rfl (by kernel_rfl) (fun K hK => ?_)
        go_simp
        go_at_call 37
        refine HC.out.mono ?_
        rintro e w5 ⟨rfl, hb5⟩
        have hb5w : Below wr.heap.size wr w5 := ((Below.refl wr.heap.size wr).drew).trans hb5
        refine hK.out _ _ (⟨⟨(hb5.cell (p := ⟨g, h * 2, none⟩) HP.out.lt).trans c0.1, (hb5.cell (p := ⟨g, h * 2 + 1, none⟩) HP.out.lt).trans c0.2⟩, (hb5.cell (p := ⟨g, a * 2, none⟩) HP.out.lt).trans c1.1, (hb5.cell (p := ⟨g, a * 2 + 1, none⟩) HP.out.lt).trans c1.2⟩) (fun hHeld => ?_)
        clear hK K
        try simp only [Act.put, List.setIfInBounds_toArray, List.set_cons_zero, List.set_cons_succ]
        refine heldTake (i := 10) (v := ?_) rfl (by kernel_rfl) (by kernel_rfl) (by kernel_rfl) (fun _ _ _ h => h) hHeld (by rfl) ?_ ?_
        rotate_left
        · (intro w hSw; (try dsimp only at hSw); go_simp; try with_reducible rfl)
        try simp only [Act.put, List.setIfInBounds_toArray, List.set_cons_zero, List.set_cons_succ]
        refine wpAnyH_done (by kernel_rfl) ?_ _
        refine NoPanic.normal ?_
        go_wp2
        exact ⟨⟨h + 1, j, by go_num, rfl, by omega, by omega, hjb, Hfin.out, Hz2.out, HP.out.below hb5w HP.out.lt, hkb.trans (Kb.of_below hb5w : Kb [] wr w5) (fun b hb => by simp at hb)⟩, by simp [intOf]; omega⟩
      | false =>
        have hzl : ¬ z < 0 := fun h => by rw [hz.1 h] at hlc; cases hlc
        have Hfin := Lib.hid (show ∀ y, (Q.drop (h - m)).head? = some y → bytesLess y.key x.key = false from fun y hy => by
          rw [← Ht.out, dQ] at hy
          simp at hy; subst hy; exact hlc)
        clear hz hlc dQ tQ
        go_wp2
        have hHeld : (fun W : World => (W.cell? ⟨g, h * 2, none⟩ = some (.slice q.A1 q.n1 q.c1) ∧ W.cell? ⟨g, h * 2 + 1, none⟩ = some (.slice q.A2 q.n2 q.c2)) ∧ W.cell? ⟨g, a * 2, none⟩ = some (.slice x.A1 x.n1 x.c1) ∧ W.cell? ⟨g, a * 2 + 1, none⟩ = some (.slice x.A2 x.n2 x.c2)) wr.drew := ⟨c0, c1⟩
        refine wp_region_noPanic ?_
        refine wp_region_held (S := fun W : World => (W.cell? ⟨g, h * 2, none⟩ = some (.slice q.A1 q.n1 q.c1) ∧ W.cell? ⟨g, h * 2 + 1, none⟩ = some (.slice q.A2 q.n2 q.c2)) ∧ W.cell? ⟨g, a * 2, none⟩ = some (.slice x.A1 x.n1 x.c1) ∧ W.cell? ⟨g, a * 2 + 1, none⟩ = some (.slice x.A2 x.n2 x.c2)) (by kernel_rfl) ?_
        simp only [List.size_toArray, List.length_cons, List.length_nil, Nat.reduceAdd]
        refine heldTake (i := 0) (v := ?_) rfl (by kernel_rfl) (by kernel_rfl) (by kernel_rfl) (fun _ _ _ h => h) hHeld (by rfl) ?_ ?_
        rotate_left
        · (intro w hSw; (try dsimp only at hSw); go_simp; try with_reducible rfl)
        try simp only [Act.put, List.setIfInBounds_toArray, List.set_cons_zero, List.set_cons_succ]
        refine heldTake (i := 1) (v := ?_) rfl (by kernel_rfl) (by kernel_rfl) (by kernel_rfl) (fun _ _ _ h => h) hHeld (by rfl) ?_ ?_
        rotate_left
        · (intro w hSw; (try dsimp only at hSw); go_simp; try with_reducible rfl)
        try simp only [Act.put, List.setIfInBounds_toArray, List.set_cons_zero, List.set_cons_succ]
        refine heldTake (i := 2) (v := ?_) rfl (by kernel_rfl) (by kernel_rfl) (by kernel_rfl) (fun _ _ _ h => h) hHeld (by rfl) ?_ ?_
        rotate_left
        · (intro w hSw; (try dsimp only at hSw); go_simp; try with_reducible rfl)
        try simp only [Act.put, List.setIfInBounds_toArray, List.set_cons_zero, List.set_cons_succ]
        refine heldTake (i := 3) (v := ?_) rfl (by kernel_rfl) (by kernel_rfl) (by kernel_rfl) (fun _ _ _ h => h) hHeld (by rfl) ?_ ?_
        rotate_left
        · (intro w hSw; (try dsimp only at hSw); go_simp; try with_reducible rfl)
        try simp only [Act.put, List.setIfInBounds_toArray, List.set_cons_zero, List.set_cons_succ]
        refine heldTake (i := 4) (v := ?_) rfl (by kernel_rfl) (by kernel_rfl) (by kernel_rfl) (fun _ _ _ h => h) hHeld (by rfl) ?_ ?_
        rotate_left
        · (intro w hSw; (try dsimp only at hSw); go_simp; try with_reducible rfl)
        try simp only [Act.put, List.setIfInBounds_toArray, List.set_cons_zero, List.set_cons_succ]
        refine heldTake (i := 5) (v := ?_) rfl (by kernel_rfl) (by kernel_rfl) (by kernel_rfl) (fun _ _ _ h => h) hHeld (by rfl) ?_ ?_
        rotate_left
        · (intro w hSw; (try dsimp only at hSw); go_simp; try with_reducible rfl)
        try simp only [Act.put, List.setIfInBounds_toArray, List.set_cons_zero, List.set_cons_succ]
        refine heldTake (i := 6) (v := ?_) rfl (by kernel_rfl) (by kernel_rfl) (by kernel_rfl) (fun _ _ _ h => h) hHeld (by rfl) ?_ ?_
        rotate_left
        · (intro w hSw; (try dsimp only at hSw); go_simp; try with_reducible rfl)
        try simp only [Act.put, List.setIfInBounds_toArray, List.set_cons_zero, List.set_cons_succ]
        refine heldTake (i := 7) (v := ?_) rfl (by kernel_rfl) (by kernel_rfl) (by kernel_rfl) (fun _ _ _ h => h) hHeld (by rfl) ?_ ?_
        rotate_left
        · (intro w hSw; (try dsimp only at hSw); go_simp; try with_reducible rfl)
        try simp only [Act.put, List.setIfInBounds_toArray, List.set_cons_zero, List.set_cons_succ]
        refine heldTake (i := 8) (v := ?_) rfl (by kernel_rfl) (by kernel_rfl) (by kernel_rfl) (fun _ _ _ h => h) hHeld (by rfl) ?_ ?_
        rotate_left
        · (intro w hSw; (try dsimp only at hSw); go_simp; try with_reducible rfl)
        try simp only [Act.put, List.setIfInBounds_toArray, List.set_cons_zero, List.set_cons_succ]
        refine heldStep (i := 9) rfl (by kernel_rfl) (fun K hK => ?_)
        go_simp
        go_at_call 37
        refine HC.out.mono ?_
        rintro e w5 ⟨rfl, hb5⟩
        have hb5w : Below wr.heap.size wr w5 := ((Below.refl wr.heap.size wr).drew).trans hb5
        refine hK.out _ _ (⟨⟨(hb5.cell (p := ⟨g, h * 2, none⟩) HP.out.lt).trans c0.1, (hb5.cell (p := ⟨g, h * 2 + 1, none⟩) HP.out.lt).trans c0.2⟩, (hb5.cell (p := ⟨g, a * 2, none⟩) HP.out.lt).trans c1.1, (hb5.cell (p := ⟨g, a * 2 + 1, none⟩) HP.out.lt).trans c1.2⟩) (fun hHeld => ?_)
        clear hK K
        try simp only [Act.put, List.setIfInBounds_toArray, List.set_cons_zero, List.set_cons_succ]
        refine heldTake (i := 10) (v := ?_) rfl (by kernel_rfl) (by kernel_rfl) (by kernel_rfl) (fun _ _ _ h => h) hHeld (by rfl) ?_ ?_
        rotate_left
        · (intro w hSw; (try dsimp only at hSw); go_simp; try with_reducible rfl)
        try simp only [Act.put, List.setIfInBounds_toArray, List.set_cons_zero, List.set_cons_succ]
        refine wpAnyH_done (by kernel_rfl) ?_ _
        refine NoPanic.normal ?_
        go_wp2
        exact ⟨⟨i, h, rfl, rfl, hmi, by omega, by omega, Hz1.out, Hfin.out, HP.out.below hb5w HP.out.lt, hkb.trans (Kb.of_below hb5w : Kb [] wr w5) (fun b hb => by simp at hb)⟩, by simp [intOf]; omega⟩
    · obtain rfl : i = j := by omega
      obtain ⟨t, ht⟩ : ∃ t, t = i - m := ⟨_, rfl⟩
      rw [← ht] at hz1 hz2
      have htQ : t ≤ Q.length := by have := Hm.out; have := Hb.out; omega
      have hsQ := hs
      rw [← List.take_append_drop t Q] at hsQ
      have hput := put_left (x := x) hsQ hz1 hz2
      rw [List.take_append_drop] at hput
      have Hput := Lib.hid hput
      have hlt' : ¬ (i : Int) < (i : Int) := by omega
      have w2 : IntKind.i64.wrap ((i : Int) - 1) = ((a + t : Nat) : Int) := by have := Ha.out; have := Hm.out; rw [IntWalk.i64_in _ (by omega)]; omega
      obtain ⟨e, he⟩ : ∃ e, e = a + t := ⟨_, rfl⟩
      rw [← he] at w2
      have He := Lib.hid he
      clear hz1 hz2 hsQ hput ht he
      go_wp2
      go_loopw [13] (fun vk wr => ∃ s : Nat, vk = .int .i64 ((a + s : Nat) : Int) ∧ s ≤ t ∧ PrB 56 wr g (U ++ Q.take s ++ x :: (Q.drop s ++ D)) ∧ Kb [g] w wr) (fun vk _ => e - (intOf vk).toNat)
      case atStart => exact ⟨0, rfl, Nat.zero_le _, by simpa using hPr, hkb⟩
      case round =>
        clear hPr hkb
        obtain ⟨s, rfl, hst, hPr, hkb⟩ := hrel
        obtain ⟨k, hk⟩ : ∃ k, k = a + s := ⟨_, rfl⟩
        rw [← hk]
        by_cases hlt2 : s < t
        · have hsQ : s < Q.length := by omega
          obtain ⟨q, hq⟩ : ∃ q, q = Q[s] := ⟨_, rfl⟩
          have dQ : Q.drop s = q :: Q.drop (s + 1) := by rw [hq]; exact List.drop_eq_getElem_cons hsQ
          have tQ : Q.take (s + 1) = Q.take s ++ [q] := by rw [hq]; exact List.take_succ_eq_append_getElem hsQ
          have hlk : (k : Int) < (e : Int) := by have := He.out; omega
          have hrow : U ++ Q.take s ++ x :: (Q.drop s ++ D) = (U ++ Q.take s) ++ x :: ([] ++ q :: (Q.drop (s + 1) ++ D)) := by rw [dQ]; simp
          have hrow2 : (U ++ Q.take s) ++ q :: ([] ++ x :: (Q.drop (s + 1) ++ D)) = U ++ Q.take (s + 1) ++ x :: (Q.drop (s + 1) ++ D) := by rw [tQ]; simp
          rw [hrow] at hPr
          obtain ⟨hfin, c0, c1⟩ := hPr.swapFar (i := k) (j := k + 1) (by rw [List.length_append, List.length_take, Nat.min_eq_left (by omega), hk, Ha.out]) (by simp only [List.length_append, List.length_take, List.length_nil]; rw [Nat.min_eq_left (by omega), hk, Ha.out])
          have z := hPr.frz
          rw [hrow2] at hfin
          have Hfin := Lib.hid hfin
          obtain ⟨k1, k2, k3⟩ := swap_cells (p := k) (r := k + 1) (a1 := .slice q.A1 q.n1 q.c1) (a2 := .slice q.A2 q.n2 q.c2) (b1 := .slice x.A1 x.n1 x.c1) (by omega) c0.1 c0.2 c1.1 c1.2
          have hkn : k + 1 < n := by have := Ha.out; have := Hn.out; omega
          have w4 : IntKind.i64.wrap ((k : Int) + 1) = (k : Int) + 1 := IntWalk.i64_in _ (by omega)
          have w5 : IntKind.i64.wrap (k : Int) = (k : Int) := IntWalk.i64_in _ (by omega)
          have i1 : (0 : Int) ≤ (k : Int) := by omega
          have i2 : (k : Int) < (n : Int) := by omega
          have i3 : (0 : Int) ≤ (k : Int) + 1 := by omega
          have i4 : (k : Int) + 1 < (n : Int) := by omega
          have Hk := Lib.hid hk
          have Hkb := Lib.hid hkb
          clear hPr hrow hrow2 dQ tQ hq hfin hk hsQ hkb
          go_wp2
          have hHeld : (fun W : World => (W.cell? ⟨g, k * 2, none⟩ = some (.slice x.A1 x.n1 x.c1) ∧ W.cell? ⟨g, k * 2 + 1, none⟩ = some (.slice x.A2 x.n2 x.c2)) ∧ W.cell? ⟨g, (k + 1) * 2, none⟩ = some (.slice q.A1 q.n1 q.c1) ∧ W.cell? ⟨g, (k + 1) * 2 + 1, none⟩ = some (.slice q.A2 q.n2 q.c2)) wr.drew := ⟨c0, c1⟩
          refine wp_region_U (S := fun W : World => (W.cell? ⟨g, k * 2, none⟩ = some (.slice x.A1 x.n1 x.c1) ∧ W.cell? ⟨g, k * 2 + 1, none⟩ = some (.slice x.A2 x.n2 x.c2)) ∧ W.cell? ⟨g, (k + 1) * 2, none⟩ = some (.slice q.A1 q.n1 q.c1) ∧ W.cell? ⟨g, (k + 1) * 2 + 1, none⟩ = some (.slice q.A2 q.n2 q.c2)) (ks := [9, 13]) (by kernel_rfl) ?_
          simp only [List.size_toArray, List.length_cons, List.length_nil, Nat.reduceAdd]
          refine uPure (i := 0) (v := ?_) rfl (by kernel_rfl) (by kernel_rfl) (by kernel_rfl) (by kernel_rfl) (fun _ _ _ h => h) (by rfl) ?_ ?_
          rotate_left
          · (intro w; go_simp; try with_reducible rfl)
          try simp only [Act.put, List.setIfInBounds_toArray, List.set_cons_zero, List.set_cons_succ]
          refine uPure (i := 1) (v := ?_) rfl (by kernel_rfl) (by kernel_rfl) (by kernel_rfl) (by kernel_rfl) (fun _ _ _ h => h) (by rfl) ?_ ?_
          rotate_left
          · (intro w; go_simp; try with_reducible rfl)
          try simp only [Act.put, List.setIfInBounds_toArray, List.set_cons_zero, List.set_cons_succ]
          refine uPure (i := 2) (v := ?_) rfl (by kernel_rfl) (by kernel_rfl) (by kernel_rfl) (by kernel_rfl) (fun _ _ _ h => h) (by rfl) ?_ ?_
          rotate_left
          · (intro w; go_simp; try with_reducible rfl)
          try simp only [Act.put, List.setIfInBounds_toArray, List.set_cons_zero, List.set_cons_succ]
          refine uPure (i := 3) (v := ?_) rfl (by kernel_rfl) (by kernel_rfl) (by kernel_rfl) (by kernel_rfl) (fun _ _ _ h => h) (by rfl) ?_ ?_
          rotate_left
          · (intro w; go_simp; try with_reducible rfl)
          try simp only [Act.put, List.setIfInBounds_toArray, List.set_cons_zero, List.set_cons_succ]
          refine uPure (i := 4) (v := ?_) rfl (by kernel_rfl) (by kernel_rfl) (by kernel_rfl) (by kernel_rfl) (fun _ _ _ h => h) (by rfl) ?_ ?_
          rotate_left
          · (intro w; go_simp; try with_reducible rfl)
          try simp only [Act.put, List.setIfInBounds_toArray, List.set_cons_zero, List.set_cons_succ]
          refine uPure (i := 5) (v := ?_) rfl (by kernel_rfl) (by kernel_rfl) (by kernel_rfl) (by kernel_rfl) (fun _ _ _ h => h) (by rfl) ?_ ?_
          rotate_left
          · (intro w; go_simp; try with_reducible rfl)
          try simp only [Act.put, List.setIfInBounds_toArray, List.set_cons_zero, List.set_cons_succ]
          refine uPure (i := 6) (v := ?_) rfl (by kernel_rfl) (by kernel_rfl) (by kernel_rfl) (by kernel_rfl) (fun _ _ _ h => h) (by rfl) ?_ ?_
          rotate_left
          · (intro w; go_simp; try with_reducible rfl)
          try simp only [Act.put, List.setIfInBounds_toArray, List.set_cons_zero, List.set_cons_succ]
          refine uPure (i := 7) (v := ?_) rfl (by kernel_rfl) (by kernel_rfl) (by kernel_rfl) (by kernel_rfl) (fun _ _ _ h => h) (by rfl) ?_ ?_
          rotate_left
          · (intro w; go_simp; try with_reducible rfl)
          try simp only [Act.put, List.setIfInBounds_toArray, List.set_cons_zero, List.set_cons_succ]
          refine uPure (i := 8) (v := ?_) rfl (by kernel_rfl) (by kernel_rfl) (by kernel_rfl) (by kernel_rfl) (fun _ _ _ h => h) (by rfl) ?_ ?_
          rotate_left
          · (intro w; go_simp; try with_reducible rfl)
          try simp only [Act.put, List.setIfInBounds_toArray, List.set_cons_zero, List.set_cons_succ]
          refine uPure (i := 10) (v := ?_) rfl (by kernel_rfl) (by kernel_rfl) (by kernel_rfl) (by kernel_rfl) (fun _ _ _ h => h) (by rfl) ?_ ?_
          rotate_left
          · (intro w; go_simp; try with_reducible rfl)
          try simp only [Act.put, List.setIfInBounds_toArray, List.set_cons_zero, List.set_cons_succ]
          refine uPure (i := 11) (v := ?_) rfl (by kernel_rfl) (by kernel_rfl) (by kernel_rfl) (by kernel_rfl) (fun _ _ _ h => h) (by rfl) ?_ ?_
          rotate_left
          · (intro w; go_simp; try with_reducible rfl)
          try simp only [Act.put, List.setIfInBounds_toArray, List.set_cons_zero, List.set_cons_succ]
          refine uPure (i := 12) (v := ?_) rfl (by kernel_rfl) (by kernel_rfl) (by kernel_rfl) (by kernel_rfl) (fun _ _ _ h => h) (by rfl) ?_ ?_
          rotate_left
          · (intro w; go_simp; try with_reducible rfl)
          try simp only [Act.put, List.setIfInBounds_toArray, List.set_cons_zero, List.set_cons_succ]
          refine uTake (i := 9) (v := ?_) rfl (by kernel_rfl) (by kernel_rfl) (by kernel_rfl) (by kernel_rfl) (fun _ _ _ h => h) hHeld (by rfl) ?_ ?_
          rotate_left
          · (intro w hSw; (try dsimp only at hSw); go_simp; try with_reducible rfl)
          try simp only [Act.put, List.setIfInBounds_toArray, List.set_cons_zero, List.set_cons_succ]
          refine uTake (i := 13) (v := ?_) rfl (by kernel_rfl) (by kernel_rfl) (by kernel_rfl) (by kernel_rfl) (fun _ _ _ h => h) hHeld (by rfl) ?_ ?_
          rotate_left
          · (intro w hSw; (try dsimp only at hSw); go_simp; try with_reducible rfl)
          try simp only [Act.put, List.setIfInBounds_toArray, List.set_cons_zero, List.set_cons_succ]
          refine uPure (i := 14) (v := ?_) rfl (by kernel_rfl) (by kernel_rfl) (by kernel_rfl) (by kernel_rfl) (fun _ _ _ h => h) (by rfl) ?_ ?_
          rotate_left
          · (intro w; go_simp; try with_reducible rfl)
          try simp only [Act.put, List.setIfInBounds_toArray, List.set_cons_zero, List.set_cons_succ]
          refine uStep (i := 15) rfl (by kernel_rfl) (fun K hK => ?_)
          go_simp
          refine hK.out _ _ (fun h => absurd h (by decide)) ?_
          clear hK K
          try simp only [Act.put, List.setIfInBounds_toArray, List.set_cons_zero, List.set_cons_succ]
          refine uPure (i := 16) (v := ?_) rfl (by kernel_rfl) (by kernel_rfl) (by kernel_rfl) (by kernel_rfl) (fun _ _ _ h => h) (by rfl) ?_ ?_
          rotate_left
          · (intro w; go_simp; try with_reducible rfl)
          try simp only [Act.put, List.setIfInBounds_toArray, List.set_cons_zero, List.set_cons_succ]
          refine uStep (i := 17) rfl (by kernel_rfl) (fun K hK => ?_)
          go_simp
          refine hK.out _ _ (fun h => absurd h (by decide)) ?_
          clear hK K
          try simp only [Act.put, List.setIfInBounds_toArray, List.set_cons_zero, List.set_cons_succ]
          refine uDone (by kernel_rfl) ?_ _
          go_wp2
          refine ⟨⟨s + 1, by rw [show a + (s + 1) = k + 1 from by have := Hk.out; omega]; go_num, by omega, Hfin.out.drew, ((((Hkb.out.setCell (p := ⟨g, k * 2, none⟩) (.inl (by simp)) _).setCell (p := ⟨g, k * 2 + 1, none⟩) (.inl (by simp)) _).setCell (p := ⟨g, (k + 1) * 2, none⟩) (.inl (by simp)) _).setCell (p := ⟨g, (k + 1) * 2 + 1, none⟩) (.inl (by simp)) _).drew⟩, ?_⟩
          simp [intOf]; omega
        · obtain rfl : s = t := by omega
          have hlk : ¬ (k : Int) < (e : Int) := by have := He.out; omega
          have hfin : PrB 56 wr g (U ++ (Q.take s ++ x :: Q.drop s) ++ D) := by simpa only [List.append_assoc, List.cons_append] using hPr
          clear hPr hk
          go_wp2
          refine bodyPost_ret (results_none rfl _ _ _) rfl ?_
          exact ⟨rfl, _, hfin, Hput.out.1, Hput.out.2, hkb⟩
end Go.Proofs.Ytedelkifadonjaa
