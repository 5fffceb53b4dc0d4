/- Layer 23: the insertion sort. -/
import Derived.Test.YtjkjlekfeelfpaaMsA
import Derived.Test.YtjkjlekfeelfpaaBlPlain
namespace Go.Proofs.Ytjkjlekfeelfpaa
open Go.RowKit Go.Lec Go.Op
/-- What a sorted stretch is. -/
def SrtP (w : World) (g : Nat) (U M D : List Pr) (e : Ending) (w' : World) : Prop :=
  e = .returned (.tuple #[]) ∧ ∃ S, PrB 42 w' g (U ++ S ++ D) ∧ Stb Pr.key M S ∧ SrtK Pr.key S ∧ Kb [g] w w'
theorem pr_mem {L L' : List Pr} (h : Stb Pr.key L L') {U D : List Pr} : ∀ m ∈ U ++ L' ++ D, m ∈ U ++ L ++ D := fun m hm => by
  simp only [List.mem_append] at hm ⊢
  rcases hm with (hm | hm) | hm
  · exact .inl (.inl hm)
  · exact .inl (.inr (h.mem.1 hm))
  · exact .inr hm
set_option maxRecDepth 100000 in
set_option maxHeartbeats 4000000 in
theorem c_ins (w : World) {g n c : Nat} {U M D : List Pr} (hP : PrB 42 w g (U ++ M ++ D)) (hok : PrOk w g (U ++ M ++ D)) (hn : U.length + M.length + D.length = n) (hnc : n ≤ c) (hn2 : n ≤ 100000) :
    Calls Try.prog 68 #[.slice (some ⟨g, 0, none⟩) n c, .int .i64 (U.length : Int), .int .i64 ((U.length + M.length : Nat) : Int), .func (.func 31) #[] #[]] w (SrtP w g U M D) := by
  obtain ⟨a, ha⟩ : ∃ a, a = U.length := ⟨_, rfl⟩
  obtain ⟨b, hb⟩ : ∃ b, b = U.length + M.length := ⟨_, rfl⟩
  rw [← hb, ← ha]
  have Ha := Lib.hid ha
  have Hb := Lib.hid hb
  have HOk := Lib.hid (fun (W : World) (hk : Kb [g] w W) => hok.kb hk)
  have Hn := Lib.hid hn
  have hba : b ≤ n := by omega
  have hab : a ≤ b := by omega
  clear ha hb hok hn
  go_enter Try.func68, Try.ntmps68
  go_wp2
  go_loopw [8] (fun i wr => ∃ (k : Nat) (S : List Pr), i = .int .i64 ((a + k : Nat) : Int) ∧ 1 ≤ k ∧ (k ≤ M.length ∨ M = []) ∧ PrB 42 wr g (U ++ S ++ (M.drop k ++ D)) ∧ Stb Pr.key (M.take k) S ∧ SrtK Pr.key S ∧ Kb [g] w wr) (fun i _ => b - (intOf i).toNat)
  case atStart => exact ⟨1, M.take 1, by go_num, Nat.le_refl _, by cases M <;> simp, by rw [List.append_assoc, ← List.append_assoc (M.take 1), List.take_append_drop, ← List.append_assoc]; exact hP, Stb.refl _, by cases M <;> simp [SrtK], Kb.refl _ _⟩
  case round =>
    obtain ⟨k, S, rfl, hk1, hkM, hPr, hst, hsr, hkb⟩ := hrel
    clear hP
    by_cases hlt : a + k < b
    · have hkl : k < M.length := by have := Ha.out; have := Hb.out; omega
      obtain ⟨x, hx⟩ : ∃ x, x = M[k] := ⟨_, rfl⟩
      have hdr : M.drop k = x :: M.drop (k + 1) := by rw [hx]; exact List.drop_eq_getElem_cons hkl
      have htk : M.take (k + 1) = M.take k ++ [x] := by rw [hx]; exact List.take_succ_eq_append_getElem hkl
      have hSl : S.length = k := by rw [hst.length, List.length_take]; omega
      obtain ⟨R, hR⟩ : ∃ R, R = M.drop (k + 1) ++ D := ⟨_, rfl⟩
      rw [hdr, List.cons_append, ← hR] at hPr
      have HR := Lib.hid hR
      have Htk := Lib.hid htk
      have HSl := Lib.hid hSl
      have hxm : x ∈ M := by rw [hx]; exact List.getElem_mem hkl
      have HNx := Lib.hid (show ∀ (V1 V2 : List Pr) (W : World), S = V1 ++ V2 → (∀ y ∈ V2, bytesLess x.key y.key = true) → (∀ z, V1.getLast? = some z → bytesLess x.key z.key = false) → PrB 42 W g (U ++ V1 ++ x :: (V2 ++ R)) →
          PrB 42 W g (U ++ (V1 ++ x :: V2) ++ (M.drop (k + 1) ++ D)) ∧ Stb Pr.key (M.take (k + 1)) (V1 ++ x :: V2) ∧ SrtK Pr.key (V1 ++ x :: V2) from fun V1 V2 W h1 h2 h3 h4 => by
        subst h1
        obtain ⟨p1, p2⟩ := put_right (x := x) hsr h3 (fun y hy => h2 y (List.mem_of_mem_head? hy))
        refine ⟨by rw [← hR]; simpa only [List.append_assoc, List.cons_append] using h4, ?_, p2⟩
        rw [htk]
        exact (hst.app (Stb.refl [x])).trans p1)
      clear hdr htk hSl hR hx
      have hlt' : ((a + k : Nat) : Int) < (b : Int) := by omega
      go_wp2
      go_loopw [9] (fun j wr => ∃ V1 V2 : List Pr, j = .int .i64 ((a + V1.length : Nat) : Int) ∧ S = V1 ++ V2 ∧ (∀ y ∈ V2, bytesLess x.key y.key = true) ∧ PrB 42 wr g (U ++ V1 ++ x :: (V2 ++ R)) ∧ Kb [g] w wr) (fun j _ => (intOf j).toNat)
      case atStart => exact ⟨S, [], by rw [HSl.out], by simp, (fun y hy => by cases hy), by simpa using hPr, hkb⟩
      case round =>
        obtain ⟨V1, V2, rfl, hSv, hV2, hPv, hkv⟩ := hrel
        have HSv := Lib.hid hSv
        clear hPr hSv
        have hV1 : V1 = [] ∨ ∃ V y, V1 = V ++ [y] := by
          rcases List.eq_nil_or_concat V1 with h | ⟨V, y, h⟩
          · exact .inl h
          · exact .inr ⟨V, y, by simpa using h⟩
        rcases hV1 with rfl | ⟨V, y, rfl⟩
        · have hg : decide ((a : Int) < (a : Int)) = false := by simp
          simp only [List.length_nil, Nat.add_zero]
          go_wp2
          have hHeld : (fun W : World => True) wr.drew := trivial
          refine wp_region_noPanic ?_
          refine wp_region_held (S := fun W : World => True) (by kernel_rfl) ?_
          simp only [List.size_toArray, List.length_cons, List.length_nil, Nat.reduceAdd]
          refine heldTake (i := 0) (v := ?_) rfl (by kernel_rfl) (by kernel_rfl) (by kernel_rfl) (fun _ _ _ h => h) hHeld (by rfl) ?_ ?_
          rotate_left
          · (intro w hSw; (try dsimp only at hSw); go_simp; try with_reducible rfl)
          try simp only [Act.put, List.setIfInBounds_toArray, List.set_cons_zero, List.set_cons_succ]
          refine heldTake (i := 1) (v := ?_) rfl (by kernel_rfl) (by kernel_rfl) (by kernel_rfl) (fun _ _ _ h => h) hHeld (by rfl) ?_ ?_
          rotate_left
          · (intro w hSw; (try dsimp only at hSw); go_simp; try with_reducible rfl)
          try simp only [Act.put, List.setIfInBounds_toArray, List.set_cons_zero, List.set_cons_succ]
          refine heldTake (i := 2) (v := ?_) rfl (by kernel_rfl) (by kernel_rfl) (by kernel_rfl) (fun _ _ _ h => h) hHeld (by rfl) ?_ ?_
          rotate_left
          · (intro w hSw; (try dsimp only at hSw); go_simp; try with_reducible rfl)
          try simp only [Act.put, List.setIfInBounds_toArray, List.set_cons_zero, List.set_cons_succ]
          refine heldTake (i := 3) (v := ?_) rfl (by kernel_rfl) (by kernel_rfl) (by kernel_rfl) (fun _ _ _ h => h) hHeld (by rfl) ?_ ?_
          rotate_left
          · (intro w hSw; (try dsimp only at hSw); go_simp; try with_reducible rfl)
          try simp only [Act.put, List.setIfInBounds_toArray, List.set_cons_zero, List.set_cons_succ]
          refine heldPass (i := 4) rfl (by kernel_rfl) (by kernel_rfl) (by kernel_rfl) (fun _ _ _ h => h) hHeld (by rfl) ?_
          try simp only [Act.put, List.setIfInBounds_toArray, List.set_cons_zero, List.set_cons_succ]
          refine heldPass (i := 5) rfl (by kernel_rfl) (by kernel_rfl) (by kernel_rfl) (fun _ _ _ h => h) hHeld (by rfl) ?_
          try simp only [Act.put, List.setIfInBounds_toArray, List.set_cons_zero, List.set_cons_succ]
          refine heldPass (i := 6) rfl (by kernel_rfl) (by kernel_rfl) (by kernel_rfl) (fun _ _ _ h => h) hHeld (by rfl) ?_
          try simp only [Act.put, List.setIfInBounds_toArray, List.set_cons_zero, List.set_cons_succ]
          refine heldPass (i := 7) rfl (by kernel_rfl) (by kernel_rfl) (by kernel_rfl) (fun _ _ _ h => h) hHeld (by rfl) ?_
          try simp only [Act.put, List.setIfInBounds_toArray, List.set_cons_zero, List.set_cons_succ]
          refine heldPass (i := 8) rfl (by kernel_rfl) (by kernel_rfl) (by kernel_rfl) (fun _ _ _ h => h) hHeld (by rfl) ?_
          try simp only [Act.put, List.setIfInBounds_toArray, List.set_cons_zero, List.set_cons_succ]
          refine heldPass (i := 9) rfl (by kernel_rfl) (by kernel_rfl) (by kernel_rfl) (fun _ _ _ h => h) hHeld (by rfl) ?_
          try simp only [Act.put, List.setIfInBounds_toArray, List.set_cons_zero, List.set_cons_succ]
          refine heldPass (i := 10) rfl (by kernel_rfl) (by kernel_rfl) (by kernel_rfl) (fun _ _ _ h => h) hHeld (by rfl) ?_
          try simp only [Act.put, List.setIfInBounds_toArray, List.set_cons_zero, List.set_cons_succ]
          refine heldPass (i := 11) rfl (by kernel_rfl) (by kernel_rfl) (by kernel_rfl) (fun _ _ _ h => h) hHeld (by rfl) ?_
          try simp only [Act.put, List.setIfInBounds_toArray, List.set_cons_zero, List.set_cons_succ]
          refine heldPass (i := 12) rfl (by kernel_rfl) (by kernel_rfl) (by kernel_rfl) (fun _ _ _ h => h) hHeld (by rfl) ?_
          try simp only [Act.put, List.setIfInBounds_toArray, List.set_cons_zero, List.set_cons_succ]
          refine heldPass (i := 13) rfl (by kernel_rfl) (by kernel_rfl) (by kernel_rfl) (fun _ _ _ h => h) hHeld (by rfl) ?_
          try simp only [Act.put, List.setIfInBounds_toArray, List.set_cons_zero, List.set_cons_succ]
          refine heldPass (i := 14) rfl (by kernel_rfl) (by kernel_rfl) (by kernel_rfl) (fun _ _ _ h => h) hHeld (by rfl) ?_
          try simp only [Act.put, List.setIfInBounds_toArray, List.set_cons_zero, List.set_cons_succ]
          refine heldPass (i := 15) rfl (by kernel_rfl) (by kernel_rfl) (by kernel_rfl) (fun _ _ _ h => h) hHeld (by rfl) ?_
          try simp only [Act.put, List.setIfInBounds_toArray, List.set_cons_zero, List.set_cons_succ]
          refine heldTake (i := 16) (v := ?_) rfl (by kernel_rfl) (by kernel_rfl) (by kernel_rfl) (fun _ _ _ h => h) hHeld (by rfl) ?_ ?_
          rotate_left
          · (intro w hSw; (try dsimp only at hSw); go_simp; try with_reducible rfl)
          try simp only [Act.put, List.setIfInBounds_toArray, List.set_cons_zero, List.set_cons_succ]
          refine wpAnyH_done (by kernel_rfl) ?_ _
          refine NoPanic.normal ?_
          go_wp2
          obtain ⟨n1, n2, n3⟩ := HNx.out [] V2 _ HSv.out hV2 (fun z hz => by cases hz) hPv
          exact ⟨⟨k + 1, _, by go_num, by omega, .inl (by omega), n1, n2, n3, hkv.drew⟩, by simp [intOf]; omega⟩
        · have hPw : PrB 42 wr g (U ++ V ++ y :: x :: (V2 ++ R)) := by simpa only [List.append_assoc, List.cons_append, List.singleton_append, List.nil_append] using hPv
          have hl0 : (U ++ V).length = a + V.length := by rw [List.length_append, Ha.out]
          have hl1 : (U ++ V).length + 1 < (U ++ V ++ y :: x :: (V2 ++ R)).length := by simp only [List.length_append, List.length_cons]; omega
          have hl2 : (U ++ V).length < (U ++ V ++ y :: x :: (V2 ++ R)).length := by simp only [List.length_append, List.length_cons]; omega
          have e1 : (U ++ V ++ y :: x :: (V2 ++ R))[(U ++ V).length] = y := by simp
          have e2 : (U ++ V ++ y :: x :: (V2 ++ R))[(U ++ V).length + 1] = x := by rw [List.getElem_append_right (by omega)]; simp
          have cy := hPw.cell hl2
          have cx := hPw.cell hl1
          have hsw : ∀ W : World, PrB 42 W g (U ++ V ++ y :: x :: (V2 ++ R)) → PrB 42 ((((W.setCell ⟨g, ((U ++ V).length + 1) * 2, none⟩ (.slice y.A1 y.n1 y.c1)).setCell ⟨g, ((U ++ V).length + 1) * 2 + 1, none⟩ (.slice y.A2 y.n2 y.c2)).setCell ⟨g, (U ++ V).length * 2, none⟩ (.slice x.A1 x.n1 x.c1)).setCell ⟨g, (U ++ V).length * 2 + 1, none⟩ (.slice x.A2 x.n2 x.c2)) g (U ++ V ++ x :: y :: (V2 ++ R)) := fun W hW => by
            have := hW.swap hl1 hl2
            rw [swp_next, e1, e2] at this
            exact this
          rw [e1] at cy
          rw [e2] at cx
          have hlen : (U ++ V).length + 1 < n := by
            have h1 := congrArg List.length HSv.out
            rw [HSl.out] at h1
            simp only [List.length_append, List.length_cons, List.length_nil] at h1 ⊢
            have := Hn.out
            omega
          have hmx := HOk.out wr hkv
          have hxo := hmx x (by simp [hxm])
          have hyM : y ∈ M := by
            have h1 : y ∈ S := by rw [HSv.out]; simp
            exact List.mem_of_mem_take ((hst.mem).1 h1)
          have hyo := hmx y (by simp [hyM])
          obtain ⟨q, hq⟩ : ∃ q, q = (U ++ V).length := ⟨_, rfl⟩
          rw [← hq] at cy cx hsw hlen hl0
          have hjq : a + (V ++ [y]).length = q + 1 := by rw [List.length_append, List.length_singleton]; omega
          rw [hjq]
          have hqa : (a : Int) < ((q : Int) + 1) := by omega
          have Hl0 := Lib.hid hl0
          have HC := Lib.hid (c_cmp wr.drew hxo.1 hyo.1 (Nat.le_refl _) (Nat.le_refl _))
          have HPw := Lib.hid hPw
          have HPv := Lib.hid hPv
          have Hsw := Lib.hid hsw
          have HxO := Lib.hid hxo
          have q0 : (0 : Int) ≤ (q : Int) := by omega
          have q1 : (q : Int) < (n : Int) := by omega
          have q2 : (q : Int) + 1 < (n : Int) := by omega
          have q3 : (0 : Int) ≤ (q : Int) + 1 := by omega
          have w0 : IntKind.i64.wrap (q : Int) = (q : Int) := IntWalk.i64_in _ (by omega)
          have w1' : IntKind.i64.wrap ((q : Int) + 1) = (q : Int) + 1 := IntWalk.i64_in _ (by omega)
          clear e1 e2 hl1 hl2 hPv hPw hjq hq hsw hl0 hmx hxo hyo
          have hz := cmp_neg x.key y.key
          obtain ⟨z, hzz⟩ : ∃ z, z = Lib.compareBytes x.key y.key := ⟨_, rfl⟩
          rw [← hzz] at HC hz
          clear hzz
          cases hlc : bytesLess x.key y.key with
          | true =>
            have hz1 : z < 0 := hz.2 hlc
            have Hlc := Lib.hid hlc
            clear hz hlc
            unfold Pr.val at HC
            go_wp2
            have hHeld : (fun W : World => (W.cell? ⟨g, q * 2, none⟩ = some (.slice y.A1 y.n1 y.c1) ∧ W.cell? ⟨g, q * 2 + 1, none⟩ = some (.slice y.A2 y.n2 y.c2)) ∧ W.cell? ⟨g, (q + 1) * 2, none⟩ = some (.slice x.A1 x.n1 x.c1) ∧ W.cell? ⟨g, (q + 1) * 2 + 1, none⟩ = some (.slice x.A2 x.n2 x.c2)) wr.drew := ⟨cy, cx⟩
            refine wp_region_noPanic ?_
            refine wp_region_held (S := fun W : World => (W.cell? ⟨g, q * 2, none⟩ = some (.slice y.A1 y.n1 y.c1) ∧ W.cell? ⟨g, q * 2 + 1, none⟩ = some (.slice y.A2 y.n2 y.c2)) ∧ W.cell? ⟨g, (q + 1) * 2, none⟩ = some (.slice x.A1 x.n1 x.c1) ∧ W.cell? ⟨g, (q + 1) * 2 + 1, none⟩ = some (.slice x.A2 x.n2 x.c2)) (by kernel_rfl) ?_
            simp only [List.size_toArray, List.length_cons, List.length_nil, Nat.reduceAdd]
            refine heldTake (i := 0) (v := ?_) rfl (by kernel_rfl) (by kernel_rfl) (by kernel_rfl) (fun _ _ _ h => h) hHeld (by rfl) ?_ ?_
            rotate_left
            · (intro w hSw; (try dsimp only at hSw); go_simp; try with_reducible rfl)
            try simp only [Act.put, List.setIfInBounds_toArray, List.set_cons_zero, List.set_cons_succ]
            refine heldTake (i := 1) (v := ?_) rfl (by kernel_rfl) (by kernel_rfl) (by kernel_rfl) (fun _ _ _ h => h) hHeld (by rfl) ?_ ?_
            rotate_left
            · (intro w hSw; (try dsimp only at hSw); go_simp; try with_reducible rfl)
            try simp only [Act.put, List.setIfInBounds_toArray, List.set_cons_zero, List.set_cons_succ]
            refine heldTake (i := 2) (v := ?_) rfl (by kernel_rfl) (by kernel_rfl) (by kernel_rfl) (fun _ _ _ h => h) hHeld (by rfl) ?_ ?_
            rotate_left
            · (intro w hSw; (try dsimp only at hSw); go_simp; try with_reducible rfl)
            try simp only [Act.put, List.setIfInBounds_toArray, List.set_cons_zero, List.set_cons_succ]
            refine heldTake (i := 3) (v := ?_) rfl (by kernel_rfl) (by kernel_rfl) (by kernel_rfl) (fun _ _ _ h => h) hHeld (by rfl) ?_ ?_
            rotate_left
            · (intro w hSw; (try dsimp only at hSw); go_simp; try with_reducible rfl)
            try simp only [Act.put, List.setIfInBounds_toArray, List.set_cons_zero, List.set_cons_succ]
            refine heldTake (i := 4) (v := ?_) rfl (by kernel_rfl) (by kernel_rfl) (by kernel_rfl) (fun _ _ _ h => h) hHeld (by rfl) ?_ ?_
            rotate_left
            · (intro w hSw; (try dsimp only at hSw); go_simp; try with_reducible rfl)
            try simp only [Act.put, List.setIfInBounds_toArray, List.set_cons_zero, List.set_cons_succ]
            refine heldTake (i := 5) (v := ?_) rfl (by kernel_rfl) (by kernel_rfl) (by kernel_rfl) (fun _ _ _ h => h) hHeld (by rfl) ?_ ?_
            rotate_left
            · (intro w hSw; (try dsimp only at hSw); go_simp; try with_reducible rfl)
            try simp only [Act.put, List.setIfInBounds_toArray, List.set_cons_zero, List.set_cons_succ]
            refine heldTake (i := 6) (v := ?_) rfl (by kernel_rfl) (by kernel_rfl) (by kernel_rfl) (fun _ _ _ h => h) hHeld (by rfl) ?_ ?_
            rotate_left
            · (intro w hSw; (try dsimp only at hSw); go_simp; try with_reducible rfl)
            try simp only [Act.put, List.setIfInBounds_toArray, List.set_cons_zero, List.set_cons_succ]
            refine heldTake (i := 7) (v := ?_) rfl (by kernel_rfl) (by kernel_rfl) (by kernel_rfl) (fun _ _ _ h => h) hHeld (by rfl) ?_ ?_
            rotate_left
            · (intro w hSw; (try dsimp only at hSw); go_simp; try with_reducible rfl)
            try simp only [Act.put, List.setIfInBounds_toArray, List.set_cons_zero, List.set_cons_succ]
            refine heldTake (i := 8) (v := ?_) rfl (by kernel_rfl) (by kernel_rfl) (by kernel_rfl) (fun _ _ _ h => h) hHeld (by rfl) ?_ ?_
            rotate_left
            · (intro w hSw; (try dsimp only at hSw); go_simp; try with_reducible rfl)
            try simp only [Act.put, List.setIfInBounds_toArray, List.set_cons_zero, List.set_cons_succ]
            refine heldTake (i := 9) (v := ?_) rfl (by kernel_rfl) (by kernel_rfl) (by kernel_rfl) (fun _ _ _ h => h) hHeld (by rfl) ?_ ?_
            rotate_left
            · (intro w hSw; (try dsimp only at hSw); go_simp; try with_reducible rfl)
            try simp only [Act.put, List.setIfInBounds_toArray, List.set_cons_zero, List.set_cons_succ]
            refine heldTake (i := 10) (v := ?_) rfl (by kernel_rfl) (by kernel_rfl) (by kernel_rfl) (fun _ _ _ h => h) hHeld (by rfl) ?_ ?_
            rotate_left
            · (intro w hSw; (try dsimp only at hSw); go_simp; try with_reducible rfl)
            try simp only [Act.put, List.setIfInBounds_toArray, List.set_cons_zero, List.set_cons_succ]
            refine heldTake (i := 11) (v := ?_) rfl (by kernel_rfl) (by kernel_rfl) (by kernel_rfl) (fun _ _ _ h => h) hHeld (by rfl) ?_ ?_
            rotate_left
            · (intro w hSw; (try dsimp only at hSw); go_simp; try with_reducible rfl)
            try simp only [Act.put, List.setIfInBounds_toArray, List.set_cons_zero, List.set_cons_succ]
            refine heldTake (i := 12) (v := ?_) rfl (by kernel_rfl) (by kernel_rfl) (by kernel_rfl) (fun _ _ _ h => h) hHeld (by rfl) ?_ ?_
            rotate_left
            · (intro w hSw; (try dsimp only at hSw); go_simp; try with_reducible rfl)
            try simp only [Act.put, List.setIfInBounds_toArray, List.set_cons_zero, List.set_cons_succ]
            refine heldTake (i := 13) (v := ?_) rfl (by kernel_rfl) (by kernel_rfl) (by kernel_rfl) (fun _ _ _ h => h) hHeld (by rfl) ?_ ?_
            rotate_left
            · (intro w hSw; (try dsimp only at hSw); go_simp; try with_reducible rfl)
            try simp only [Act.put, List.setIfInBounds_toArray, List.set_cons_zero, List.set_cons_succ]
            refine heldStep (i := 14) rfl (by kernel_rfl) (fun K hK => ?_)
            go_simp
            go_at_call 31
            refine HC.out.mono ?_
            rintro e w5 ⟨rfl, hb5⟩
            have hb5w : Below wr.heap.size wr w5 := ((Below.refl wr.heap.size wr).drew).trans hb5
            refine hK.out _ _ (⟨⟨(hb5.cell (p := ⟨g, q * 2, none⟩) HPw.out.lt).trans cy.1, (hb5.cell (p := ⟨g, q * 2 + 1, none⟩) HPw.out.lt).trans cy.2⟩, (hb5.cell (p := ⟨g, (q + 1) * 2, none⟩) HPw.out.lt).trans cx.1, (hb5.cell (p := ⟨g, (q + 1) * 2 + 1, none⟩) HPw.out.lt).trans cx.2⟩) (fun hHeld => ?_)
            clear hK K
            try simp only [Act.put, List.setIfInBounds_toArray, List.set_cons_zero, List.set_cons_succ]
            refine heldTake (i := 15) (v := ?_) rfl (by kernel_rfl) (by kernel_rfl) (by kernel_rfl) (fun _ _ _ h => h) hHeld (by rfl) ?_ ?_
            rotate_left
            · (intro w hSw; (try dsimp only at hSw); go_simp; try with_reducible rfl)
            try simp only [Act.put, List.setIfInBounds_toArray, List.set_cons_zero, List.set_cons_succ]
            refine heldTake (i := 16) (v := ?_) rfl (by kernel_rfl) (by kernel_rfl) (by kernel_rfl) (fun _ _ _ h => h) hHeld (by rfl) ?_ ?_
            rotate_left
            · (intro w hSw; (try dsimp only at hSw); go_simp; try with_reducible rfl)
            try simp only [Act.put, List.setIfInBounds_toArray, List.set_cons_zero, List.set_cons_succ]
            refine wpAnyH_done (by kernel_rfl) ?_ _
            refine NoPanic.normal ?_
            have hP5 := HPw.out.below hb5w HPw.out.lt
            have z5 := hP5.frz
            obtain ⟨k1, k2, k3⟩ := swap_cells (p := q + 1) (r := q) (a1 := .slice y.A1 y.n1 y.c1) (a2 := .slice y.A2 y.n2 y.c2) (b1 := .slice x.A1 x.n1 x.c1) (by omega) hHeld.2.1 hHeld.2.2 hHeld.1.1 hHeld.1.2
            go_wp2
            have hHeld5 : (fun W : World => (W.cell? ⟨g, q * 2, none⟩ = some (.slice y.A1 y.n1 y.c1) ∧ W.cell? ⟨g, q * 2 + 1, none⟩ = some (.slice y.A2 y.n2 y.c2)) ∧ W.cell? ⟨g, (q + 1) * 2, none⟩ = some (.slice x.A1 x.n1 x.c1) ∧ W.cell? ⟨g, (q + 1) * 2 + 1, none⟩ = some (.slice x.A2 x.n2 x.c2)) w5.drew := hHeld
            clear hHeld
            have hHeld := hHeld5
            clear hHeld5
            refine wp_region_U (S := fun W : World => (W.cell? ⟨g, q * 2, none⟩ = some (.slice y.A1 y.n1 y.c1) ∧ W.cell? ⟨g, q * 2 + 1, none⟩ = some (.slice y.A2 y.n2 y.c2)) ∧ W.cell? ⟨g, (q + 1) * 2, none⟩ = some (.slice x.A1 x.n1 x.c1) ∧ W.cell? ⟨g, (q + 1) * 2 + 1, none⟩ = some (.slice x.A2 x.n2 x.c2)) (ks := [9, 13]) (by kernel_rfl) ?_
            simp only [List.size_toArray, List.length_cons, List.length_nil, Nat.reduceAdd]
            refine uPure (i := 0) (v := ?_) rfl (by kernel_rfl) (by kernel_rfl) (by kernel_rfl) (by kernel_rfl) (fun _ _ _ h => h) (by rfl) ?_ ?_
            rotate_left
            · (intro w; go_simp; try with_reducible rfl)
            try simp only [Act.put, List.setIfInBounds_toArray, List.set_cons_zero, List.set_cons_succ]
            refine uPure (i := 1) (v := ?_) rfl (by kernel_rfl) (by kernel_rfl) (by kernel_rfl) (by kernel_rfl) (fun _ _ _ h => h) (by rfl) ?_ ?_
            rotate_left
            · (intro w; go_simp; try with_reducible rfl)
            try simp only [Act.put, List.setIfInBounds_toArray, List.set_cons_zero, List.set_cons_succ]
            refine uPure (i := 2) (v := ?_) rfl (by kernel_rfl) (by kernel_rfl) (by kernel_rfl) (by kernel_rfl) (fun _ _ _ h => h) (by rfl) ?_ ?_
            rotate_left
            · (intro w; go_simp; try with_reducible rfl)
            try simp only [Act.put, List.setIfInBounds_toArray, List.set_cons_zero, List.set_cons_succ]
            refine uPure (i := 3) (v := ?_) rfl (by kernel_rfl) (by kernel_rfl) (by kernel_rfl) (by kernel_rfl) (fun _ _ _ h => h) (by rfl) ?_ ?_
            rotate_left
            · (intro w; go_simp; try with_reducible rfl)
            try simp only [Act.put, List.setIfInBounds_toArray, List.set_cons_zero, List.set_cons_succ]
            refine uPure (i := 4) (v := ?_) rfl (by kernel_rfl) (by kernel_rfl) (by kernel_rfl) (by kernel_rfl) (fun _ _ _ h => h) (by rfl) ?_ ?_
            rotate_left
            · (intro w; go_simp; try with_reducible rfl)
            try simp only [Act.put, List.setIfInBounds_toArray, List.set_cons_zero, List.set_cons_succ]
            refine uPure (i := 5) (v := ?_) rfl (by kernel_rfl) (by kernel_rfl) (by kernel_rfl) (by kernel_rfl) (fun _ _ _ h => h) (by rfl) ?_ ?_
            rotate_left
            · (intro w; go_simp; try with_reducible rfl)
            try simp only [Act.put, List.setIfInBounds_toArray, List.set_cons_zero, List.set_cons_succ]
            refine uPure (i := 6) (v := ?_) rfl (by kernel_rfl) (by kernel_rfl) (by kernel_rfl) (by kernel_rfl) (fun _ _ _ h => h) (by rfl) ?_ ?_
            rotate_left
            · (intro w; go_simp; try with_reducible rfl)
            try simp only [Act.put, List.setIfInBounds_toArray, List.set_cons_zero, List.set_cons_succ]
            refine uPure (i := 7) (v := ?_) rfl (by kernel_rfl) (by kernel_rfl) (by kernel_rfl) (by kernel_rfl) (fun _ _ _ h => h) (by rfl) ?_ ?_
            rotate_left
            · (intro w; go_simp; try with_reducible rfl)
            try simp only [Act.put, List.setIfInBounds_toArray, List.set_cons_zero, List.set_cons_succ]
            refine uPure (i := 8) (v := ?_) rfl (by kernel_rfl) (by kernel_rfl) (by kernel_rfl) (by kernel_rfl) (fun _ _ _ h => h) (by rfl) ?_ ?_
            rotate_left
            · (intro w; go_simp; try with_reducible rfl)
            try simp only [Act.put, List.setIfInBounds_toArray, List.set_cons_zero, List.set_cons_succ]
            refine uPure (i := 10) (v := ?_) rfl (by kernel_rfl) (by kernel_rfl) (by kernel_rfl) (by kernel_rfl) (fun _ _ _ h => h) (by rfl) ?_ ?_
            rotate_left
            · (intro w; go_simp; try with_reducible rfl)
            try simp only [Act.put, List.setIfInBounds_toArray, List.set_cons_zero, List.set_cons_succ]
            refine uPure (i := 11) (v := ?_) rfl (by kernel_rfl) (by kernel_rfl) (by kernel_rfl) (by kernel_rfl) (fun _ _ _ h => h) (by rfl) ?_ ?_
            rotate_left
            · (intro w; go_simp; try with_reducible rfl)
            try simp only [Act.put, List.setIfInBounds_toArray, List.set_cons_zero, List.set_cons_succ]
            refine uPure (i := 12) (v := ?_) rfl (by kernel_rfl) (by kernel_rfl) (by kernel_rfl) (by kernel_rfl) (fun _ _ _ h => h) (by rfl) ?_ ?_
            rotate_left
            · (intro w; go_simp; try with_reducible rfl)
            try simp only [Act.put, List.setIfInBounds_toArray, List.set_cons_zero, List.set_cons_succ]
            refine uTake (i := 9) (v := ?_) rfl (by kernel_rfl) (by kernel_rfl) (by kernel_rfl) (by kernel_rfl) (fun _ _ _ h => h) hHeld (by rfl) ?_ ?_
            rotate_left
            · (intro w hSw; (try dsimp only at hSw); go_simp; try with_reducible rfl)
            try simp only [Act.put, List.setIfInBounds_toArray, List.set_cons_zero, List.set_cons_succ]
            refine uTake (i := 13) (v := ?_) rfl (by kernel_rfl) (by kernel_rfl) (by kernel_rfl) (by kernel_rfl) (fun _ _ _ h => h) hHeld (by rfl) ?_ ?_
            rotate_left
            · (intro w hSw; (try dsimp only at hSw); go_simp; try with_reducible rfl)
            try simp only [Act.put, List.setIfInBounds_toArray, List.set_cons_zero, List.set_cons_succ]
            refine uPure (i := 14) (v := ?_) rfl (by kernel_rfl) (by kernel_rfl) (by kernel_rfl) (by kernel_rfl) (fun _ _ _ h => h) (by rfl) ?_ ?_
            rotate_left
            · (intro w; go_simp; try with_reducible rfl)
            try simp only [Act.put, List.setIfInBounds_toArray, List.set_cons_zero, List.set_cons_succ]
            refine uStep (i := 15) rfl (by kernel_rfl) (fun K hK => ?_)
            go_simp
            refine hK.out _ _ (fun h => absurd h (by decide)) ?_
            clear hK K
            try simp only [Act.put, List.setIfInBounds_toArray, List.set_cons_zero, List.set_cons_succ]
            refine uPure (i := 16) (v := ?_) rfl (by kernel_rfl) (by kernel_rfl) (by kernel_rfl) (by kernel_rfl) (fun _ _ _ h => h) (by rfl) ?_ ?_
            rotate_left
            · (intro w; go_simp; try with_reducible rfl)
            try simp only [Act.put, List.setIfInBounds_toArray, List.set_cons_zero, List.set_cons_succ]
            refine uStep (i := 17) rfl (by kernel_rfl) (fun K hK => ?_)
            go_simp
            refine hK.out _ _ (fun h => absurd h (by decide)) ?_
            clear hK K
            try simp only [Act.put, List.setIfInBounds_toArray, List.set_cons_zero, List.set_cons_succ]
            refine uDone (by kernel_rfl) ?_ _
            go_wp2
            have hfin := (Hsw.out _ hP5).drew
            refine ⟨⟨V, by have := Hl0.out; omega, y :: V2, by rw [HSv.out]; simp, fun u hu => ?_, ?_, ?_⟩, ?_⟩
            · rcases List.mem_cons.1 hu with rfl | hu
              · exact Hlc.out
              · exact hV2 u hu
            · simpa only [List.append_assoc, List.cons_append] using hfin
            · exact ((((((hkv.trans (Kb.of_below hb5w : Kb [] wr w5) (fun b hb => by simp at hb)).setCell (p := ⟨g, (q + 1) * 2, none⟩) (.inl (by simp)) _).setCell (p := ⟨g, (q + 1) * 2 + 1, none⟩) (.inl (by simp)) _).setCell (p := ⟨g, q * 2, none⟩) (.inl (by simp)) _).setCell (p := ⟨g, q * 2 + 1, none⟩) (.inl (by simp)) _)).drew
            · simp [intOf]; omega
          | false =>
            have hz1 : ¬ z < 0 := fun h => by rw [hz.1 h] at hlc; cases hlc
            have Hlc := Lib.hid hlc
            clear hz hlc
            unfold Pr.val at HC
            go_wp2
            have hHeld : (fun W : World => (W.cell? ⟨g, q * 2, none⟩ = some (.slice y.A1 y.n1 y.c1) ∧ W.cell? ⟨g, q * 2 + 1, none⟩ = some (.slice y.A2 y.n2 y.c2)) ∧ W.cell? ⟨g, (q + 1) * 2, none⟩ = some (.slice x.A1 x.n1 x.c1) ∧ W.cell? ⟨g, (q + 1) * 2 + 1, none⟩ = some (.slice x.A2 x.n2 x.c2)) wr.drew := ⟨cy, cx⟩
            refine wp_region_noPanic ?_
            refine wp_region_held (S := fun W : World => (W.cell? ⟨g, q * 2, none⟩ = some (.slice y.A1 y.n1 y.c1) ∧ W.cell? ⟨g, q * 2 + 1, none⟩ = some (.slice y.A2 y.n2 y.c2)) ∧ W.cell? ⟨g, (q + 1) * 2, none⟩ = some (.slice x.A1 x.n1 x.c1) ∧ W.cell? ⟨g, (q + 1) * 2 + 1, none⟩ = some (.slice x.A2 x.n2 x.c2)) (by kernel_rfl) ?_
            simp only [List.size_toArray, List.length_cons, List.length_nil, Nat.reduceAdd]
            refine heldTake (i := 0) (v := ?_) rfl (by kernel_rfl) (by kernel_rfl) (by kernel_rfl) (fun _ _ _ h => h) hHeld (by rfl) ?_ ?_
            rotate_left
            · (intro w hSw; (try dsimp only at hSw); go_simp; try with_reducible rfl)
            try simp only [Act.put, List.setIfInBounds_toArray, List.set_cons_zero, List.set_cons_succ]
            refine heldTake (i := 1) (v := ?_) rfl (by kernel_rfl) (by kernel_rfl) (by kernel_rfl) (fun _ _ _ h => h) hHeld (by rfl) ?_ ?_
            rotate_left
            · (intro w hSw; (try dsimp only at hSw); go_simp; try with_reducible rfl)
            try simp only [Act.put, List.setIfInBounds_toArray, List.set_cons_zero, List.set_cons_succ]
            refine heldTake (i := 2) (v := ?_) rfl (by kernel_rfl) (by kernel_rfl) (by kernel_rfl) (fun _ _ _ h => h) hHeld (by rfl) ?_ ?_
            rotate_left
            · (intro w hSw; (try dsimp only at hSw); go_simp; try with_reducible rfl)
            try simp only [Act.put, List.setIfInBounds_toArray, List.set_cons_zero, List.set_cons_succ]
            refine heldTake (i := 3) (v := ?_) rfl (by kernel_rfl) (by kernel_rfl) (by kernel_rfl) (fun _ _ _ h => h) hHeld (by rfl) ?_ ?_
            rotate_left
            · (intro w hSw; (try dsimp only at hSw); go_simp; try with_reducible rfl)
            try simp only [Act.put, List.setIfInBounds_toArray, List.set_cons_zero, List.set_cons_succ]
            refine heldTake (i := 4) (v := ?_) rfl (by kernel_rfl) (by kernel_rfl) (by kernel_rfl) (fun _ _ _ h => h) hHeld (by rfl) ?_ ?_
            rotate_left
            · (intro w hSw; (try dsimp only at hSw); go_simp; try with_reducible rfl)
            try simp only [Act.put, List.setIfInBounds_toArray, List.set_cons_zero, List.set_cons_succ]
            refine heldTake (i := 5) (v := ?_) rfl (by kernel_rfl) (by kernel_rfl) (by kernel_rfl) (fun _ _ _ h => h) hHeld (by rfl) ?_ ?_
            rotate_left
            · (intro w hSw; (try dsimp only at hSw); go_simp; try with_reducible rfl)
            try simp only [Act.put, List.setIfInBounds_toArray, List.set_cons_zero, List.set_cons_succ]
            refine heldTake (i := 6) (v := ?_) rfl (by kernel_rfl) (by kernel_rfl) (by kernel_rfl) (fun _ _ _ h => h) hHeld (by rfl) ?_ ?_
            rotate_left
            · (intro w hSw; (try dsimp only at hSw); go_simp; try with_reducible rfl)
            try simp only [Act.put, List.setIfInBounds_toArray, List.set_cons_zero, List.set_cons_succ]
            refine heldTake (i := 7) (v := ?_) rfl (by kernel_rfl) (by kernel_rfl) (by kernel_rfl) (fun _ _ _ h => h) hHeld (by rfl) ?_ ?_
            rotate_left
            · (intro w hSw; (try dsimp only at hSw); go_simp; try with_reducible rfl)
            try simp only [Act.put, List.setIfInBounds_toArray, List.set_cons_zero, List.set_cons_succ]
            refine heldTake (i := 8) (v := ?_) rfl (by kernel_rfl) (by kernel_rfl) (by kernel_rfl) (fun _ _ _ h => h) hHeld (by rfl) ?_ ?_
            rotate_left
            · (intro w hSw; (try dsimp only at hSw); go_simp; try with_reducible rfl)
            try simp only [Act.put, List.setIfInBounds_toArray, List.set_cons_zero, List.set_cons_succ]
            refine heldTake (i := 9) (v := ?_) rfl (by kernel_rfl) (by kernel_rfl) (by kernel_rfl) (fun _ _ _ h => h) hHeld (by rfl) ?_ ?_
            rotate_left
            · (intro w hSw; (try dsimp only at hSw); go_simp; try with_reducible rfl)
            try simp only [Act.put, List.setIfInBounds_toArray, List.set_cons_zero, List.set_cons_succ]
            refine heldTake (i := 10) (v := ?_) rfl (by kernel_rfl) (by kernel_rfl) (by kernel_rfl) (fun _ _ _ h => h) hHeld (by rfl) ?_ ?_
            rotate_left
            · (intro w hSw; (try dsimp only at hSw); go_simp; try with_reducible rfl)
            try simp only [Act.put, List.setIfInBounds_toArray, List.set_cons_zero, List.set_cons_succ]
            refine heldTake (i := 11) (v := ?_) rfl (by kernel_rfl) (by kernel_rfl) (by kernel_rfl) (fun _ _ _ h => h) hHeld (by rfl) ?_ ?_
            rotate_left
            · (intro w hSw; (try dsimp only at hSw); go_simp; try with_reducible rfl)
            try simp only [Act.put, List.setIfInBounds_toArray, List.set_cons_zero, List.set_cons_succ]
            refine heldTake (i := 12) (v := ?_) rfl (by kernel_rfl) (by kernel_rfl) (by kernel_rfl) (fun _ _ _ h => h) hHeld (by rfl) ?_ ?_
            rotate_left
            · (intro w hSw; (try dsimp only at hSw); go_simp; try with_reducible rfl)
            try simp only [Act.put, List.setIfInBounds_toArray, List.set_cons_zero, List.set_cons_succ]
            refine heldTake (i := 13) (v := ?_) rfl (by kernel_rfl) (by kernel_rfl) (by kernel_rfl) (fun _ _ _ h => h) hHeld (by rfl) ?_ ?_
            rotate_left
            · (intro w hSw; (try dsimp only at hSw); go_simp; try with_reducible rfl)
            try simp only [Act.put, List.setIfInBounds_toArray, List.set_cons_zero, List.set_cons_succ]
            refine heldStep (i := 14) rfl (by kernel_rfl) (fun K hK => ?_)
            go_simp
            go_at_call 31
            refine HC.out.mono ?_
            rintro e w5 ⟨rfl, hb5⟩
            have hb5w : Below wr.heap.size wr w5 := ((Below.refl wr.heap.size wr).drew).trans hb5
            refine hK.out _ _ (⟨⟨(hb5.cell (p := ⟨g, q * 2, none⟩) HPw.out.lt).trans cy.1, (hb5.cell (p := ⟨g, q * 2 + 1, none⟩) HPw.out.lt).trans cy.2⟩, (hb5.cell (p := ⟨g, (q + 1) * 2, none⟩) HPw.out.lt).trans cx.1, (hb5.cell (p := ⟨g, (q + 1) * 2 + 1, none⟩) HPw.out.lt).trans cx.2⟩) (fun hHeld => ?_)
            clear hK K
            try simp only [Act.put, List.setIfInBounds_toArray, List.set_cons_zero, List.set_cons_succ]
            refine heldTake (i := 15) (v := ?_) rfl (by kernel_rfl) (by kernel_rfl) (by kernel_rfl) (fun _ _ _ h => h) hHeld (by rfl) ?_ ?_
            rotate_left
            · (intro w hSw; (try dsimp only at hSw); go_simp; try with_reducible rfl)
            try simp only [Act.put, List.setIfInBounds_toArray, List.set_cons_zero, List.set_cons_succ]
            refine heldTake (i := 16) (v := ?_) rfl (by kernel_rfl) (by kernel_rfl) (by kernel_rfl) (fun _ _ _ h => h) hHeld (by rfl) ?_ ?_
            rotate_left
            · (intro w hSw; (try dsimp only at hSw); go_simp; try with_reducible rfl)
            try simp only [Act.put, List.setIfInBounds_toArray, List.set_cons_zero, List.set_cons_succ]
            refine wpAnyH_done (by kernel_rfl) ?_ _
            refine NoPanic.normal ?_
            go_wp2
            obtain ⟨n1, n2, n3⟩ := HNx.out (V ++ [y]) V2 w5 HSv.out hV2 (fun z hz => by simp at hz; subst hz; exact Hlc.out) (HPv.out.below hb5w HPv.out.lt)
            exact ⟨⟨k + 1, _, by go_num, by omega, .inl (by omega), n1, n2, n3, hkv.trans (Kb.of_below hb5w : Kb [] wr w5) (fun b hb => by simp at hb)⟩, by simp [intOf]; omega⟩
    · have hab2 : ¬ ((a + k : Nat) : Int) < (b : Int) := by omega
      have hfin : PrB 42 wr g (U ++ S ++ D) ∧ Stb Pr.key M S := by
        have hd : M.drop k = [] := List.drop_eq_nil_iff.2 (by have := Ha.out; have := Hb.out; omega)
        have ht : M.take k = M := List.take_of_length_le (by have := Ha.out; have := Hb.out; omega)
        rw [hd, List.nil_append] at hPr
        rw [ht] at hst
        exact ⟨hPr, hst⟩
      go_wp2
      go_end0
      exact ⟨rfl, S, hfin.1, hfin.2, hsr, hkb⟩
end Go.Proofs.Ytjkjlekfeelfpaa
