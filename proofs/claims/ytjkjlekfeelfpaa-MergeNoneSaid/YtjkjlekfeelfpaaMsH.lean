/- Layer 23: the stable sort: blocks in order, merged two by two. -/
import Derived.Test.YtjkjlekfeelfpaaMsG
namespace Go.Proofs.Ytjkjlekfeelfpaa
open Go.RowKit Go.Lec Go.Op
/-- Stretches of one length, each in order. -/
def Chk (bs : Nat) (Us : List (List Pr)) : Prop := ∀ u ∈ Us, u.length = bs ∧ SrtK Pr.key u
theorem Chk.len {bs : Nat} : ∀ {Us : List (List Pr)}, Chk bs Us → Us.flatten.length = Us.length * bs
  | [], _ => by simp
  | u :: Us, h => by
    rw [List.flatten_cons, List.length_append, (h u (by simp)).1, Chk.len (fun v hv => h v (by simp [hv])), List.length_cons, Nat.succ_mul, Nat.add_comm]
theorem Chk.snoc {bs : Nat} {Us : List (List Pr)} {u : List Pr} (h : Chk bs Us) (hl : u.length = bs) (hs : SrtK Pr.key u) : Chk bs (Us ++ [u]) := fun v hv => by
  rcases List.mem_append.1 hv with hv | hv
  · exact h v hv
  · rw [List.mem_singleton] at hv; subst hv; exact ⟨hl, hs⟩
theorem prok_stb {w w' : World} {g : Nat} {L L' : List Pr} (h : PrOk w g L) (hk : Kb [g] w w') (hs : Stb Pr.key L L') : PrOk w' g L' := (h.kb hk).perm (fun _ hm => hs.mem.1 hm)
set_option maxRecDepth 100000 in
set_option maxHeartbeats 4000000 in
theorem c_stable (w : World) {g n c : Nat} {L : List Pr} (hP : PrB 42 w g L) (hok : PrOk w g L) (hn : L.length = n) (hnc : n ≤ c) (hn2 : n ≤ 100000) :
    Calls Try.prog 54 #[.slice (some ⟨g, 0, none⟩) n c, .int .i64 (n : Int), .func (.func 31) #[] #[]] w (SrtP w g [] L []) := by
  have HOk := Lib.hid (fun (W : World) (L' : List Pr) (hk : Kb [g] w W) (hs : Stb Pr.key L L') => prok_stb hok hk hs)
  have Hn := Lib.hid hn
  clear hok hn
  go_enter Try.func54, Try.ntmps54
  go_wp2
  go_loopw [7, 8] (fun va vb wr => ∃ (a : Nat) (Us : List (List Pr)) (D : List Pr), va = .int .i64 (a : Int) ∧ vb = .int .i64 ((a + 20 : Nat) : Int) ∧ a = Us.flatten.length ∧ a ≤ n ∧ Chk 20 Us ∧ Stb Pr.key L (Us.flatten ++ D) ∧ PrB 42 wr g (Us.flatten ++ D) ∧ Kb [g] w wr) (fun va _ _ => n - (intOf va).toNat)
  case atStart => exact ⟨0, [], L, by go_num, by go_num, rfl, Nat.zero_le _, (fun u hu => by cases hu), Stb.refl _, hP, Kb.refl _ _⟩
  case round =>
    obtain ⟨a, Us, D, rfl, rfl, ha, han, hck, hst, hPr, hkb⟩ := hrel
    clear hP
    by_cases hlt : a + 20 ≤ n
    · have hlt' : ((a + 20 : Nat) : Int) ≤ (n : Int) := by omega
      have hln := hst.length
      rw [Hn.out, List.length_append, ← ha] at hln
      obtain ⟨M, hM⟩ : ∃ M, M = D.take 20 := ⟨_, rfl⟩
      obtain ⟨R, hR⟩ : ∃ R, R = D.drop 20 := ⟨_, rfl⟩
      have hD : D = M ++ R := by rw [hM, hR, List.take_append_drop]
      have hMl : M.length = 20 := by rw [hM, List.length_take]; omega
      have hRl : R.length = D.length - 20 := by rw [hR, List.length_drop]
      have hokr := HOk.out wr _ hkb hst
      rw [hD, ← List.append_assoc] at hPr hst hokr
      have HC := c_ins (n := n) (c := c) wr hPr hokr (by omega) hnc hn2
      rw [← ha, hMl] at HC
      unfold SrtP at HC
      have HC := Lib.hid HC
      have Hx := Lib.hid (And.intro ha (And.intro hMl (And.intro hst hck)))
      clear hD hM hR hMl hRl hln ha hst hck hPr hokr
      go_wp2_with (first | (go_at_call 68; refine HC.out.mono ?_; rintro e w5 ⟨rfl, S, hS, hSt, hSr, hk5⟩; clear HC))
      obtain ⟨ha, hMl, hst, hck⟩ := Hx.out
      have hSl : S.length = 20 := by rw [hSt.length]; exact hMl
      refine ⟨⟨a + 20, Us ++ [S], R, rfl, by go_num, by rw [List.flatten_append, List.length_append, ← ha]; simp [hSl], by omega, hck.snoc hSl hSr, ?_, by simpa using hS, hkb.trans hk5 (fun b hb => .inl hb)⟩, by simp [intOf]; omega⟩
      have := hst.trans (Stb.app (Stb.app (Stb.refl _) hSt) (Stb.refl R))
      simpa using this
    · have hlt' : ¬ ((a + 20 : Nat) : Int) ≤ (n : Int) := by omega
      have hln := hst.length
      rw [Hn.out, List.length_append, ← ha] at hln
      have hokr := HOk.out wr _ hkb hst
      have HC := c_ins (n := n) (c := c) (D := []) wr (by simpa using hPr) (by simpa using hokr) (by simp only [List.length_nil]; omega) hnc hn2
      rw [← ha, hln] at HC
      unfold SrtP at HC
      have HC := Lib.hid HC
      have Hx := Lib.hid (And.intro ha (And.intro hln (And.intro hst hck)))
      clear hln ha hst hck hPr hokr
      go_wp2_with (first | (go_at_call 68; refine HC.out.mono ?_; rintro e w5 ⟨rfl, S, hS, hSt, hSr, hk5⟩; clear HC))
      obtain ⟨ha, hln, hst, hck⟩ := Hx.out
      have hSl : S.length < 20 := by rw [hSt.length]; omega
      have hS1 : PrB 42 w5 g (Us.flatten ++ S) := by simpa using hS
      have hst1 : Stb Pr.key L (Us.flatten ++ S) := hst.trans (Stb.app (Stb.refl _) hSt)
      have hk1 : Kb [g] w w5 := hkb.trans hk5 (fun b hb => .inl hb)
      clear Hx ha hln hst hSt hS hk5 hkb hlt'
      go_loopw [6] (fun v6 wr => ∃ (bs : Nat) (Us : List (List Pr)) (T : List Pr), v6 = .int .i64 (bs : Int) ∧ 1 ≤ bs ∧ bs ≤ 200000 ∧ Chk bs Us ∧ SrtK Pr.key T ∧ T.length < bs ∧ Stb Pr.key L (Us.flatten ++ T) ∧ PrB 42 wr g (Us.flatten ++ T) ∧ Kb [g] w wr) (fun v6 _ => 200000 - (intOf v6).toNat)
      case atStart => exact ⟨20, Us, S, by go_num, by omega, by omega, hck, hSr, hSl, hst1, hS1, hk1⟩
      case round =>
        obtain ⟨bs, Us, T, rfl, hb1, hb2, hck, hsr, hTl, hst, hPr, hkb⟩ := hrel
        have hln := hst.length
        rw [Hn.out, List.length_append, hck.len] at hln
        by_cases hlt : bs < n
        · have hlt' : (bs : Int) < (n : Int) := by omega
          obtain ⟨d, hd⟩ : ∃ d, d = 2 * bs := ⟨_, rfl⟩
          have w1 : IntKind.i64.wrap (2 * (bs : Int)) = (d : Int) := by rw [IntWalk.i64_in _ (by omega)]; omega
          have w2 : IntKind.i64.wrap ((bs : Int) * 2) = (d : Int) := by rw [IntWalk.i64_in _ (by omega)]; omega
          have Hd := Lib.hid hd
          have Hx := Lib.hid (And.intro hck (And.intro hst (And.intro hsr hTl)))
          clear hd hck hst hsr hln
          go_wp2
          go_loopw [7, 8] (fun va vb wr => ∃ (a b : Nat) (Vs Us : List (List Pr)), va = .int .i64 (a : Int) ∧ vb = .int .i64 (b : Int) ∧ b = a + d ∧ a = Vs.flatten.length ∧ a ≤ n ∧ Chk d Vs ∧ Chk bs Us ∧ Stb Pr.key L (Vs.flatten ++ (Us.flatten ++ T)) ∧ PrB 42 wr g (Vs.flatten ++ (Us.flatten ++ T)) ∧ Kb [g] w wr) (fun va _ _ => n - (intOf va).toNat)
          case atStart => exact ⟨0, d, [], Us, by go_num, rfl, by omega, rfl, Nat.zero_le _, (fun u hu => by cases hu), Hx.out.1, Hx.out.2.1, hPr, hkb⟩
          case round =>
            obtain ⟨a, b, Vs, Us, rfl, rfl, hb, ha, han, hcv, hck, hst, hPr3, hk3⟩ := hrel
            have hln := hst.length
            rw [Hn.out, List.length_append, List.length_append, ← ha, hck.len] at hln
            have hTl := Hx.out.2.2.2
            have hsT := Hx.out.2.2.1
            have hd := Hd.out
            have hokr := HOk.out wr _ hk3 hst
            by_cases hbn : b ≤ n
            · have hbn' : (b : Int) ≤ (n : Int) := by omega
              obtain ⟨u, v, Us2, rfl⟩ : ∃ u v Us2, Us = u :: v :: Us2 := by
                rcases Us with _ | ⟨u, _ | ⟨v, Us2⟩⟩
                · simp at hln; omega
                · simp at hln; omega
                · exact ⟨u, v, Us2, rfl⟩
              have hu := hck u (by simp)
              have hv := hck v (by simp)
              obtain ⟨m, hm⟩ : ∃ m, m = a + bs := ⟨_, rfl⟩
              obtain ⟨b2, hb2'⟩ : ∃ b2, b2 = b + d := ⟨_, rfl⟩
              have w3 : IntKind.i64.wrap ((a : Int) + (bs : Int)) = (m : Int) := by rw [IntWalk.i64_in _ (by omega)]; omega
              have w4 : IntKind.i64.wrap ((b : Int) + (d : Int)) = (b2 : Int) := by rw [IntWalk.i64_in _ (by omega)]; omega
              have e1 : Vs.flatten ++ ((u :: v :: Us2).flatten ++ T) = Vs.flatten ++ u ++ v ++ (Us2.flatten ++ T) := by simp
              have hll : Vs.flatten.length + u.length + v.length + (Us2.flatten ++ T).length = n := by
                have := hst.length
                rw [e1] at this
                simp only [List.length_append] at this ⊢
                have h2 := Hn.out
                omega
              have HN := Lib.hid (show ∀ S, Stb Pr.key (u ++ v) S → Stb Pr.key L (Vs.flatten ++ S ++ (Us2.flatten ++ T)) from fun S hS => by
                refine hst.trans ?_
                rw [e1, List.append_assoc (Vs.flatten) u v]
                exact (Stb.app (Stb.refl _) hS).app (Stb.refl _))
              rw [e1] at hPr3 hokr
              have HC := c_sym _ wr (c := c) (a := a) (m := m) (b := b) (Nat.le_refl _) hPr3 hokr hll hnc hn2 ha (by omega) (by omega) (by omega) (by omega) hu.2 hv.2
              unfold SrtP at HC
              have HC := Lib.hid HC
              have Hy := Lib.hid (And.intro hb (And.intro ha (And.intro hcv (And.intro hck (And.intro hm hb2')))))
              clear hb ha hcv hck hst hPr3 hln hd hokr e1 hll hu hv hm hb2' hTl hsT hPr
              go_wp2_with (first | (go_at_call 69; (with_reducible refine HC.out.mono ?_); rintro e w5 ⟨rfl, S, hS, hSt, hSr, hk5⟩; clear HC))
              obtain ⟨hb, ha, hcv, hck, hm, hb2'⟩ := Hy.out
              have hd := Hd.out
              have hu := hck u (by simp)
              have hv := hck v (by simp)
              have hSl : S.length = d := by rw [hSt.length, List.length_append]; omega
              refine ⟨⟨b, b2, Vs ++ [S], Us2, rfl, rfl, hb2', by rw [List.flatten_append, List.length_append, ← ha]; simp; omega, by omega, hcv.snoc hSl hSr, (fun x hx => hck x (by simp [hx])), ?_, ?_, hk3.trans hk5 (fun b hb => .inl hb)⟩, by simp [intOf]; omega⟩
              · have := HN.out S hSt
                simpa using this
              · simpa using hS
            · have hbn' : ¬ (b : Int) ≤ (n : Int) := by omega
              obtain ⟨m, hm⟩ : ∃ m, m = a + bs := ⟨_, rfl⟩
              have w3 : IntKind.i64.wrap ((a : Int) + (bs : Int)) = (m : Int) := by rw [IntWalk.i64_in _ (by omega)]; omega
              by_cases hmn : m < n
              · have hmn' : (m : Int) < (n : Int) := by omega
                obtain ⟨u, rfl⟩ : ∃ u, Us = [u] := by
                  rcases Us with _ | ⟨u, _ | ⟨v, Us2⟩⟩
                  · simp at hln; omega
                  · exact ⟨u, rfl⟩
                  · simp only [List.length_cons, Nat.succ_mul] at hln; omega
                have hu := hck u (by simp)
                have hT0 : 0 < T.length := by simp at hln; omega
                have e1 : Vs.flatten ++ ([u].flatten ++ T) = Vs.flatten ++ u ++ T ++ [] := by simp
                have hll : Vs.flatten.length + u.length + T.length + ([] : List Pr).length = n := by
                  simp only [List.length_nil, List.length_singleton, Nat.one_mul] at hln ⊢
                  have := hu.1
                  omega
                have HN := Lib.hid (show ∀ S, Stb Pr.key (u ++ T) S → Stb Pr.key L (Vs.flatten ++ S) from fun S hS => by
                  refine hst.trans ?_
                  have := Stb.app (key := Pr.key) (Stb.refl Vs.flatten) hS
                  simpa using this)
                rw [e1] at hPr3 hokr
                have HC := c_sym _ wr (c := c) (a := a) (m := m) (b := n) (Nat.le_refl _) hPr3 hokr hll hnc hn2 ha (by omega) (by simp only [List.length_nil] at hll; omega) (by omega) hT0 hu.2 hsT
                unfold SrtP at HC
                have HC := Lib.hid HC
                have Hy := Lib.hid (And.intro hb (And.intro ha (And.intro hcv (And.intro hu hm))))
                clear hb ha hcv hck hst hPr3 hln hd hokr e1 hll hu hm hTl hsT hPr hT0
                go_wp2_with (first | (go_at_call 69; (with_reducible refine HC.out.mono ?_); rintro e w5 ⟨rfl, S, hS, hSt, hSr, hk5⟩; clear HC))
                obtain ⟨hb, ha, hcv, hu, hm⟩ := Hy.out
                have hd := Hd.out
                have hTl := Hx.out.2.2.2
                have hSl : S.length < d := by rw [hSt.length, List.length_append]; omega
                exact ⟨⟨d, Vs, S, rfl, by omega, by omega, hcv, hSr, hSl, HN.out S hSt, by simpa using hS, hk3.trans hk5 (fun b hb => .inl hb)⟩, by simp [intOf]; omega⟩
              · have hmn' : ¬ (m : Int) < (n : Int) := by omega
                have hfin : SrtK Pr.key (Us.flatten ++ T) ∧ (Us.flatten ++ T).length < d := by
                  rcases Us with _ | ⟨u, _ | ⟨v, Us2⟩⟩
                  · simp; exact ⟨hsT, by omega⟩
                  · have h0 : T = [] := List.eq_nil_of_length_eq_zero (by simp at hln; omega)
                    have hu := hck u (by simp)
                    simp [h0]; exact ⟨hu.2, by omega⟩
                  · simp only [List.length_cons, Nat.succ_mul] at hln; omega
                have Hy := Lib.hid (And.intro hb (And.intro ha (And.intro hcv (And.intro hst (And.intro hPr3 hfin)))))
                clear hb ha hcv hck hst hPr3 hln hd hokr hm hTl hsT hPr hfin
                go_wp2
                obtain ⟨hb, ha, hcv, hst, hPr3, hfin⟩ := Hy.out
                have hd := Hd.out
                exact ⟨⟨d, Vs, Us.flatten ++ T, rfl, by omega, by omega, hcv, hfin.1, hfin.2, hst, hPr3, hk3⟩, by simp [intOf]; omega⟩
        · have hlt' : ¬ (bs : Int) < (n : Int) := by omega
          have hfin : SrtK Pr.key (Us.flatten ++ T) := by
            rcases Us with _ | ⟨u, _ | ⟨v, Us2⟩⟩
            · simpa using hsr
            · have h0 : T = [] := List.eq_nil_of_length_eq_zero (by simp at hln; omega)
              have hu := hck u (by simp)
              simpa [h0] using hu.2
            · simp only [List.length_cons, Nat.succ_mul] at hln; omega
          clear hln
          go_wp2
          go_end0
          exact ⟨rfl, _, by simpa using hPr, hst, hfin, hkb⟩
/-- slices.SortStableFunc of pairs that lie in a block. -/
theorem c_stableF (w : World) {g n c : Nat} {L : List Pr} (hP : PrB 42 w g L) (hok : PrOk w g L) (hn : L.length = n) (hnc : n ≤ c) (hn2 : n ≤ 100000) :
    Calls Try.prog 30 #[.slice (some ⟨g, 0, none⟩) n c, .func (.func 31) #[] #[]] w (SrtP w g [] L []) := by
  have HC := c_stable w hP hok hn hnc hn2
  unfold SrtP at HC
  have HC := Lib.hid HC
  clear hn
  go_enter Try.func30, Try.ntmps30
  go_wp2_with (first | (go_at_call 54; refine HC.out.mono ?_; rintro e w5 ⟨rfl, he⟩))
  go_end0
  exact ⟨rfl, he⟩
end Go.Proofs.Ytjkjlekfeelfpaa
