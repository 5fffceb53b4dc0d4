/- Layer 23: the stable sort: blocks in order, merged two by two. -/
import Derived.Test.YtedelkifadonjaaMsF
import Derived.Lib.SliceRun
namespace Go.Proofs.Ytedelkifadonjaa
open Go.RowKit Go.Lec Go.Op
/-- Stretches of one length, each in order. -/
def Chk (bs : Nat) (Us : List (List Pr)) : Prop := ∀ u ∈ Us, u.length = bs ∧ SrtK Pr.key u
theorem Chk.len {bs : Nat} : ∀ {Us : List (List Pr)}, Chk bs Us → Us.flatten.length = Us.length * bs
  | [], _ => by simp
  | u :: Us, h => by
    rw [List.flatten_cons, List.length_append, (h u (by simp)).1, Chk.len (fun v hv => h v (by simp [hv])), List.length_cons, Nat.succ_mul, Nat.add_comm]
theorem Chk.snoc {bs : Nat} {Us : List (List Pr)} {u : List Pr} (h : Chk bs Us) (hl : u.length = bs) (hs : SrtK Pr.key u) : Chk bs (Us ++ [u]) := fun v hv => by
  rcases List.mem_append.1 hv with hv | hv
  · exact h v hv
  · rw [List.mem_singleton] at hv; subst hv; exact ⟨hl, hs⟩
theorem prok_stb {w w' : World} {g : Nat} {L L' : List Pr} (h : PrOk w g L) (hk : Kb [g] w w') (hs : Stb Pr.key L L') : PrOk w' g L' := (h.kb hk).perm (fun _ hm => hs.mem.1 hm)
set_option maxRecDepth 100000 in
set_option maxHeartbeats 4000000 in
theorem c_stable (w : World) {g n c : Nat} {L : List Pr} (hP : PrB 56 w g L) (hok : PrOk w g L) (hn : L.length = n) (hnc : n ≤ c) (hn2 : n ≤ 100000) :
    Calls Try.prog 56 #[.slice (some ⟨g, 0, none⟩) n c, .int .i64 (n : Int), .func (.func 37) #[] #[]] w (SrtP w g [] L []) := by
  have HOk := Lib.hid (fun (W : World) (L' : List Pr) (hk : Kb [g] w W) (hs : Stb Pr.key L L') => prok_stb hok hk hs)
  have Hn := Lib.hid hn
  clear hok hn
  go_enter Try.func56, Try.ntmps56
  go_wp2
  go_loopw [7, 8] (fun va vb wr => ∃ (a : Nat) (Us : List (List Pr)) (D : List Pr), va = .int .i64 (a : Int) ∧ vb = .int .i64 ((a + 20 : Nat) : Int) ∧ a = Us.flatten.length ∧ a ≤ n ∧ Chk 20 Us ∧ Stb Pr.key L (Us.flatten ++ D) ∧ PrB 56 wr g (Us.flatten ++ D) ∧ Kb [g] w wr) (fun va _ _ => n - (intOf va).toNat)
  case atStart => exact ⟨0, [], L, by go_num, by go_num, rfl, Nat.zero_le _, (fun u hu => by cases hu), Stb.refl _, hP, Kb.refl _ _⟩
  case round =>
    obtain ⟨a, Us, D, rfl, rfl, ha, han, hck, hst, hPr, hkb⟩ := hrel
    clear hP
    by_cases hlt : a + 20 ≤ n
    · have hlt' : ((a + 20 : Nat) : Int) ≤ (n : Int) := by omega
      have hln := hst.length
      rw [Hn.out, List.length_append, ← ha] at hln
      obtain ⟨M, hM⟩ : ∃ M, M = D.take 20 := ⟨_, rfl⟩
      obtain ⟨R, hR⟩ : ∃ R, R = D.drop 20 := ⟨_, rfl⟩
      have hD : D = M ++ R := by rw [hM, hR, List.take_append_drop]
      have hMl : M.length = 20 := by rw [hM, List.length_take]; omega
      have hRl : R.length = D.length - 20 := by rw [hR, List.length_drop]
      have hokr := HOk.out wr _ hkb hst
      rw [hD, ← List.append_assoc] at hPr hst hokr
      have HC := c_ins (n := n) (c := c) wr hPr hokr (by omega) hnc hn2
      rw [← ha, hMl] at HC
      unfold SrtP at HC
      have HC := Lib.hid HC
      have Hx := Lib.hid (And.intro ha (And.intro hMl (And.intro hst hck)))
      clear hD hM hR hMl hRl hln ha hst hck hPr hokr
      go_wp2_with (first | (go_at_call 65; refine HC.out.mono ?_; rintro e w5 ⟨rfl, S, hS, hSt, hSr, hk5⟩; clear HC))
      obtain ⟨ha, hMl, hst, hck⟩ := Hx.out
      have hSl : S.length = 20 := by rw [hSt.length]; exact hMl
      refine ⟨⟨a + 20, Us ++ [S], R, rfl, by go_num, by rw [List.flatten_append, List.length_append, ← ha]; simp [hSl], by omega, hck.snoc hSl hSr, ?_, by simpa using hS, hkb.trans hk5 (fun b hb => .inl hb)⟩, by simp [intOf]; omega⟩
      have := hst.trans (Stb.app (Stb.app (Stb.refl _) hSt) (Stb.refl R))
      simpa using this
    · have hlt' : ¬ ((a + 20 : Nat) : Int) ≤ (n : Int) := by omega
      have hln := hst.length
      rw [Hn.out, List.length_append, ← ha] at hln
      have hokr := HOk.out wr _ hkb hst
      have HC := c_ins (n := n) (c := c) (D := []) wr (by simpa using hPr) (by simpa using hokr) (by simp only [List.length_nil]; omega) hnc hn2
      rw [← ha, hln] at HC
      unfold SrtP at HC
      have HC := Lib.hid HC
      have Hx := Lib.hid (And.intro ha (And.intro hln (And.intro hst hck)))
      clear hln ha hst hck hPr hokr
      go_wp2_with (first | (go_at_call 65; refine HC.out.mono ?_; rintro e w5 ⟨rfl, S, hS, hSt, hSr, hk5⟩; clear HC))
      obtain ⟨ha, hln, hst, hck⟩ := Hx.out
      have hSl : S.length < 20 := by rw [hSt.length]; omega
      have hS1 : PrB 56 w5 g (Us.flatten ++ S) := by simpa using hS
      have hst1 : Stb Pr.key L (Us.flatten ++ S) := hst.trans (Stb.app (Stb.refl _) hSt)
      have hk1 : Kb [g] w w5 := hkb.trans hk5 (fun b hb => .inl hb)
      clear Hx ha hln hst hSt hS hk5 hkb hlt'
      go_loopw [6] (fun v6 wr => ∃ (bs : Nat) (Us : List (List Pr)) (T : List Pr), v6 = .int .i64 (bs : Int) ∧ 1 ≤ bs ∧ bs ≤ 200000 ∧ Chk bs Us ∧ SrtK Pr.key T ∧ T.length < bs ∧ Stb Pr.key L (Us.flatten ++ T) ∧ PrB 56 wr g (Us.flatten ++ T) ∧ Kb [g] w wr) (fun v6 _ => 200000 - (intOf v6).toNat)
      case atStart => exact ⟨20, Us, S, by go_num, by omega, by omega, hck, hSr, hSl, hst1, hS1, hk1⟩
      case round =>
        obtain ⟨bs, Us, T, rfl, hb1, hb2, hck, hsr, hTl, hst, hPr, hkb⟩ := hrel
        have hln := hst.length
        rw [Hn.out, List.length_append, hck.len] at hln
        by_cases hlt : bs < n
        · have hlt' : (bs : Int) < (n : Int) := by omega
          obtain ⟨d, hd⟩ : ∃ d, d = 2 * bs := ⟨_, rfl⟩
          have w1 : IntKind.i64.wrap (2 * (bs : Int)) = (d : Int) := by rw [IntWalk.i64_in _ (by omega)]; omega
          have w2 : IntKind.i64.wrap ((bs : Int) * 2) = (d : Int) := by rw [IntWalk.i64_in _ (by omega)]; omega
          have Hd := Lib.hid hd
          have Hx := Lib.hid (And.intro hck (And.intro hst (And.intro hsr hTl)))
          clear hd hck hst hsr hln
          go_wp2
          go_loopw [7, 8] (fun va vb wr => ∃ (a b : Nat) (Vs Us : List (List Pr)), va = .int .i64 (a : Int) ∧ vb = .int .i64 (b : Int) ∧ b = a + d ∧ a = Vs.flatten.length ∧ a ≤ n ∧ Chk d Vs ∧ Chk bs Us ∧ Stb Pr.key L (Vs.flatten ++ (Us.flatten ++ T)) ∧ PrB 56 wr g (Vs.flatten ++ (Us.flatten ++ T)) ∧ Kb [g] w wr) (fun va _ _ => n - (intOf va).toNat)
          case atStart => exact ⟨0, d, [], Us, by go_num, rfl, by omega, rfl, Nat.zero_le _, (fun u hu => by cases hu), Hx.out.1, Hx.out.2.1, hPr, hkb⟩
          case round =>
            obtain ⟨a, b, Vs, Us, rfl, rfl, hb, ha, han, hcv, hck, hst, hPr3, hk3⟩ := hrel
            have hln := hst.length
            rw [Hn.out, List.length_append, List.length_append, ← ha, hck.len] at hln
            have hTl := Hx.out.2.2.2
            have hsT := Hx.out.2.2.1
            have hd := Hd.out
            have hokr := HOk.out wr _ hk3 hst
            by_cases hbn : b ≤ n
            · have hbn' : (b : Int) ≤ (n : Int) := by omega
              obtain ⟨u, v, Us2, rfl⟩ : ∃ u v Us2, Us = u :: v :: Us2 := by
                rcases Us with _ | ⟨u, _ | ⟨v, Us2⟩⟩
                · simp at hln; omega
                · simp at hln; omega
                · exact ⟨u, v, Us2, rfl⟩
              have hu := hck u (by simp)
              have hv := hck v (by simp)
              obtain ⟨m, hm⟩ : ∃ m, m = a + bs := ⟨_, rfl⟩
              obtain ⟨b2, hb2'⟩ : ∃ b2, b2 = b + d := ⟨_, rfl⟩
              have w3 : IntKind.i64.wrap ((a : Int) + (bs : Int)) = (m : Int) := by rw [IntWalk.i64_in _ (by omega)]; omega
              have w4 : IntKind.i64.wrap ((b : Int) + (d : Int)) = (b2 : Int) := by rw [IntWalk.i64_in _ (by omega)]; omega
              have e1 : Vs.flatten ++ ((u :: v :: Us2).flatten ++ T) = Vs.flatten ++ u ++ v ++ (Us2.flatten ++ T) := by simp
              have hll : Vs.flatten.length + u.length + v.length + (Us2.flatten ++ T).length = n := by
                have := hst.length
                rw [e1] at this
                simp only [List.length_append] at this ⊢
                have h2 := Hn.out
                omega
              have HN := Lib.hid (show ∀ S, Stb Pr.key (u ++ v) S → Stb Pr.key L (Vs.flatten ++ S ++ (Us2.flatten ++ T)) from fun S hS => by
                refine hst.trans ?_
                rw [e1, List.append_assoc (Vs.flatten) u v]
                exact (Stb.app (Stb.refl _) hS).app (Stb.refl _))
              rw [e1] at hPr3 hokr
              have HC := c_sym _ wr (c := c) (a := a) (m := m) (b := b) (Nat.le_refl _) hPr3 hokr hll hnc hn2 ha (by omega) (by omega) (by omega) (by omega) hu.2 hv.2
              unfold SrtP at HC
              have HC := Lib.hid HC
              have Hy := Lib.hid (And.intro hb (And.intro ha (And.intro hcv (And.intro hck (And.intro hm hb2')))))
              clear hb ha hcv hck hst hPr3 hln hd hokr e1 hll hu hv hm hb2' hTl hsT hPr
              go_wp2_with (first | (go_at_call 66; (with_reducible refine HC.out.mono ?_); rintro e w5 ⟨rfl, S, hS, hSt, hSr, hk5⟩; clear HC))
              obtain ⟨hb, ha, hcv, hck, hm, hb2'⟩ := Hy.out
              have hd := Hd.out
              have hu := hck u (by simp)
              have hv := hck v (by simp)
              have hSl : S.length = d := by rw [hSt.length, List.length_append]; omega
              refine ⟨⟨b, b2, Vs ++ [S], Us2, rfl, rfl, hb2', by rw [List.flatten_append, List.length_append, ← ha]; simp; omega, by omega, hcv.snoc hSl hSr, (fun x hx => hck x (by simp [hx])), ?_, ?_, hk3.trans hk5 (fun b hb => .inl hb)⟩, by simp [intOf]; omega⟩
              · have := HN.out S hSt
                simpa using this
              · simpa using hS
            · have hbn' : ¬ (b : Int) ≤ (n : Int) := by omega
              obtain ⟨m, hm⟩ : ∃ m, m = a + bs := ⟨_, rfl⟩
              have w3 : IntKind.i64.wrap ((a : Int) + (bs : Int)) = (m : Int) := by rw [IntWalk.i64_in _ (by omega)]; omega
              by_cases hmn : m < n
              · have hmn' : (m : Int) < (n : Int) := by omega
                obtain ⟨u, rfl⟩ : ∃ u, Us = [u] := by
                  rcases Us with _ | ⟨u, _ | ⟨v, Us2⟩⟩
                  · simp at hln; omega
                  · exact ⟨u, rfl⟩
                  · simp only [List.length_cons, Nat.succ_mul] at hln; omega
                have hu := hck u (by simp)
                have hT0 : 0 < T.length := by simp at hln; omega
                have e1 : Vs.flatten ++ ([u].flatten ++ T) = Vs.flatten ++ u ++ T ++ [] := by simp
                have hll : Vs.flatten.length + u.length + T.length + ([] : List Pr).length = n := by
                  simp only [List.length_nil, List.length_singleton, Nat.one_mul] at hln ⊢
                  have := hu.1
                  omega
                have HN := Lib.hid (show ∀ S, Stb Pr.key (u ++ T) S → Stb Pr.key L (Vs.flatten ++ S) from fun S hS => by
                  refine hst.trans ?_
                  have := Stb.app (key := Pr.key) (Stb.refl Vs.flatten) hS
                  simpa using this)
                rw [e1] at hPr3 hokr
                have HC := c_sym _ wr (c := c) (a := a) (m := m) (b := n) (Nat.le_refl _) hPr3 hokr hll hnc hn2 ha (by omega) (by simp only [List.length_nil] at hll; omega) (by omega) hT0 hu.2 hsT
                unfold SrtP at HC
                have HC := Lib.hid HC
                have Hy := Lib.hid (And.intro hb (And.intro ha (And.intro hcv (And.intro hu hm))))
                clear hb ha hcv hck hst hPr3 hln hd hokr e1 hll hu hm hTl hsT hPr hT0
                go_wp2_with (first | (go_at_call 66; (with_reducible refine HC.out.mono ?_); rintro e w5 ⟨rfl, S, hS, hSt, hSr, hk5⟩; clear HC))
                obtain ⟨hb, ha, hcv, hu, hm⟩ := Hy.out
                have hd := Hd.out
                have hTl := Hx.out.2.2.2
                have hSl : S.length < d := by rw [hSt.length, List.length_append]; omega
                exact ⟨⟨d, Vs, S, rfl, by omega, by omega, hcv, hSr, hSl, HN.out S hSt, by simpa using hS, hk3.trans hk5 (fun b hb => .inl hb)⟩, by simp [intOf]; omega⟩
              · have hmn' : ¬ (m : Int) < (n : Int) := by omega
                have hfin : SrtK Pr.key (Us.flatten ++ T) ∧ (Us.flatten ++ T).length < d := by
                  rcases Us with _ | ⟨u, _ | ⟨v, Us2⟩⟩
                  · simp; exact ⟨hsT, by omega⟩
                  · have h0 : T = [] := List.eq_nil_of_length_eq_zero (by simp at hln; omega)
                    have hu := hck u (by simp)
                    simp [h0]; exact ⟨hu.2, by omega⟩
                  · simp only [List.length_cons, Nat.succ_mul] at hln; omega
                have Hy := Lib.hid (And.intro hb (And.intro ha (And.intro hcv (And.intro hst (And.intro hPr3 hfin)))))
                clear hb ha hcv hck hst hPr3 hln hd hokr hm hTl hsT hPr hfin
                go_wp2
                obtain ⟨hb, ha, hcv, hst, hPr3, hfin⟩ := Hy.out
                have hd := Hd.out
                exact ⟨⟨d, Vs, Us.flatten ++ T, rfl, by omega, by omega, hcv, hfin.1, hfin.2, hst, hPr3, hk3⟩, by simp [intOf]; omega⟩
        · have hlt' : ¬ (bs : Int) < (n : Int) := by omega
          have hfin : SrtK Pr.key (Us.flatten ++ T) := by
            rcases Us with _ | ⟨u, _ | ⟨v, Us2⟩⟩
            · simpa using hsr
            · have h0 : T = [] := List.eq_nil_of_length_eq_zero (by simp at hln; omega)
              have hu := hck u (by simp)
              simpa [h0] using hu.2
            · simp only [List.length_cons, Nat.succ_mul] at hln; omega
          clear hln
          go_wp2
          go_end0
          exact ⟨rfl, _, by simpa using hPr, hst, hfin, hkb⟩
/-- slices.SortStableFunc of pairs that lie in a block. -/
theorem c_stableF (w : World) {g n c : Nat} {L : List Pr} (hP : PrB 56 w g L) (hok : PrOk w g L) (hn : L.length = n) (hnc : n ≤ c) (hn2 : n ≤ 100000) :
    Calls Try.prog 36 #[.slice (some ⟨g, 0, none⟩) n c, .func (.func 37) #[] #[]] w (SrtP w g [] L []) := by
  have HC := c_stable w hP hok hn hnc hn2
  unfold SrtP at HC
  have HC := Lib.hid HC
  clear hn
  go_enter Try.func36, Try.ntmps36
  go_wp2_with (first | (go_at_call 56; refine HC.out.mono ?_; rintro e w5 ⟨rfl, he⟩))
  go_end0
  exact ⟨rfl, he⟩
end Go.Proofs.Ytedelkifadonjaa
/- Layer 23: neighbours of one key are struck (CompactFunc). -/
namespace Go.Lec
open Go.RowKit Go.Op
theorem zeroCells_two {P : Program} (z : Array Value) (a b : Value) (hz : z = #[a, b]) (n : Nat) : (Builtin.zeroCells z n).toList = (List.replicate n [a, b]).flatten := by
  subst hz
  induction n with
  | zero => simp [Builtin.zeroCells]
  | succ n ih =>
    rw [List.replicate_succ', List.flatten_append, ← ih]
    simp only [Builtin.zeroCells, List.size_toArray, List.length_cons, List.length_nil]
    rw [show (n + 1) * (0 + 1 + 1) = n * (0 + 1 + 1) + 1 + 1 from by omega, Array.range_succ, Array.range_succ]
    simp
theorem run_clear_two {P : Program} (w : World) (t e ty : TypeId) (z : Value) (a1 a2 : Value) (ht : P.underlying t = some (.slice e)) (hv : ∀ w, (zeroValue e).run P w = .ok z w) (hz : z.cells = #[a1, a2]) (h1 : a1.oneCell' = true) (h2 : a2.oneCell' = true) (b o n c : Nat) (hn : 0 < n)
    (hc : ∀ j, j < n * 2 → (w.cell? ⟨b, o + j, none⟩).isSome = true) (hf : ∀ j, j < n * 2 → w.frozen? ⟨b, o + j, none⟩ = false) :
    (Builtin.clear_ #[t] ty #[.slice (some ⟨b, o, none⟩) n c]).run P w = .ok (.tuple #[]) (w.setCells b o (List.replicate n [a1, a2]).flatten) := by
  have hzc : (Builtin.zeroCells z.cells n).toList = (List.replicate n [a1, a2]).flatten := zeroCells_two (P := P) _ _ _ hz n
  have hl : (List.replicate n [a1, a2]).flatten.length = n * 2 := by simp
  have hst := run_storeCells_cells (P := P) b o (List.replicate n [a1, a2]).flatten 0 w (by rw [hl]; simpa using hc) (by rw [hl]; simpa using hf) (by
    intro v hv'
    simp only [List.mem_flatten, List.mem_replicate] at hv'
    obtain ⟨l, ⟨_, rfl⟩, hv'⟩ := hv'
    simp only [List.mem_cons, List.not_mem_nil, or_false] at hv'
    rcases hv' with rfl | rfl
    · exact h1
    · exact h2)
  simp only [Nat.add_zero] at hst
  obtain ⟨m, rfl⟩ : ∃ m, n = m + 1 := ⟨n - 1, by omega⟩
  simp [Builtin.clear_, run_underlying ht, hv, hzc, hst]
theorem Kb.setCells {S : List Nat} {w : World} {g : Nat} (hg : g ∈ S) : ∀ (vs : List Value) (o : Nat) (w' : World), Kb S w w' → Kb S w (w'.setCells g o vs)
  | [], _, _, h => h
  | v :: r, o, w', h => Kb.setCells hg r (o + 1) _ (h.setCell (p := ⟨g, o, none⟩) (.inl hg) v)
theorem Bk.setCells {t : TypeId} {g : Nat} {pre : List Value} : ∀ (vs : List Value) (o : Nat) (w : World) (r : List Value), pre.length ≤ o → Bk w g t (pre ++ r).toArray → ∃ r', Bk (w.setCells g o vs) g t (pre ++ r').toArray
  | [], _, _, r, _, h => ⟨r, h⟩
  | v :: vs, o, w, r, ho, h => by
    have h2 := h.set_ o v
    rw [List.setIfInBounds_toArray, List.set_append_right _ _ ho] at h2
    exact Bk.setCells vs (o + 1) _ _ (by omega) h2
/-- What has come before the end of a row of pairs stays when what is behind it is set anew. -/
theorem PrB.tail {t : TypeId} {w : World} {g : Nat} {C X : List Pr} (h : PrB t w g (C ++ X)) (vs : List Value) {o : Nat} (ho : C.length * 2 ≤ o) : PrB t (w.setCells g o vs) g C := by
  obtain ⟨r, h⟩ := h
  rw [List.flatMap_append, List.append_assoc] at h
  exact Bk.setCells vs o w _ (by rw [flat_len Pr.cs_len]; omega) h
theorem PrB.left {t : TypeId} {w : World} {g : Nat} {C X : List Pr} (h : PrB t w g (C ++ X)) : PrB t w g C := h.tail (o := C.length * 2) [] (Nat.le_refl _)
/-- Pairs whose neighbours of one key are struck. -/
def cpF : Pr → List Pr → List Pr
  | _, [] => []
  | x, y :: l => if y.key = x.key then cpF y l else y :: cpF y l
def cpR : List Pr → List Pr
  | [] => []
  | x :: l => x :: cpF x l
theorem cpF_mem : ∀ (l : List Pr) (x : Pr), ∀ m ∈ cpF x l, m ∈ l
  | [], _, _, h => h
  | y :: l, x, m, h => by
    rw [cpF] at h
    split at h
    · exact List.mem_cons_of_mem _ (cpF_mem l y m h)
    · rcases List.mem_cons.1 h with rfl | h
      · exact List.mem_cons_self
      · exact List.mem_cons_of_mem _ (cpF_mem l y m h)
theorem cpR_mem (l : List Pr) : ∀ m ∈ cpR l, m ∈ l := fun m h => by
  cases l with
  | nil => exact h
  | cons x l =>
    rcases List.mem_cons.1 h with rfl | h
    · exact List.mem_cons_self
    · exact List.mem_cons_of_mem _ (cpF_mem l x m h)
end Go.Lec
namespace Go.Proofs.Ytedelkifadonjaa
open Go.RowKit Go.Lec Go.Op
theorem zero_pair (w : World) : (zeroValue 56).run Try.prog w = .ok (.agg #[.slice none 0 0, .slice none 0 0]) w := by kernel_rfl
/-- bytes.Equal. -/
theorem c_bEqual (w : World) {B B2 : Nat} {A A2 : Option Addr} {n c n2 c2 : Nat} {l m : List UInt8} (hr : Rd w B A n (bcs l)) (hr2 : Rd w B2 A2 n2 (bcs m)) :
    Calls Try.prog 41 #[.slice A n c, .slice A2 n2 c2] w fun e w' => e = .returned (.bool (decide (l = m))) ∧ w' = w := by
  have s1 : ∀ (W : World), W = w → (convert 23 9 (.slice A n c)).run Try.prog W = .ok (.string ⟨l.toArray⟩) W := fun W h => by rw [h]; exact run_str (P := Try.prog) Try.underlying23 Try.underlying5 Try.underlying9 (c := c) hr
  have s2 : ∀ (W : World), W = w → (convert 23 9 (.slice A2 n2 c2)).run Try.prog W = .ok (.string ⟨m.toArray⟩) W := fun W h => by rw [h]; exact run_str (P := Try.prog) Try.underlying23 Try.underlying5 Try.underlying9 (c := c2) hr2
  have s1 := s1 w rfl
  have s2 := s2 w rfl
  go_enter Try.func41, Try.ntmps41
  go_wp2
  go_ret
  by_cases h : l = m <;> simp [h]
/-- Whether pairs have one key. -/
theorem c_eq (w : World) {B B2 : Nat} {x y : Pr} (hx : x.ok w B) (hy : y.ok w B2) (hB : B ≤ w.heap.size) (hB2 : B2 ≤ w.heap.size) :
    Calls Try.prog 40 #[x.val, y.val] w fun e w' => e = .returned (.bool (decide (x.key = y.key))) ∧ Below w.heap.size w w' := by
  have hb1 := (Below.refl w.heap.size w).alloc (Nat.le_refl _) (.cells #[.slice x.A1 x.n1 x.c1, .slice x.A2 x.n2 x.c2] 56)
  have N1 := (Bk.new_ w 56 #[.slice x.A1 x.n1 x.c1, .slice x.A2 x.n2 x.c2]).alloc (.cells #[.slice y.A1 y.n1 y.c1, .slice y.A2 y.n2 y.c2] 56)
  have N2 := Bk.new_ (w.alloc (.cells #[.slice x.A1 x.n1 x.c1, .slice x.A2 x.n2 x.c2] 56)) 56 #[.slice y.A1 y.n1 y.c1, .slice y.A2 y.n2 y.c2]
  have hb2 := hb1.alloc hb1.size (.cells #[.slice y.A1 y.n1 y.c1, .slice y.A2 y.n2 y.c2] 56)
  rw [World.size_alloc] at N2
  have q1 := N1.cell
  have q2 := N2.cell
  have HC := Lib.hid (c_bEqual _ (c := x.c1) (c2 := y.c1) (hx.1.below hb2 hB) (hy.1.below hb2 hB2))
  have Hb := Lib.hid hb2
  clear N1 N2 hb1 hb2
  unfold Pr.val
  go_enter Try.func40, Try.ntmps40
  go_wp2_with (first | (go_at_call 41; refine HC.out.mono ?_; rintro e w1 ⟨rfl, rfl⟩))
  go_ret
  exact ⟨rfl, Hb.out⟩
/-- What striking answers. -/
def CpP (w : World) (g c : Nat) (L : List Pr) (e : Ending) (w' : World) : Prop :=
  e = .returned (.slice (some ⟨g, 0, none⟩) (cpR L).length c) ∧ PrB 56 w' g (cpR L) ∧ (cpR L).length ≤ L.length ∧ Kb [g] w w'
set_option maxRecDepth 100000 in
set_option maxHeartbeats 4000000 in
theorem c_compact (w : World) {g n c : Nat} {L : List Pr} (hP : PrB 56 w g L) (hok : PrOk w g L) (hn : L.length = n) (hnc : n ≤ c) (hn2 : n ≤ 100000) (hn1 : 0 < n) :
    Calls Try.prog 39 #[.slice (some ⟨g, 0, none⟩) n c, .func (.func 40) #[] #[]] w (CpP w g c L) := by
  have HOk := Lib.hid (fun (W : World) (hk : Kb [g] w W) => hok.kb hk)
  have Hn := Lib.hid hn
  clear hok
  by_cases h2 : n < 2
  · have h2' : (n : Int) < 2 := by omega
    obtain ⟨x, rfl⟩ := List.length_eq_one_iff.mp (show L.length = 1 by omega)
    have hn' : n = 1 := by rw [← hn]; rfl
    subst hn'
    clear hn
    go_enter Try.func39, Try.ntmps39
    go_wp2
    go_ret
    exact ⟨rfl, hP, Nat.le_refl _, Kb.refl _ _⟩
  · have h2' : ¬ (n : Int) < 2 := by omega
    clear hn
    go_enter Try.func39, Try.ntmps39
    go_wp2
    go_loopw [5] (fun v wr => ∃ (p : Nat) (x : Pr), v = .int .i64 (p : Int) ∧ 1 ≤ p ∧ p ≤ n ∧ L[p - 1]? = some x ∧ L.take p ++ cpF x (L.drop p) = cpR L ∧ PrB 56 wr g L ∧ Kb [g] w wr) (fun v _ => n - (intOf v).toNat)
    case atStart =>
      have hl := Hn.out
      obtain ⟨x, L', rfl⟩ : ∃ x L', L = x :: L' := by
        cases L with
        | nil => simp at hl; omega
        | cons x L' => exact ⟨x, L', rfl⟩
      exact ⟨1, x, by go_num, Nat.le_refl _, by omega, rfl, rfl, hP, Kb.refl _ _⟩
    case round =>
      obtain ⟨p, x, rfl, hp1, hpn, hx, hcp, hPr, hkb⟩ := hrel
      clear hP
      by_cases hlt : p < n
      · have hlt' : (p : Int) < (n : Int) := by omega
        have hl := Hn.out
        have lp : p < L.length := by omega
        have lk : p - 1 < L.length := by omega
        obtain ⟨k, hk⟩ : ∃ k, k = p - 1 := ⟨_, rfl⟩
        rw [← hk] at hx lk
        obtain ⟨y, hy⟩ : ∃ y, y = L[p] := ⟨_, rfl⟩
        have hdr : L.drop p = y :: L.drop (p + 1) := by rw [hy]; exact List.drop_eq_getElem_cons lp
        have htk : L.take (p + 1) = L.take p ++ [y] := by rw [hy]; exact List.take_succ_eq_append_getElem lp
        have hxe : L[k] = x := by rw [List.getElem?_eq_getElem lk] at hx; exact Option.some.inj hx
        have hye : L[p]? = some y := by rw [List.getElem?_eq_getElem lp, hy]
        have c0 := hPr.cell lp
        have c1 := hPr.cell lk
        rw [← hy] at c0
        rw [hxe] at c1
        have hmx := HOk.out wr hkb
        have hyo := hmx y (by rw [hy]; exact List.getElem_mem lp)
        have hxo := hmx x (by rw [← hxe]; exact List.getElem_mem lk)
        have HC := c_eq wr.drew hyo.1 hxo.1 (Nat.le_refl _) (Nat.le_refl _)
        unfold Pr.val at HC
        have HC := Lib.hid HC
        have HP := Lib.hid hPr
        have w1 : IntKind.i64.wrap ((p : Int) - 1) = (k : Int) := by rw [IntWalk.i64_in _ (by omega)]; omega
        have w2 : IntKind.i64.wrap (p : Int) = (p : Int) := IntWalk.i64_in _ (by omega)
        have w3 : IntKind.i64.wrap (k : Int) = (k : Int) := IntWalk.i64_in _ (by omega)
        have i1 : (0 : Int) ≤ (p : Int) := by omega
        have i3 : (0 : Int) ≤ (k : Int) := by omega
        have i4 : (k : Int) < (n : Int) := by omega
        have Hx := Lib.hid (And.intro hk (And.intro hcp (And.intro hdr (And.intro htk hye))))
        clear hk hcp hdr htk hye hxe hy hx lp lk hmx hyo hxo hl
        by_cases hke : y.key = x.key
        · have hkd : decide (y.key = x.key) = true := by simp [hke]
          have Hke := Lib.hid hke
          clear hke
          go_wp2
          have hHeld : (fun W : World => (W.cell? ⟨g, p * 2, none⟩ = some (.slice y.A1 y.n1 y.c1) ∧ W.cell? ⟨g, p * 2 + 1, none⟩ = some (.slice y.A2 y.n2 y.c2)) ∧ W.cell? ⟨g, k * 2, none⟩ = some (.slice x.A1 x.n1 x.c1) ∧ W.cell? ⟨g, k * 2 + 1, none⟩ = some (.slice x.A2 x.n2 x.c2)) wr.drew := ⟨c0, c1⟩
          refine wp_region_noPanic ?_
          refine wp_region_held (S := fun W : World => (W.cell? ⟨g, p * 2, none⟩ = some (.slice y.A1 y.n1 y.c1) ∧ W.cell? ⟨g, p * 2 + 1, none⟩ = some (.slice y.A2 y.n2 y.c2)) ∧ W.cell? ⟨g, k * 2, none⟩ = some (.slice x.A1 x.n1 x.c1) ∧ W.cell? ⟨g, k * 2 + 1, none⟩ = some (.slice x.A2 x.n2 x.c2)) (by kernel_rfl) ?_
          simp only [List.size_toArray, List.length_cons, List.length_nil, Nat.reduceAdd]
          refine heldTake (i := 0) (v := ?_) rfl (by kernel_rfl) (by kernel_rfl) (by kernel_rfl) (fun _ _ _ h => h) hHeld (by rfl) ?_ ?_
          rotate_left
          · (intro w hSw; (try dsimp only at hSw); go_simp; try with_reducible rfl)
          try simp only [Act.put, List.setIfInBounds_toArray, List.set_cons_zero, List.set_cons_succ]
          refine heldTake (i := 1) (v := ?_) rfl (by kernel_rfl) (by kernel_rfl) (by kernel_rfl) (fun _ _ _ h => h) hHeld (by rfl) ?_ ?_
          rotate_left
          · (intro w hSw; (try dsimp only at hSw); go_simp; try with_reducible rfl)
          try simp only [Act.put, List.setIfInBounds_toArray, List.set_cons_zero, List.set_cons_succ]
          refine heldTake (i := 2) (v := ?_) rfl (by kernel_rfl) (by kernel_rfl) (by kernel_rfl) (fun _ _ _ h => h) hHeld (by rfl) ?_ ?_
          rotate_left
          · (intro w hSw; (try dsimp only at hSw); go_simp; try with_reducible rfl)
          try simp only [Act.put, List.setIfInBounds_toArray, List.set_cons_zero, List.set_cons_succ]
          refine heldTake (i := 3) (v := ?_) rfl (by kernel_rfl) (by kernel_rfl) (by kernel_rfl) (fun _ _ _ h => h) hHeld (by rfl) ?_ ?_
          rotate_left
          · (intro w hSw; (try dsimp only at hSw); go_simp; try with_reducible rfl)
          try simp only [Act.put, List.setIfInBounds_toArray, List.set_cons_zero, List.set_cons_succ]
          refine heldTake (i := 4) (v := ?_) rfl (by kernel_rfl) (by kernel_rfl) (by kernel_rfl) (fun _ _ _ h => h) hHeld (by rfl) ?_ ?_
          rotate_left
          · (intro w hSw; (try dsimp only at hSw); go_simp; try with_reducible rfl)
          try simp only [Act.put, List.setIfInBounds_toArray, List.set_cons_zero, List.set_cons_succ]
          refine heldTake (i := 5) (v := ?_) rfl (by kernel_rfl) (by kernel_rfl) (by kernel_rfl) (fun _ _ _ h => h) hHeld (by rfl) ?_ ?_
          rotate_left
          · (intro w hSw; (try dsimp only at hSw); go_simp; try with_reducible rfl)
          try simp only [Act.put, List.setIfInBounds_toArray, List.set_cons_zero, List.set_cons_succ]
          refine heldTake (i := 6) (v := ?_) rfl (by kernel_rfl) (by kernel_rfl) (by kernel_rfl) (fun _ _ _ h => h) hHeld (by rfl) ?_ ?_
          rotate_left
          · (intro w hSw; (try dsimp only at hSw); go_simp; try with_reducible rfl)
          try simp only [Act.put, List.setIfInBounds_toArray, List.set_cons_zero, List.set_cons_succ]
          refine heldTake (i := 7) (v := ?_) rfl (by kernel_rfl) (by kernel_rfl) (by kernel_rfl) (fun _ _ _ h => h) hHeld (by rfl) ?_ ?_
          rotate_left
          · (intro w hSw; (try dsimp only at hSw); go_simp; try with_reducible rfl)
          try simp only [Act.put, List.setIfInBounds_toArray, List.set_cons_zero, List.set_cons_succ]
          refine heldTake (i := 8) (v := ?_) rfl (by kernel_rfl) (by kernel_rfl) (by kernel_rfl) (fun _ _ _ h => h) hHeld (by rfl) ?_ ?_
          rotate_left
          · (intro w hSw; (try dsimp only at hSw); go_simp; try with_reducible rfl)
          try simp only [Act.put, List.setIfInBounds_toArray, List.set_cons_zero, List.set_cons_succ]
          refine heldTake (i := 9) (v := ?_) rfl (by kernel_rfl) (by kernel_rfl) (by kernel_rfl) (fun _ _ _ h => h) hHeld (by rfl) ?_ ?_
          rotate_left
          · (intro w hSw; (try dsimp only at hSw); go_simp; try with_reducible rfl)
          try simp only [Act.put, List.setIfInBounds_toArray, List.set_cons_zero, List.set_cons_succ]
          refine heldStep (i := 10) rfl (by kernel_rfl) (fun K hK => ?_)
          go_simp
          go_at_call 40
          refine HC.out.mono ?_
          rintro e w5 ⟨rfl, hb5⟩
          have hb5w : Below wr.heap.size wr w5 := ((Below.refl wr.heap.size wr).drew).trans hb5
          refine hK.out _ _ (⟨⟨(hb5.cell (p := ⟨g, p * 2, none⟩) HP.out.lt).trans c0.1, (hb5.cell (p := ⟨g, p * 2 + 1, none⟩) HP.out.lt).trans c0.2⟩, (hb5.cell (p := ⟨g, k * 2, none⟩) HP.out.lt).trans c1.1, (hb5.cell (p := ⟨g, k * 2 + 1, none⟩) HP.out.lt).trans c1.2⟩) (fun hHeld => ?_)
          clear hK K
          try simp only [Act.put, List.setIfInBounds_toArray, List.set_cons_zero, List.set_cons_succ]
          refine wpAnyH_done (by kernel_rfl) ?_ _
          refine NoPanic.normal ?_
          go_wp2
          generalize hr : n - p = r
          have hP5 := HP.out.below hb5w HP.out.lt
          have hk5 : Kb [g] w w5 := hkb.trans (Kb.of_below hb5w : Kb [] wr w5) (fun b hb => by simp at hb)
          have hst0 : L.take p ++ cpF y (L.drop (p + 1)) = cpR L := by
            obtain ⟨hk, hcp, hdr, htk, hye⟩ := Hx.out
            rw [← hcp, hdr, cpF, if_pos Hke.out]
          have hye := Hx.out.2.2.2.2
          have Hr := Lib.hid hr
          clear hr Hx HP HC hHeld c0 c1 w1 w3 i3 i4 hkd Hke hPr hkb hb5 hb5w
          go_loopw [5, 7] (fun v5 v7 wr => ∃ (q i : Nat) (x : Pr) (C : List Pr), v5 = .int .i64 (q : Int) ∧ v7 = .int .i64 (i : Int) ∧ 1 ≤ i ∧ i ≤ r ∧ C.length = q ∧ p ≤ q ∧ q + 1 ≤ p + i ∧ L[p + i - 1]? = some x ∧ C ++ cpF x (L.drop (p + i)) = cpR L ∧ PrB 56 wr g (C ++ L.drop q) ∧ Kb [g] w wr) (fun _ v7 _ => r - (intOf v7).toNat)
          case atStart =>
            have hr := Hr.out
            have hl := Hn.out
            exact ⟨p, 1, y, L.take p, rfl, by go_num, Nat.le_refl _, by omega, by rw [List.length_take]; omega, Nat.le_refl _, Nat.le_refl _, hye, hst0, by rw [List.take_append_drop]; exact hP5, hk5⟩
          case round =>
            obtain ⟨q, i, x, C, rfl, rfl, hi1, hir, hC, hpq, hqi, hx, hcp, hPr, hkb⟩ := hrel
            clear hP5 hk5 hst0 hye
            have hr := Hr.out
            have hl := Hn.out
            have hqn : q < n := by omega
            by_cases hlt2 : i < r
            · have hlt2' : (i : Int) < (r : Int) := by omega
              obtain ⟨h, hh⟩ : ∃ h, h = i - 1 := ⟨_, rfl⟩
              obtain ⟨i2, hi2⟩ : ∃ i2, i2 = i + 1 := ⟨_, rfl⟩
              obtain ⟨q2, hq2⟩ : ∃ q2, q2 = q + 1 := ⟨_, rfl⟩
              have lp : p + i < L.length := by omega
              have lk : p + h < L.length := by omega
              obtain ⟨z, hz⟩ : ∃ z, z = L[p + i] := ⟨_, rfl⟩
              have hdr : L.drop (p + i) = z :: L.drop (p + i + 1) := by rw [hz]; exact List.drop_eq_getElem_cons lp
              have hxe : L[p + h] = x := by
                have e : p + i - 1 = p + h := by omega
                rw [e, List.getElem?_eq_getElem lk] at hx
                exact Option.some.inj hx
              have hze : L[p + i]? = some z := by rw [List.getElem?_eq_getElem lp, hz]
              have hlen : (C ++ L.drop q).length = n := by rw [List.length_append, List.length_drop]; omega
              have ge : ∀ t, q ≤ t → (ht : t < L.length) → ∃ ht2 : t < (C ++ L.drop q).length, (C ++ L.drop q)[t] = L[t] := fun t h1 h2 => by
                refine ⟨by omega, ?_⟩
                rw [List.getElem_append_right (by omega), List.getElem_drop]
                congr 1; omega
              obtain ⟨l0, e0⟩ := ge (p + i) (by omega) lp
              obtain ⟨l1, e1⟩ := ge (p + h) (by omega) lk
              have lq : q < (C ++ L.drop q).length := by omega
              have c0 := hPr.cell l0
              have c1 := hPr.cell l1
              rw [e0, ← hz] at c0
              rw [e1, hxe] at c1
              rw [show (p + i) * 2 = p * 2 + i * 2 from by omega] at c0
              rw [show (p + h) * 2 = p * 2 + h * 2 from by omega] at c1
              have hmx := HOk.out wr hkb
              have hzo := hmx z (by rw [hz]; exact List.getElem_mem lp)
              have hxo := hmx x (by rw [← hxe]; exact List.getElem_mem lk)
              have HC := c_eq wr.drew hzo.1 hxo.1 (Nat.le_refl _) (Nat.le_refl _)
              unfold Pr.val at HC
              have HC := Lib.hid HC
              have HP := Lib.hid hPr
              have hset : (C ++ L.drop q).set q z = (C ++ [z]) ++ L.drop (q + 1) := by
                rw [List.set_append_right _ _ (by omega), List.drop_eq_getElem_cons (show q < L.length by omega), hC, Nat.sub_self, List.set_cons_zero, List.append_assoc]
                rfl
              have w1 : IntKind.i64.wrap ((i : Int) - 1) = (h : Int) := by rw [IntWalk.i64_in _ (by omega)]; omega
              have w3 : IntKind.i64.wrap (h : Int) = (h : Int) := IntWalk.i64_in _ (by omega)
              have w4 : IntKind.i64.wrap (i : Int) = (i : Int) := IntWalk.i64_in _ (by omega)
              have w5' : IntKind.i64.wrap ((i : Int) + 1) = (i2 : Int) := by rw [IntWalk.i64_in _ (by omega)]; omega
              have w6 : IntKind.i64.wrap ((q : Int) + 1) = (q2 : Int) := by rw [IntWalk.i64_in _ (by omega)]; omega
              have w7 : IntKind.i64.wrap (q : Int) = (q : Int) := IntWalk.i64_in _ (by omega)
              have i1' : (0 : Int) ≤ (i : Int) := by omega
              have i3 : (0 : Int) ≤ (h : Int) := by omega
              have i4 : (h : Int) < (r : Int) := by omega
              have i5 : (0 : Int) ≤ (q : Int) := by omega
              have i6 : (q : Int) < (n : Int) := by omega
              have hfa : p + i2 - 1 = p + i := by omega
              have Hx := Lib.hid (And.intro hcp (And.intro hdr (And.intro hze (And.intro hset (And.intro hi2 (And.intro hq2 (And.intro hC hfa)))))))
              have Hq := Lib.hid lq
              clear hcp hdr hze hset hi2 hq2 hC hfa hh hx hxe hz lp lk e0 e1 l0 l1 ge hlen hmx hzo hxo hl hr lq hPr
              by_cases hke : z.key = x.key
              · have hkd : decide (z.key = x.key) = true := by simp [hke]
                have Hke := Lib.hid hke
                clear hke
                go_wp2
                have hHeld : (fun W : World => (W.cell? ⟨g, p * 2 + i * 2, none⟩ = some (.slice z.A1 z.n1 z.c1) ∧ W.cell? ⟨g, p * 2 + i * 2 + 1, none⟩ = some (.slice z.A2 z.n2 z.c2)) ∧ W.cell? ⟨g, p * 2 + h * 2, none⟩ = some (.slice x.A1 x.n1 x.c1) ∧ W.cell? ⟨g, p * 2 + h * 2 + 1, none⟩ = some (.slice x.A2 x.n2 x.c2)) wr.drew := ⟨c0, c1⟩
                refine wp_region_noPanic ?_
                refine wp_region_held (S := fun W : World => (W.cell? ⟨g, p * 2 + i * 2, none⟩ = some (.slice z.A1 z.n1 z.c1) ∧ W.cell? ⟨g, p * 2 + i * 2 + 1, none⟩ = some (.slice z.A2 z.n2 z.c2)) ∧ W.cell? ⟨g, p * 2 + h * 2, none⟩ = some (.slice x.A1 x.n1 x.c1) ∧ W.cell? ⟨g, p * 2 + h * 2 + 1, none⟩ = some (.slice x.A2 x.n2 x.c2)) (by kernel_rfl) ?_
                simp only [List.size_toArray, List.length_cons, List.length_nil, Nat.reduceAdd]
                refine heldTake (i := 0) (v := ?_) rfl (by kernel_rfl) (by kernel_rfl) (by kernel_rfl) (fun _ _ _ h => h) hHeld (by rfl) ?_ ?_
                rotate_left
                · (intro w hSw; (try dsimp only at hSw); go_simp; try with_reducible rfl)
                try simp only [Act.put, List.setIfInBounds_toArray, List.set_cons_zero, List.set_cons_succ]
                refine heldTake (i := 1) (v := ?_) rfl (by kernel_rfl) (by kernel_rfl) (by kernel_rfl) (fun _ _ _ h => h) hHeld (by rfl) ?_ ?_
                rotate_left
                · (intro w hSw; (try dsimp only at hSw); go_simp; try with_reducible rfl)
                try simp only [Act.put, List.setIfInBounds_toArray, List.set_cons_zero, List.set_cons_succ]
                refine heldTake (i := 2) (v := ?_) rfl (by kernel_rfl) (by kernel_rfl) (by kernel_rfl) (fun _ _ _ h => h) hHeld (by rfl) ?_ ?_
                rotate_left
                · (intro w hSw; (try dsimp only at hSw); go_simp; try with_reducible rfl)
                try simp only [Act.put, List.setIfInBounds_toArray, List.set_cons_zero, List.set_cons_succ]
                refine heldTake (i := 3) (v := ?_) rfl (by kernel_rfl) (by kernel_rfl) (by kernel_rfl) (fun _ _ _ h => h) hHeld (by rfl) ?_ ?_
                rotate_left
                · (intro w hSw; (try dsimp only at hSw); go_simp; try with_reducible rfl)
                try simp only [Act.put, List.setIfInBounds_toArray, List.set_cons_zero, List.set_cons_succ]
                refine heldTake (i := 4) (v := ?_) rfl (by kernel_rfl) (by kernel_rfl) (by kernel_rfl) (fun _ _ _ h => h) hHeld (by rfl) ?_ ?_
                rotate_left
                · (intro w hSw; (try dsimp only at hSw); go_simp; try with_reducible rfl)
                try simp only [Act.put, List.setIfInBounds_toArray, List.set_cons_zero, List.set_cons_succ]
                refine heldTake (i := 5) (v := ?_) rfl (by kernel_rfl) (by kernel_rfl) (by kernel_rfl) (fun _ _ _ h => h) hHeld (by rfl) ?_ ?_
                rotate_left
                · (intro w hSw; (try dsimp only at hSw); go_simp; try with_reducible rfl)
                try simp only [Act.put, List.setIfInBounds_toArray, List.set_cons_zero, List.set_cons_succ]
                refine heldTake (i := 6) (v := ?_) rfl (by kernel_rfl) (by kernel_rfl) (by kernel_rfl) (fun _ _ _ h => h) hHeld (by rfl) ?_ ?_
                rotate_left
                · (intro w hSw; (try dsimp only at hSw); go_simp; try with_reducible rfl)
                try simp only [Act.put, List.setIfInBounds_toArray, List.set_cons_zero, List.set_cons_succ]
                refine heldTake (i := 7) (v := ?_) rfl (by kernel_rfl) (by kernel_rfl) (by kernel_rfl) (fun _ _ _ h => h) hHeld (by rfl) ?_ ?_
                rotate_left
                · (intro w hSw; (try dsimp only at hSw); go_simp; try with_reducible rfl)
                try simp only [Act.put, List.setIfInBounds_toArray, List.set_cons_zero, List.set_cons_succ]
                refine heldTake (i := 8) (v := ?_) rfl (by kernel_rfl) (by kernel_rfl) (by kernel_rfl) (fun _ _ _ h => h) hHeld (by rfl) ?_ ?_
                rotate_left
                · (intro w hSw; (try dsimp only at hSw); go_simp; try with_reducible rfl)
                try simp only [Act.put, List.setIfInBounds_toArray, List.set_cons_zero, List.set_cons_succ]
                refine heldTake (i := 9) (v := ?_) rfl (by kernel_rfl) (by kernel_rfl) (by kernel_rfl) (fun _ _ _ h => h) hHeld (by rfl) ?_ ?_
                rotate_left
                · (intro w hSw; (try dsimp only at hSw); go_simp; try with_reducible rfl)
                try simp only [Act.put, List.setIfInBounds_toArray, List.set_cons_zero, List.set_cons_succ]
                refine heldStep (i := 10) rfl (by kernel_rfl) (fun K hK => ?_)
                go_simp
                go_at_call 40
                refine HC.out.mono ?_
                rintro e w5 ⟨rfl, hb5⟩
                have hb5w : Below wr.heap.size wr w5 := ((Below.refl wr.heap.size wr).drew).trans hb5
                refine hK.out _ _ (⟨⟨(hb5.cell (p := ⟨g, p * 2 + i * 2, none⟩) HP.out.lt).trans c0.1, (hb5.cell (p := ⟨g, p * 2 + i * 2 + 1, none⟩) HP.out.lt).trans c0.2⟩, (hb5.cell (p := ⟨g, p * 2 + h * 2, none⟩) HP.out.lt).trans c1.1, (hb5.cell (p := ⟨g, p * 2 + h * 2 + 1, none⟩) HP.out.lt).trans c1.2⟩) (fun hHeld => ?_)
                clear hK K
                try simp only [Act.put, List.setIfInBounds_toArray, List.set_cons_zero, List.set_cons_succ]
                refine heldTake (i := 11) (v := ?_) rfl (by kernel_rfl) (by kernel_rfl) (by kernel_rfl) (fun _ _ _ h => h) hHeld (by rfl) ?_ ?_
                rotate_left
                · (intro w hSw; (try dsimp only at hSw); go_simp; try with_reducible rfl)
                try simp only [Act.put, List.setIfInBounds_toArray, List.set_cons_zero, List.set_cons_succ]
                refine wpAnyH_done (by kernel_rfl) ?_ _
                refine NoPanic.normal ?_
                go_wp2
                obtain ⟨hcp, hdr, hze, hset, hi2, hq2, hC, hfa⟩ := Hx.out
                refine ⟨⟨q, i2, z, C, rfl, rfl, by omega, by omega, hC, hpq, by omega, by rw [hfa]; exact hze, ?_, HP.out.below hb5w HP.out.lt, hkb.trans (Kb.of_below hb5w : Kb [] wr w5) (fun b hb => by simp at hb)⟩, by simp [intOf]; omega⟩
                rw [← hcp, hdr, cpF, if_pos Hke.out, hi2]
                rfl
              · have hkd : decide (z.key = x.key) = false := by simp [hke]
                have Hke := Lib.hid hke
                clear hke
                go_wp2
                have hHeld : (fun W : World => (W.cell? ⟨g, p * 2 + i * 2, none⟩ = some (.slice z.A1 z.n1 z.c1) ∧ W.cell? ⟨g, p * 2 + i * 2 + 1, none⟩ = some (.slice z.A2 z.n2 z.c2)) ∧ W.cell? ⟨g, p * 2 + h * 2, none⟩ = some (.slice x.A1 x.n1 x.c1) ∧ W.cell? ⟨g, p * 2 + h * 2 + 1, none⟩ = some (.slice x.A2 x.n2 x.c2)) wr.drew := ⟨c0, c1⟩
                refine wp_region_noPanic ?_
                refine wp_region_held (S := fun W : World => (W.cell? ⟨g, p * 2 + i * 2, none⟩ = some (.slice z.A1 z.n1 z.c1) ∧ W.cell? ⟨g, p * 2 + i * 2 + 1, none⟩ = some (.slice z.A2 z.n2 z.c2)) ∧ W.cell? ⟨g, p * 2 + h * 2, none⟩ = some (.slice x.A1 x.n1 x.c1) ∧ W.cell? ⟨g, p * 2 + h * 2 + 1, none⟩ = some (.slice x.A2 x.n2 x.c2)) (by kernel_rfl) ?_
                simp only [List.size_toArray, List.length_cons, List.length_nil, Nat.reduceAdd]
                refine heldTake (i := 0) (v := ?_) rfl (by kernel_rfl) (by kernel_rfl) (by kernel_rfl) (fun _ _ _ h => h) hHeld (by rfl) ?_ ?_
                rotate_left
                · (intro w hSw; (try dsimp only at hSw); go_simp; try with_reducible rfl)
                try simp only [Act.put, List.setIfInBounds_toArray, List.set_cons_zero, List.set_cons_succ]
                refine heldTake (i := 1) (v := ?_) rfl (by kernel_rfl) (by kernel_rfl) (by kernel_rfl) (fun _ _ _ h => h) hHeld (by rfl) ?_ ?_
                rotate_left
                · (intro w hSw; (try dsimp only at hSw); go_simp; try with_reducible rfl)
                try simp only [Act.put, List.setIfInBounds_toArray, List.set_cons_zero, List.set_cons_succ]
                refine heldTake (i := 2) (v := ?_) rfl (by kernel_rfl) (by kernel_rfl) (by kernel_rfl) (fun _ _ _ h => h) hHeld (by rfl) ?_ ?_
                rotate_left
                · (intro w hSw; (try dsimp only at hSw); go_simp; try with_reducible rfl)
                try simp only [Act.put, List.setIfInBounds_toArray, List.set_cons_zero, List.set_cons_succ]
                refine heldTake (i := 3) (v := ?_) rfl (by kernel_rfl) (by kernel_rfl) (by kernel_rfl) (fun _ _ _ h => h) hHeld (by rfl) ?_ ?_
                rotate_left
                · (intro w hSw; (try dsimp only at hSw); go_simp; try with_reducible rfl)
                try simp only [Act.put, List.setIfInBounds_toArray, List.set_cons_zero, List.set_cons_succ]
                refine heldTake (i := 4) (v := ?_) rfl (by kernel_rfl) (by kernel_rfl) (by kernel_rfl) (fun _ _ _ h => h) hHeld (by rfl) ?_ ?_
                rotate_left
                · (intro w hSw; (try dsimp only at hSw); go_simp; try with_reducible rfl)
                try simp only [Act.put, List.setIfInBounds_toArray, List.set_cons_zero, List.set_cons_succ]
                refine heldTake (i := 5) (v := ?_) rfl (by kernel_rfl) (by kernel_rfl) (by kernel_rfl) (fun _ _ _ h => h) hHeld (by rfl) ?_ ?_
                rotate_left
                · (intro w hSw; (try dsimp only at hSw); go_simp; try with_reducible rfl)
                try simp only [Act.put, List.setIfInBounds_toArray, List.set_cons_zero, List.set_cons_succ]
                refine heldTake (i := 6) (v := ?_) rfl (by kernel_rfl) (by kernel_rfl) (by kernel_rfl) (fun _ _ _ h => h) hHeld (by rfl) ?_ ?_
                rotate_left
                · (intro w hSw; (try dsimp only at hSw); go_simp; try with_reducible rfl)
                try simp only [Act.put, List.setIfInBounds_toArray, List.set_cons_zero, List.set_cons_succ]
                refine heldTake (i := 7) (v := ?_) rfl (by kernel_rfl) (by kernel_rfl) (by kernel_rfl) (fun _ _ _ h => h) hHeld (by rfl) ?_ ?_
                rotate_left
                · (intro w hSw; (try dsimp only at hSw); go_simp; try with_reducible rfl)
                try simp only [Act.put, List.setIfInBounds_toArray, List.set_cons_zero, List.set_cons_succ]
                refine heldTake (i := 8) (v := ?_) rfl (by kernel_rfl) (by kernel_rfl) (by kernel_rfl) (fun _ _ _ h => h) hHeld (by rfl) ?_ ?_
                rotate_left
                · (intro w hSw; (try dsimp only at hSw); go_simp; try with_reducible rfl)
                try simp only [Act.put, List.setIfInBounds_toArray, List.set_cons_zero, List.set_cons_succ]
                refine heldTake (i := 9) (v := ?_) rfl (by kernel_rfl) (by kernel_rfl) (by kernel_rfl) (fun _ _ _ h => h) hHeld (by rfl) ?_ ?_
                rotate_left
                · (intro w hSw; (try dsimp only at hSw); go_simp; try with_reducible rfl)
                try simp only [Act.put, List.setIfInBounds_toArray, List.set_cons_zero, List.set_cons_succ]
                refine heldStep (i := 10) rfl (by kernel_rfl) (fun K hK => ?_)
                go_simp
                go_at_call 40
                refine HC.out.mono ?_
                rintro e w5 ⟨rfl, hb5⟩
                have hb5w : Below wr.heap.size wr w5 := ((Below.refl wr.heap.size wr).drew).trans hb5
                refine hK.out _ _ (⟨⟨(hb5.cell (p := ⟨g, p * 2 + i * 2, none⟩) HP.out.lt).trans c0.1, (hb5.cell (p := ⟨g, p * 2 + i * 2 + 1, none⟩) HP.out.lt).trans c0.2⟩, (hb5.cell (p := ⟨g, p * 2 + h * 2, none⟩) HP.out.lt).trans c1.1, (hb5.cell (p := ⟨g, p * 2 + h * 2 + 1, none⟩) HP.out.lt).trans c1.2⟩) (fun hHeld => ?_)
                clear hK K
                try simp only [Act.put, List.setIfInBounds_toArray, List.set_cons_zero, List.set_cons_succ]
                refine heldTake (i := 11) (v := ?_) rfl (by kernel_rfl) (by kernel_rfl) (by kernel_rfl) (fun _ _ _ h => h) hHeld (by rfl) ?_ ?_
                rotate_left
                · (intro w hSw; (try dsimp only at hSw); go_simp; try with_reducible rfl)
                try simp only [Act.put, List.setIfInBounds_toArray, List.set_cons_zero, List.set_cons_succ]
                refine wpAnyH_done (by kernel_rfl) ?_ _
                refine NoPanic.normal ?_
                have hP5 := HP.out.below hb5w HP.out.lt
                have cq := hP5.cell Hq.out
                have zf := hP5.frz
                have cq2 : (w5.setCell ⟨g, q * 2, none⟩ (.slice z.A1 z.n1 z.c1)).cell? ⟨g, q * 2 + 1, none⟩ = _ := (World.cell?_setCell_other _ _ _ _ (by simp)).trans cq.2
                have HP6 := Lib.hid (hP5.put Hq.out z)
                clear hP5
                go_wp2
                obtain ⟨hcp, hdr, hze, hset, hi2, hq2, hC, hfa⟩ := Hx.out
                have hP6 := HP6.out
                rw [hset, ← hq2] at hP6
                have hkw : Kb [g] w w5 := hkb.trans (Kb.of_below hb5w : Kb [] wr w5) (fun b hb => by simp at hb)
                refine ⟨⟨q2, i2, z, C ++ [z], rfl, rfl, by omega, by omega, by rw [List.length_append, hC, hq2]; rfl, by omega, by omega, by rw [hfa]; exact hze, ?_, hP6, (hkw.setCell (p := ⟨g, q * 2, none⟩) (.inl (by simp)) _).setCell (p := ⟨g, q * 2 + 1, none⟩) (.inl (by simp)) _⟩, by simp [intOf]; omega⟩
                rw [← hcp, hdr, cpF, if_neg Hke.out, hi2, List.append_assoc]
                rfl
            · have hlt2' : ¬ (i : Int) < (r : Int) := by omega
              have hlx : p + i = n := by omega
              have hCe : C = cpR L := by rw [← hcp, hlx, ← hl, List.drop_length, cpF, List.append_nil]
              have hgr := hPr.tail (o := q * 2) (List.replicate (n - q) [(.slice none 0 0 : Value), .slice none 0 0]).flatten (by omega)
              have hcl : ∀ ty, (Builtin.clear_ #[28] ty #[.slice (some ⟨g, q * 2, none⟩) (n - q) (c - q)]).run Try.prog wr = .ok (.tuple #[]) (wr.setCells g (q * 2) (List.replicate (n - q) [(.slice none 0 0 : Value), .slice none 0 0]).flatten) := fun ty =>
                run_clear_two (e := 56) wr _ ty _ _ _ (by kernel_rfl) zero_pair rfl rfl rfl g (q * 2) _ _ (by omega) (fun j hj => by
                  have hlen : (C ++ L.drop q).length = n := by rw [List.length_append, List.length_drop]; omega
                  have hc := hPr.cell (i := q + j / 2) (by omega)
                  rcases Nat.mod_two_eq_zero_or_one j with e | e
                  · rw [show q * 2 + j = (q + j / 2) * 2 from by omega, hc.1]; rfl
                  · rw [show q * 2 + j = (q + j / 2) * 2 + 1 from by omega, hc.2]; rfl) (fun j _ => hPr.frz _)
              have hkw := Kb.setCells (S := [g]) (g := g) (List.mem_singleton.2 rfl) (List.replicate (n - q) [(.slice none 0 0 : Value), .slice none 0 0]).flatten (q * 2) wr hkb
              have i5 : (0 : Int) ≤ (q : Int) := by omega
              have i6 : (q : Int) ≤ (n : Int) := by omega
              have w7 : IntKind.i64.wrap (q : Int) = (q : Int) := IntWalk.i64_in _ (by omega)
              have Hx := Lib.hid (And.intro hCe (And.intro hC hl))
              have Hg := Lib.hid (And.intro hgr hkw)
              clear hCe hC hl hr hlx hcp hx hgr hkw hPr
              go_wp2_with (simp only [hcl])
              go_ret
              obtain ⟨hCe, hC, hl⟩ := Hx.out
              obtain ⟨hgr, hkw⟩ := Hg.out
              subst hC
              subst hCe
              exact ⟨rfl, hgr, by omega, hkw⟩
        · have hkd : decide (y.key = x.key) = false := by simp [hke]
          have Hke := Lib.hid hke
          clear hke
          obtain ⟨p2, hp2⟩ : ∃ p2, p2 = p + 1 := ⟨_, rfl⟩
          have w4 : IntKind.i64.wrap ((p : Int) + 1) = (p2 : Int) := by rw [IntWalk.i64_in _ (by omega)]; omega
          have Hp2 := Lib.hid hp2
          clear hp2
          go_wp2
          have hHeld : (fun W : World => (W.cell? ⟨g, p * 2, none⟩ = some (.slice y.A1 y.n1 y.c1) ∧ W.cell? ⟨g, p * 2 + 1, none⟩ = some (.slice y.A2 y.n2 y.c2)) ∧ W.cell? ⟨g, k * 2, none⟩ = some (.slice x.A1 x.n1 x.c1) ∧ W.cell? ⟨g, k * 2 + 1, none⟩ = some (.slice x.A2 x.n2 x.c2)) wr.drew := ⟨c0, c1⟩
          refine wp_region_noPanic ?_
          refine wp_region_held (S := fun W : World => (W.cell? ⟨g, p * 2, none⟩ = some (.slice y.A1 y.n1 y.c1) ∧ W.cell? ⟨g, p * 2 + 1, none⟩ = some (.slice y.A2 y.n2 y.c2)) ∧ W.cell? ⟨g, k * 2, none⟩ = some (.slice x.A1 x.n1 x.c1) ∧ W.cell? ⟨g, k * 2 + 1, none⟩ = some (.slice x.A2 x.n2 x.c2)) (by kernel_rfl) ?_
          simp only [List.size_toArray, List.length_cons, List.length_nil, Nat.reduceAdd]
          refine heldTake (i := 0) (v := ?_) rfl (by kernel_rfl) (by kernel_rfl) (by kernel_rfl) (fun _ _ _ h => h) hHeld (by rfl) ?_ ?_
          rotate_left
          · (intro w hSw; (try dsimp only at hSw); go_simp; try with_reducible rfl)
          try simp only [Act.put, List.setIfInBounds_toArray, List.set_cons_zero, List.set_cons_succ]
          refine heldTake (i := 1) (v := ?_) rfl (by kernel_rfl) (by kernel_rfl) (by kernel_rfl) (fun _ _ _ h => h) hHeld (by rfl) ?_ ?_
          rotate_left
          · (intro w hSw; (try dsimp only at hSw); go_simp; try with_reducible rfl)
          try simp only [Act.put, List.setIfInBounds_toArray, List.set_cons_zero, List.set_cons_succ]
          refine heldTake (i := 2) (v := ?_) rfl (by kernel_rfl) (by kernel_rfl) (by kernel_rfl) (fun _ _ _ h => h) hHeld (by rfl) ?_ ?_
          rotate_left
          · (intro w hSw; (try dsimp only at hSw); go_simp; try with_reducible rfl)
          try simp only [Act.put, List.setIfInBounds_toArray, List.set_cons_zero, List.set_cons_succ]
          refine heldTake (i := 3) (v := ?_) rfl (by kernel_rfl) (by kernel_rfl) (by kernel_rfl) (fun _ _ _ h => h) hHeld (by rfl) ?_ ?_
          rotate_left
          · (intro w hSw; (try dsimp only at hSw); go_simp; try with_reducible rfl)
          try simp only [Act.put, List.setIfInBounds_toArray, List.set_cons_zero, List.set_cons_succ]
          refine heldTake (i := 4) (v := ?_) rfl (by kernel_rfl) (by kernel_rfl) (by kernel_rfl) (fun _ _ _ h => h) hHeld (by rfl) ?_ ?_
          rotate_left
          · (intro w hSw; (try dsimp only at hSw); go_simp; try with_reducible rfl)
          try simp only [Act.put, List.setIfInBounds_toArray, List.set_cons_zero, List.set_cons_succ]
          refine heldTake (i := 5) (v := ?_) rfl (by kernel_rfl) (by kernel_rfl) (by kernel_rfl) (fun _ _ _ h => h) hHeld (by rfl) ?_ ?_
          rotate_left
          · (intro w hSw; (try dsimp only at hSw); go_simp; try with_reducible rfl)
          try simp only [Act.put, List.setIfInBounds_toArray, List.set_cons_zero, List.set_cons_succ]
          refine heldTake (i := 6) (v := ?_) rfl (by kernel_rfl) (by kernel_rfl) (by kernel_rfl) (fun _ _ _ h => h) hHeld (by rfl) ?_ ?_
          rotate_left
          · (intro w hSw; (try dsimp only at hSw); go_simp; try with_reducible rfl)
          try simp only [Act.put, List.setIfInBounds_toArray, List.set_cons_zero, List.set_cons_succ]
          refine heldTake (i := 7) (v := ?_) rfl (by kernel_rfl) (by kernel_rfl) (by kernel_rfl) (fun _ _ _ h => h) hHeld (by rfl) ?_ ?_
          rotate_left
          · (intro w hSw; (try dsimp only at hSw); go_simp; try with_reducible rfl)
          try simp only [Act.put, List.setIfInBounds_toArray, List.set_cons_zero, List.set_cons_succ]
          refine heldTake (i := 8) (v := ?_) rfl (by kernel_rfl) (by kernel_rfl) (by kernel_rfl) (fun _ _ _ h => h) hHeld (by rfl) ?_ ?_
          rotate_left
          · (intro w hSw; (try dsimp only at hSw); go_simp; try with_reducible rfl)
          try simp only [Act.put, List.setIfInBounds_toArray, List.set_cons_zero, List.set_cons_succ]
          refine heldTake (i := 9) (v := ?_) rfl (by kernel_rfl) (by kernel_rfl) (by kernel_rfl) (fun _ _ _ h => h) hHeld (by rfl) ?_ ?_
          rotate_left
          · (intro w hSw; (try dsimp only at hSw); go_simp; try with_reducible rfl)
          try simp only [Act.put, List.setIfInBounds_toArray, List.set_cons_zero, List.set_cons_succ]
          refine heldStep (i := 10) rfl (by kernel_rfl) (fun K hK => ?_)
          go_simp
          go_at_call 40
          refine HC.out.mono ?_
          rintro e w5 ⟨rfl, hb5⟩
          have hb5w : Below wr.heap.size wr w5 := ((Below.refl wr.heap.size wr).drew).trans hb5
          refine hK.out _ _ (⟨⟨(hb5.cell (p := ⟨g, p * 2, none⟩) HP.out.lt).trans c0.1, (hb5.cell (p := ⟨g, p * 2 + 1, none⟩) HP.out.lt).trans c0.2⟩, (hb5.cell (p := ⟨g, k * 2, none⟩) HP.out.lt).trans c1.1, (hb5.cell (p := ⟨g, k * 2 + 1, none⟩) HP.out.lt).trans c1.2⟩) (fun hHeld => ?_)
          clear hK K
          try simp only [Act.put, List.setIfInBounds_toArray, List.set_cons_zero, List.set_cons_succ]
          refine wpAnyH_done (by kernel_rfl) ?_ _
          refine NoPanic.normal ?_
          go_wp2
          obtain ⟨hk, hcp, hdr, htk, hye⟩ := Hx.out
          have hp2 := Hp2.out
          refine ⟨⟨p2, y, rfl, by omega, by omega, by rw [hp2]; exact hye, ?_, HP.out.below hb5w HP.out.lt, hkb.trans (Kb.of_below hb5w : Kb [] wr w5) (fun b hb => by simp at hb)⟩, by simp [intOf]; omega⟩
          rw [← hcp, hp2, htk, hdr, cpF, if_neg Hke.out, List.append_assoc]
          rfl
      · have hlt' : ¬ (p : Int) < (n : Int) := by omega
        have hl := Hn.out
        have hpe : p = n := by omega
        subst hpe
        have hfin : cpR L = L := by
          rw [← hcp, ← hl, List.take_length, List.drop_length, cpF, List.append_nil]
        have hl := Lib.hid hl
        go_wp2
        go_ret
        refine ⟨?_, by rw [hfin]; exact hPr, by rw [hfin]; exact Nat.le_refl _, hkb⟩
        rw [hfin, hl.out]
        rfl
end Go.Proofs.Ytedelkifadonjaa
/- Layer 23: a pair in memory of its own (merge.twin). Printed by gen_mstwin.py. -/
namespace Go.Proofs.Ytedelkifadonjaa
open Go.RowKit Go.Lec
set_option maxRecDepth 40000 in
set_option maxHeartbeats 400000 in
theorem c_sClone (w : World) {B : Nat} {A : Option Addr} {n c : Nat} {l : List UInt8} (hr : Rd w B A n (bcs l)) (hB : B ≤ w.heap.size) (hn : n ≤ 140737488355328) :
    Calls Try.prog 55 #[.slice A n c] w (RetB 5 w l) := by
  have hk := Lib.run_eql_slice_nil (P := Try.prog) w 23 5 A n c 0 0 Try.underlying23
  have hln := hr.1
  rw [bcs_length] at hln
  have Hln := Lib.hid hln; clear hln
  go_enter Try.func55, Try.ntmps55
  cases A with
  | none =>
    have h0 : n = 0 := by
      rcases Nat.eq_zero_or_pos n with h | h
      · exact h
      · obtain ⟨b, o, e, _⟩ := hr.2 h; cases e
    subst h0
    obtain rfl : l = [] := List.eq_nil_of_length_eq_zero Hln.out
    go_wp2
    go_ret
    exact ⟨_, rfl, Own.nil_ _ _ _, Below.refl _ _⟩
  | some a =>
    go_wp2_with (first
      | (at_builtin; (refine wpList_app_slB rfl (.tmp 5) (.tmp 6) rfl slb rfl (Own.lit w [] (Nat.le_refl _) (by simp)) ((Below.refl _ _).alloc (Nat.le_refl _) _) (by simp) rfl (hr.alloc hB _) bcs_one (by simp; omega) (by unfold maxLen; simp; omega) ?_); intro v2 w2 ho2 hb2 hs2))
    go_ret
    exact ⟨_, rfl, by simpa using ho2, hb2⟩

/-- A pair in memory of its own. -/
def MTwinP (w : World) (k v : List UInt8) (e : Ending) (w' : World) : Prop := ∃ m : Pr, e = .returned (.agg #[.slice m.A1 m.n1 m.c1, .slice m.A2 m.n2 m.c2]) ∧ m.ok w' w'.heap.size ∧ m.hi w.heap.size ∧ m.pl = (k, v) ∧ Below w.heap.size w w'

set_option maxRecDepth 20000 in
set_option maxHeartbeats 1600000 in
theorem c_mTwin (w : World) {B : Nat} (m : Pr) (hm : m.ok w B) (hB : B ≤ w.heap.size) :
    Calls Try.prog 35 #[.agg #[.slice m.A1 m.n1 m.c1, .slice m.A2 m.n2 m.c2]] w (MTwinP w m.key m.vl) := by
  obtain ⟨h1, h2, hc1, hc2, hn1, hn2⟩ := hm
  go_enter Try.func35, Try.ntmps35
  go_wp2_with fail
  have bS := (Bk.new_ w 56 #[.slice m.A1 m.n1 m.c1, .slice m.A2 m.n2 m.c2]).alloc (.cells #[.slice none 0 0, .slice none 0 0] 56)
  have bT := Bk.new_ (w.alloc (.cells #[.slice m.A1 m.n1 m.c1, .slice m.A2 m.n2 m.c2] 56)) 56 #[.slice none 0 0, .slice none 0 0]
  have hb0 : Below w.heap.size w ((w.alloc (.cells #[.slice m.A1 m.n1 m.c1, .slice m.A2 m.n2 m.c2] 56)).alloc (.cells #[.slice none 0 0, .slice none 0 0] 56)) := ((Below.refl _ _).alloc (Nat.le_refl _) _).alloc (by simp) _
  have hz0 : ((w.alloc (.cells #[.slice m.A1 m.n1 m.c1, .slice m.A2 m.n2 m.c2] 56)).alloc (.cells #[.slice none 0 0, .slice none 0 0] 56)).heap.size = w.heap.size + 2 := by simp
  simp only [World.size_alloc] at bT
  obtain ⟨W0, hW0⟩ : ∃ W, W = (w.alloc (.cells #[.slice m.A1 m.n1 m.c1, .slice m.A2 m.n2 m.c2] 56)).alloc (.cells #[.slice none 0 0, .slice none 0 0] 56) := ⟨_, rfl⟩
  rw [← hW0] at bS bT hb0 hz0 ⊢
  clear hW0
  have hBW : B ≤ W0.drew.heap.size := by show B ≤ W0.heap.size; omega
  have HC1 := Lib.hid (c_sClone W0.drew (c := m.c1) (h1.below hb0 hB).drew hBW hn1)
  have HC2 : ∀ W, Below W0.drew.heap.size W0.drew W → Calls Try.prog 55 #[.slice m.A2 m.n2 m.c2] W (RetB 5 W m.vl) := fun W h => c_sClone W (c := m.c2) ((h2.below hb0 hB).drew.below h hBW) (Nat.le_trans hBW h.size) hn2
  have HC2 := Lib.hid HC2
  have HC := Lib.hid (fun (wc : World) (hk : Below (w.heap.size + 1) W0 wc) => (⟨(hk.cell (p := ⟨w.heap.size, 0, none⟩) (by dsimp only; omega)).trans (bS.cell 0), (hk.cell (p := ⟨w.heap.size, 1, none⟩) (by dsimp only; omega)).trans (bS.cell 1)⟩ :
    wc.cell? ⟨w.heap.size, 0, none⟩ = some (.slice m.A1 m.n1 m.c1) ∧ wc.cell? ⟨w.heap.size, 1, none⟩ = some (.slice m.A2 m.n2 m.c2)))
  go_region_held3 (fun W => W.cell? ⟨w.heap.size, 0, none⟩ = some (.slice m.A1 m.n1 m.c1) ∧ W.cell? ⟨w.heap.size, 1, none⟩ = some (.slice m.A2 m.n2 m.c2))
    ((refine HC.out _ ?_; first | exact (Below.refl _ _).drew | exact hq1 | exact hq2 | exact (hq2.setCell (Nat.le_refl _) _).setCell (Nat.le_refl _) _ | exact hq2.setCell (Nat.le_refl _) _))
    (first
      | (go_at_call 55; (with_reducible refine HC1.out.mono ?_); rintro e w1 ⟨v1, rfl, ho1, hb1⟩; obtain ⟨A1, c1, rfl, hc1'⟩ := ho1.shapeN (n := m.key.length) (bcs_length _); have hq1 : Below (w.heap.size + 1) W0 w1 := (Below.refl _ _).drew.trans (hb1.mono (by show _ ≤ W0.heap.size; omega)))
      | (go_at_call 55; (with_reducible refine (HC2.out _ hb1).mono ?_); rintro e w2 ⟨v2, rfl, ho2, hb2⟩; obtain ⟨A2, c2, rfl, hc2'⟩ := ho2.shapeN (n := m.vl.length) (bcs_length _); have hq2 : Below (w.heap.size + 1) W0 w2 := hq1.trans (hb2.mono (by have := hq1.size; omega)); have hz2 := hb2.size; have bT2 := (bT.drew.below hb1 (by show _ < W0.heap.size; omega)).below hb2 (by have := hb1.size; have h : W0.heap.size ≤ w1.heap.size := this; omega); have t0 := bT2.cell 0; have t1 := bT2.cell 1; have y0 := bT2.frz 0; have y1 := bT2.frz 1))
  have bT5 := (bT2.set_ 0 (.slice A1 m.key.length c1)).set_ 1 (.slice A2 m.vl.length c2)
  have g0 := bT5.cell 0
  have g1 := bT5.cell 1
  have hs1 : W0.drew.heap.size = w.heap.size + 2 := hz0
  have hs2 := hb1.size
  have o1 := ownsRow_setCell_below (ownsRow_setCell_below (ho1.below hb2 (Nat.le_refl _)) (a := ⟨w.heap.size + 1, 0, none⟩) (by dsimp only; omega) (.slice A1 m.key.length c1)) (a := ⟨w.heap.size + 1, 1, none⟩) (by dsimp only; omega) (.slice A2 m.vl.length c2)
  have o2 := ownsRow_setCell_below (ownsRow_setCell_below ho2 (a := ⟨w.heap.size + 1, 0, none⟩) (by dsimp only; omega) (.slice A1 m.key.length c1)) (a := ⟨w.heap.size + 1, 1, none⟩) (by dsimp only; omega) (.slice A2 m.vl.length c2)
  have hbf : Below w.heap.size w ((w2.setCell ⟨w.heap.size + 1, 0, none⟩ (.slice A1 m.key.length c1)).setCell ⟨w.heap.size + 1, 1, none⟩ (.slice A2 m.vl.length c2)) := ((hb0.trans (hq2.mono (Nat.le_succ _))).setCell (Nat.le_succ _) _).setCell (Nat.le_succ _) _
  have hge1 := fun a ha => (Lec.Own.ge ho1 a ha)
  have hge2 := fun a ha => (Lec.Own.ge ho2 a ha)
  have hl1 := h1.1
  have hl2 := h2.1
  rw [bcs_length] at hl1 hl2
  clear t0 t1 y0 y1
  go_wp2
  refine bodyPost_ret (v := .agg #[.slice A1 m.key.length c1, .slice A2 m.vl.length c2]) ?_ rfl ?_
  · simp [results, Try.results35, go_sem, g0, g1]
  · exact ⟨⟨A1, m.key.length, c1, m.key, A2, m.vl.length, c2, m.vl⟩, rfl, ⟨Lec.Own.rd o1, Lec.Own.rd o2, hc1', hc2', by dsimp only; omega, by dsimp only; omega⟩, ⟨fun a ha => by have := hge1 a ha; omega, fun a ha => by have := hge2 a ha; omega⟩, rfl, hbf⟩
end Go.Proofs.Ytedelkifadonjaa
