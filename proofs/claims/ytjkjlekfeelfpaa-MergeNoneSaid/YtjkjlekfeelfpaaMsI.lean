/- Layer 23: neighbours of one key are struck (CompactFunc). -/
import Derived.Test.YtjkjlekfeelfpaaMsH
import Derived.Lib.SliceRun
namespace Go.Lec
open Go.RowKit Go.Op
theorem zeroCells_two {P : Program} (z : Array Value) (a b : Value) (hz : z = #[a, b]) (n : Nat) : (Builtin.zeroCells z n).toList = (List.replicate n [a, b]).flatten := by
  subst hz
  induction n with
  | zero => simp [Builtin.zeroCells]
  | succ n ih =>
    rw [List.replicate_succ', List.flatten_append, ← ih]
    simp only [Builtin.zeroCells, List.size_toArray, List.length_cons, List.length_nil]
    rw [show (n + 1) * (0 + 1 + 1) = n * (0 + 1 + 1) + 1 + 1 from by omega, Array.range_succ, Array.range_succ]
    simp
theorem run_clear_two {P : Program} (w : World) (t e ty : TypeId) (z : Value) (a1 a2 : Value) (ht : P.underlying t = some (.slice e)) (hv : ∀ w, (zeroValue e).run P w = .ok z w) (hz : z.cells = #[a1, a2]) (h1 : a1.oneCell' = true) (h2 : a2.oneCell' = true) (b o n c : Nat) (hn : 0 < n)
    (hc : ∀ j, j < n * 2 → (w.cell? ⟨b, o + j, none⟩).isSome = true) (hf : ∀ j, j < n * 2 → w.frozen? ⟨b, o + j, none⟩ = false) :
    (Builtin.clear_ #[t] ty #[.slice (some ⟨b, o, none⟩) n c]).run P w = .ok (.tuple #[]) (w.setCells b o (List.replicate n [a1, a2]).flatten) := by
  have hzc : (Builtin.zeroCells z.cells n).toList = (List.replicate n [a1, a2]).flatten := zeroCells_two (P := P) _ _ _ hz n
  have hl : (List.replicate n [a1, a2]).flatten.length = n * 2 := by simp
  have hst := run_storeCells_cells (P := P) b o (List.replicate n [a1, a2]).flatten 0 w (by rw [hl]; simpa using hc) (by rw [hl]; simpa using hf) (by
    intro v hv'
    simp only [List.mem_flatten, List.mem_replicate] at hv'
    obtain ⟨l, ⟨_, rfl⟩, hv'⟩ := hv'
    simp only [List.mem_cons, List.not_mem_nil, or_false] at hv'
    rcases hv' with rfl | rfl
    · exact h1
    · exact h2)
  simp only [Nat.add_zero] at hst
  obtain ⟨m, rfl⟩ : ∃ m, n = m + 1 := ⟨n - 1, by omega⟩
  simp [Builtin.clear_, run_underlying ht, hv, hzc, hst]
theorem Kb.setCells {S : List Nat} {w : World} {g : Nat} (hg : g ∈ S) : ∀ (vs : List Value) (o : Nat) (w' : World), Kb S w w' → Kb S w (w'.setCells g o vs)
  | [], _, _, h => h
  | v :: r, o, w', h => Kb.setCells hg r (o + 1) _ (h.setCell (p := ⟨g, o, none⟩) (.inl hg) v)
theorem Bk.setCells {t : TypeId} {g : Nat} {pre : List Value} : ∀ (vs : List Value) (o : Nat) (w : World) (r : List Value), pre.length ≤ o → Bk w g t (pre ++ r).toArray → ∃ r', Bk (w.setCells g o vs) g t (pre ++ r').toArray
  | [], _, _, r, _, h => ⟨r, h⟩
  | v :: vs, o, w, r, ho, h => by
    have h2 := h.set_ o v
    rw [List.setIfInBounds_toArray, List.set_append_right _ _ ho] at h2
    exact Bk.setCells vs (o + 1) _ _ (by omega) h2
/-- What has come before the end of a row of pairs stays when what is behind it is set anew. -/
theorem PrB.tail {t : TypeId} {w : World} {g : Nat} {C X : List Pr} (h : PrB t w g (C ++ X)) (vs : List Value) {o : Nat} (ho : C.length * 2 ≤ o) : PrB t (w.setCells g o vs) g C := by
  obtain ⟨r, h⟩ := h
  rw [List.flatMap_append, List.append_assoc] at h
  exact Bk.setCells vs o w _ (by rw [flat_len Pr.cs_len]; omega) h
theorem PrB.left {t : TypeId} {w : World} {g : Nat} {C X : List Pr} (h : PrB t w g (C ++ X)) : PrB t w g C := h.tail (o := C.length * 2) [] (Nat.le_refl _)
/-- Pairs whose neighbours of one key are struck. -/
def cpF : Pr → List Pr → List Pr
  | _, [] => []
  | x, y :: l => if y.key = x.key then cpF y l else y :: cpF y l
def cpR : List Pr → List Pr
  | [] => []
  | x :: l => x :: cpF x l
theorem cpF_mem : ∀ (l : List Pr) (x : Pr), ∀ m ∈ cpF x l, m ∈ l
  | [], _, _, h => h
  | y :: l, x, m, h => by
    rw [cpF] at h
    split at h
    · exact List.mem_cons_of_mem _ (cpF_mem l y m h)
    · rcases List.mem_cons.1 h with rfl | h
      · exact List.mem_cons_self
      · exact List.mem_cons_of_mem _ (cpF_mem l y m h)
theorem cpR_mem (l : List Pr) : ∀ m ∈ cpR l, m ∈ l := fun m h => by
  cases l with
  | nil => exact h
  | cons x l =>
    rcases List.mem_cons.1 h with rfl | h
    · exact List.mem_cons_self
    · exact List.mem_cons_of_mem _ (cpF_mem l x m h)
end Go.Lec
namespace Go.Proofs.Ytjkjlekfeelfpaa
open Go.RowKit Go.Lec Go.Op
theorem zero_pair (w : World) : (zeroValue 42).run Try.prog w = .ok (.agg #[.slice none 0 0, .slice none 0 0]) w := by kernel_rfl
/-- bytes.Equal. -/
theorem c_bEqual (w : World) {B B2 : Nat} {A A2 : Option Addr} {n c n2 c2 : Nat} {l m : List UInt8} (hr : Rd w B A n (bcs l)) (hr2 : Rd w B2 A2 n2 (bcs m)) :
    Calls Try.prog 35 #[.slice A n c, .slice A2 n2 c2] w fun e w' => e = .returned (.bool (decide (l = m))) ∧ w' = w := by
  have s1 : ∀ (W : World), W = w → (convert 34 9 (.slice A n c)).run Try.prog W = .ok (.string ⟨l.toArray⟩) W := fun W h => by rw [h]; exact run_str (P := Try.prog) Try.underlying34 Try.underlying5 Try.underlying9 (c := c) hr
  have s2 : ∀ (W : World), W = w → (convert 34 9 (.slice A2 n2 c2)).run Try.prog W = .ok (.string ⟨m.toArray⟩) W := fun W h => by rw [h]; exact run_str (P := Try.prog) Try.underlying34 Try.underlying5 Try.underlying9 (c := c2) hr2
  have s1 := s1 w rfl
  have s2 := s2 w rfl
  go_enter Try.func35, Try.ntmps35
  go_wp2
  go_ret
  by_cases h : l = m <;> simp [h]
/-- Whether pairs have one key. -/
theorem c_eq (w : World) {B B2 : Nat} {x y : Pr} (hx : x.ok w B) (hy : y.ok w B2) (hB : B ≤ w.heap.size) (hB2 : B2 ≤ w.heap.size) :
    Calls Try.prog 34 #[x.val, y.val] w fun e w' => e = .returned (.bool (decide (x.key = y.key))) ∧ Below w.heap.size w w' := by
  have hb1 := (Below.refl w.heap.size w).alloc (Nat.le_refl _) (.cells #[.slice x.A1 x.n1 x.c1, .slice x.A2 x.n2 x.c2] 42)
  have N1 := (Bk.new_ w 42 #[.slice x.A1 x.n1 x.c1, .slice x.A2 x.n2 x.c2]).alloc (.cells #[.slice y.A1 y.n1 y.c1, .slice y.A2 y.n2 y.c2] 42)
  have N2 := Bk.new_ (w.alloc (.cells #[.slice x.A1 x.n1 x.c1, .slice x.A2 x.n2 x.c2] 42)) 42 #[.slice y.A1 y.n1 y.c1, .slice y.A2 y.n2 y.c2]
  have hb2 := hb1.alloc hb1.size (.cells #[.slice y.A1 y.n1 y.c1, .slice y.A2 y.n2 y.c2] 42)
  rw [World.size_alloc] at N2
  have q1 := N1.cell
  have q2 := N2.cell
  have HC := Lib.hid (c_bEqual _ (c := x.c1) (c2 := y.c1) (hx.1.below hb2 hB) (hy.1.below hb2 hB2))
  have Hb := Lib.hid hb2
  clear N1 N2 hb1 hb2
  unfold Pr.val
  go_enter Try.func34, Try.ntmps34
  go_wp2_with (first | (go_at_call 35; refine HC.out.mono ?_; rintro e w1 ⟨rfl, rfl⟩))
  go_ret
  exact ⟨rfl, Hb.out⟩
/-- What striking answers. -/
def CpP (w : World) (g c : Nat) (L : List Pr) (e : Ending) (w' : World) : Prop :=
  e = .returned (.slice (some ⟨g, 0, none⟩) (cpR L).length c) ∧ PrB 42 w' g (cpR L) ∧ (cpR L).length ≤ L.length ∧ Kb [g] w w'
set_option maxRecDepth 100000 in
set_option maxHeartbeats 4000000 in
theorem c_compact (w : World) {g n c : Nat} {L : List Pr} (hP : PrB 42 w g L) (hok : PrOk w g L) (hn : L.length = n) (hnc : n ≤ c) (hn2 : n ≤ 100000) (hn1 : 0 < n) :
    Calls Try.prog 33 #[.slice (some ⟨g, 0, none⟩) n c, .func (.func 34) #[] #[]] w (CpP w g c L) := by
  have HOk := Lib.hid (fun (W : World) (hk : Kb [g] w W) => hok.kb hk)
  have Hn := Lib.hid hn
  clear hok
  by_cases h2 : n < 2
  · have h2' : (n : Int) < 2 := by omega
    obtain ⟨x, rfl⟩ := List.length_eq_one_iff.mp (show L.length = 1 by omega)
    have hn' : n = 1 := by rw [← hn]; rfl
    subst hn'
    clear hn
    go_enter Try.func33, Try.ntmps33
    go_wp2
    go_ret
    exact ⟨rfl, hP, Nat.le_refl _, Kb.refl _ _⟩
  · have h2' : ¬ (n : Int) < 2 := by omega
    clear hn
    go_enter Try.func33, Try.ntmps33
    go_wp2
    go_loopw [5] (fun v wr => ∃ (p : Nat) (x : Pr), v = .int .i64 (p : Int) ∧ 1 ≤ p ∧ p ≤ n ∧ L[p - 1]? = some x ∧ L.take p ++ cpF x (L.drop p) = cpR L ∧ PrB 42 wr g L ∧ Kb [g] w wr) (fun v _ => n - (intOf v).toNat)
    case atStart =>
      have hl := Hn.out
      obtain ⟨x, L', rfl⟩ : ∃ x L', L = x :: L' := by
        cases L with
        | nil => simp at hl; omega
        | cons x L' => exact ⟨x, L', rfl⟩
      exact ⟨1, x, by go_num, Nat.le_refl _, by omega, rfl, rfl, hP, Kb.refl _ _⟩
    case round =>
      obtain ⟨p, x, rfl, hp1, hpn, hx, hcp, hPr, hkb⟩ := hrel
      clear hP
      by_cases hlt : p < n
      · have hlt' : (p : Int) < (n : Int) := by omega
        have hl := Hn.out
        have lp : p < L.length := by omega
        have lk : p - 1 < L.length := by omega
        obtain ⟨k, hk⟩ : ∃ k, k = p - 1 := ⟨_, rfl⟩
        rw [← hk] at hx lk
        obtain ⟨y, hy⟩ : ∃ y, y = L[p] := ⟨_, rfl⟩
        have hdr : L.drop p = y :: L.drop (p + 1) := by rw [hy]; exact List.drop_eq_getElem_cons lp
        have htk : L.take (p + 1) = L.take p ++ [y] := by rw [hy]; exact List.take_succ_eq_append_getElem lp
        have hxe : L[k] = x := by rw [List.getElem?_eq_getElem lk] at hx; exact Option.some.inj hx
        have hye : L[p]? = some y := by rw [List.getElem?_eq_getElem lp, hy]
        have c0 := hPr.cell lp
        have c1 := hPr.cell lk
        rw [← hy] at c0
        rw [hxe] at c1
        have hmx := HOk.out wr hkb
        have hyo := hmx y (by rw [hy]; exact List.getElem_mem lp)
        have hxo := hmx x (by rw [← hxe]; exact List.getElem_mem lk)
        have HC := c_eq wr.drew hyo.1 hxo.1 (Nat.le_refl _) (Nat.le_refl _)
        unfold Pr.val at HC
        have HC := Lib.hid HC
        have HP := Lib.hid hPr
        have w1 : IntKind.i64.wrap ((p : Int) - 1) = (k : Int) := by rw [IntWalk.i64_in _ (by omega)]; omega
        have w2 : IntKind.i64.wrap (p : Int) = (p : Int) := IntWalk.i64_in _ (by omega)
        have w3 : IntKind.i64.wrap (k : Int) = (k : Int) := IntWalk.i64_in _ (by omega)
        have i1 : (0 : Int) ≤ (p : Int) := by omega
        have i3 : (0 : Int) ≤ (k : Int) := by omega
        have i4 : (k : Int) < (n : Int) := by omega
        have Hx := Lib.hid (And.intro hk (And.intro hcp (And.intro hdr (And.intro htk hye))))
        clear hk hcp hdr htk hye hxe hy hx lp lk hmx hyo hxo hl
        by_cases hke : y.key = x.key
        · have hkd : decide (y.key = x.key) = true := by simp [hke]
          have Hke := Lib.hid hke
          clear hke
          go_wp2
          have hHeld : (fun W : World => (W.cell? ⟨g, p * 2, none⟩ = some (.slice y.A1 y.n1 y.c1) ∧ W.cell? ⟨g, p * 2 + 1, none⟩ = some (.slice y.A2 y.n2 y.c2)) ∧ W.cell? ⟨g, k * 2, none⟩ = some (.slice x.A1 x.n1 x.c1) ∧ W.cell? ⟨g, k * 2 + 1, none⟩ = some (.slice x.A2 x.n2 x.c2)) wr.drew := ⟨c0, c1⟩
          refine wp_region_noPanic ?_
          refine wp_region_held (S := fun W : World => (W.cell? ⟨g, p * 2, none⟩ = some (.slice y.A1 y.n1 y.c1) ∧ W.cell? ⟨g, p * 2 + 1, none⟩ = some (.slice y.A2 y.n2 y.c2)) ∧ W.cell? ⟨g, k * 2, none⟩ = some (.slice x.A1 x.n1 x.c1) ∧ W.cell? ⟨g, k * 2 + 1, none⟩ = some (.slice x.A2 x.n2 x.c2)) (by kernel_rfl) ?_
          simp only [List.size_toArray, List.length_cons, List.length_nil, Nat.reduceAdd]
          refine heldTake (i := 0) (v := ?_) rfl (by kernel_rfl) (by kernel_rfl) (by kernel_rfl) (fun _ _ _ h => h) hHeld (by rfl) ?_ ?_
          rotate_left
          · (intro w hSw; (try dsimp only at hSw); go_simp; try with_reducible rfl)
          try simp only [Act.put, List.setIfInBounds_toArray, List.set_cons_zero, List.set_cons_succ]
          refine heldTake (i := 1) (v := ?_) rfl (by kernel_rfl) (by kernel_rfl) (by kernel_rfl) (fun _ _ _ h => h) hHeld (by rfl) ?_ ?_
          rotate_left
          · (intro w hSw; (try dsimp only at hSw); go_simp; try with_reducible rfl)
          try simp only [Act.put, List.setIfInBounds_toArray, List.set_cons_zero, List.set_cons_succ]
          refine heldTake (i := 2) (v := ?_) rfl (by kernel_rfl) (by kernel_rfl) (by kernel_rfl) (fun _ _ _ h => h) hHeld (by rfl) ?_ ?_
          rotate_left
          · (intro w hSw; (try dsimp only at hSw); go_simp; try with_reducible rfl)
          try simp only [Act.put, List.setIfInBounds_toArray, List.set_cons_zero, List.set_cons_succ]
          refine heldTake (i := 3) (v := ?_) rfl (by kernel_rfl) (by kernel_rfl) (by kernel_rfl) (fun _ _ _ h => h) hHeld (by rfl) ?_ ?_
          rotate_left
          · (intro w hSw; (try dsimp only at hSw); go_simp; try with_reducible rfl)
          try simp only [Act.put, List.setIfInBounds_toArray, List.set_cons_zero, List.set_cons_succ]
          refine heldTake (i := 4) (v := ?_) rfl (by kernel_rfl) (by kernel_rfl) (by kernel_rfl) (fun _ _ _ h => h) hHeld (by rfl) ?_ ?_
          rotate_left
          · (intro w hSw; (try dsimp only at hSw); go_simp; try with_reducible rfl)
          try simp only [Act.put, List.setIfInBounds_toArray, List.set_cons_zero, List.set_cons_succ]
          refine heldTake (i := 5) (v := ?_) rfl (by kernel_rfl) (by kernel_rfl) (by kernel_rfl) (fun _ _ _ h => h) hHeld (by rfl) ?_ ?_
          rotate_left
          · (intro w hSw; (try dsimp only at hSw); go_simp; try with_reducible rfl)
          try simp only [Act.put, List.setIfInBounds_toArray, List.set_cons_zero, List.set_cons_succ]
          refine heldTake (i := 6) (v := ?_) rfl (by kernel_rfl) (by kernel_rfl) (by kernel_rfl) (fun _ _ _ h => h) hHeld (by rfl) ?_ ?_
          rotate_left
          · (intro w hSw; (try dsimp only at hSw); go_simp; try with_reducible rfl)
          try simp only [Act.put, List.setIfInBounds_toArray, List.set_cons_zero, List.set_cons_succ]
          refine heldTake (i := 7) (v := ?_) rfl (by kernel_rfl) (by kernel_rfl) (by kernel_rfl) (fun _ _ _ h => h) hHeld (by rfl) ?_ ?_
          rotate_left
          · (intro w hSw; (try dsimp only at hSw); go_simp; try with_reducible rfl)
          try simp only [Act.put, List.setIfInBounds_toArray, List.set_cons_zero, List.set_cons_succ]
          refine heldTake (i := 8) (v := ?_) rfl (by kernel_rfl) (by kernel_rfl) (by kernel_rfl) (fun _ _ _ h => h) hHeld (by rfl) ?_ ?_
          rotate_left
          · (intro w hSw; (try dsimp only at hSw); go_simp; try with_reducible rfl)
          try simp only [Act.put, List.setIfInBounds_toArray, List.set_cons_zero, List.set_cons_succ]
          refine heldTake (i := 9) (v := ?_) rfl (by kernel_rfl) (by kernel_rfl) (by kernel_rfl) (fun _ _ _ h => h) hHeld (by rfl) ?_ ?_
          rotate_left
          · (intro w hSw; (try dsimp only at hSw); go_simp; try with_reducible rfl)
          try simp only [Act.put, List.setIfInBounds_toArray, List.set_cons_zero, List.set_cons_succ]
          refine heldStep (i := 10) rfl (by kernel_rfl) (fun K hK => ?_)
          go_simp
          go_at_call 34
          refine HC.out.mono ?_
          rintro e w5 ⟨rfl, hb5⟩
          have hb5w : Below wr.heap.size wr w5 := ((Below.refl wr.heap.size wr).drew).trans hb5
          refine hK.out _ _ (⟨⟨(hb5.cell (p := ⟨g, p * 2, none⟩) HP.out.lt).trans c0.1, (hb5.cell (p := ⟨g, p * 2 + 1, none⟩) HP.out.lt).trans c0.2⟩, (hb5.cell (p := ⟨g, k * 2, none⟩) HP.out.lt).trans c1.1, (hb5.cell (p := ⟨g, k * 2 + 1, none⟩) HP.out.lt).trans c1.2⟩) (fun hHeld => ?_)
          clear hK K
          try simp only [Act.put, List.setIfInBounds_toArray, List.set_cons_zero, List.set_cons_succ]
          refine wpAnyH_done (by kernel_rfl) ?_ _
          refine NoPanic.normal ?_
          go_wp2
          generalize hr : n - p = r
          have hP5 := HP.out.below hb5w HP.out.lt
          have hk5 : Kb [g] w w5 := hkb.trans (Kb.of_below hb5w : Kb [] wr w5) (fun b hb => by simp at hb)
          have hst0 : L.take p ++ cpF y (L.drop (p + 1)) = cpR L := by
            obtain ⟨hk, hcp, hdr, htk, hye⟩ := Hx.out
            rw [← hcp, hdr, cpF, if_pos Hke.out]
          have hye := Hx.out.2.2.2.2
          have Hr := Lib.hid hr
          clear hr Hx HP HC hHeld c0 c1 w1 w3 i3 i4 hkd Hke hPr hkb hb5 hb5w
          go_loopw [5, 7] (fun v5 v7 wr => ∃ (q i : Nat) (x : Pr) (C : List Pr), v5 = .int .i64 (q : Int) ∧ v7 = .int .i64 (i : Int) ∧ 1 ≤ i ∧ i ≤ r ∧ C.length = q ∧ p ≤ q ∧ q + 1 ≤ p + i ∧ L[p + i - 1]? = some x ∧ C ++ cpF x (L.drop (p + i)) = cpR L ∧ PrB 42 wr g (C ++ L.drop q) ∧ Kb [g] w wr) (fun _ v7 _ => r - (intOf v7).toNat)
          case atStart =>
            have hr := Hr.out
            have hl := Hn.out
            exact ⟨p, 1, y, L.take p, rfl, by go_num, Nat.le_refl _, by omega, by rw [List.length_take]; omega, Nat.le_refl _, Nat.le_refl _, hye, hst0, by rw [List.take_append_drop]; exact hP5, hk5⟩
          case round =>
            obtain ⟨q, i, x, C, rfl, rfl, hi1, hir, hC, hpq, hqi, hx, hcp, hPr, hkb⟩ := hrel
            clear hP5 hk5 hst0 hye
            have hr := Hr.out
            have hl := Hn.out
            have hqn : q < n := by omega
            by_cases hlt2 : i < r
            · have hlt2' : (i : Int) < (r : Int) := by omega
              obtain ⟨h, hh⟩ : ∃ h, h = i - 1 := ⟨_, rfl⟩
              obtain ⟨i2, hi2⟩ : ∃ i2, i2 = i + 1 := ⟨_, rfl⟩
              obtain ⟨q2, hq2⟩ : ∃ q2, q2 = q + 1 := ⟨_, rfl⟩
              have lp : p + i < L.length := by omega
              have lk : p + h < L.length := by omega
              obtain ⟨z, hz⟩ : ∃ z, z = L[p + i] := ⟨_, rfl⟩
              have hdr : L.drop (p + i) = z :: L.drop (p + i + 1) := by rw [hz]; exact List.drop_eq_getElem_cons lp
              have hxe : L[p + h] = x := by
                have e : p + i - 1 = p + h := by omega
                rw [e, List.getElem?_eq_getElem lk] at hx
                exact Option.some.inj hx
              have hze : L[p + i]? = some z := by rw [List.getElem?_eq_getElem lp, hz]
              have hlen : (C ++ L.drop q).length = n := by rw [List.length_append, List.length_drop]; omega
              have ge : ∀ t, q ≤ t → (ht : t < L.length) → ∃ ht2 : t < (C ++ L.drop q).length, (C ++ L.drop q)[t] = L[t] := fun t h1 h2 => by
                refine ⟨by omega, ?_⟩
                rw [List.getElem_append_right (by omega), List.getElem_drop]
                congr 1; omega
              obtain ⟨l0, e0⟩ := ge (p + i) (by omega) lp
              obtain ⟨l1, e1⟩ := ge (p + h) (by omega) lk
              have lq : q < (C ++ L.drop q).length := by omega
              have c0 := hPr.cell l0
              have c1 := hPr.cell l1
              rw [e0, ← hz] at c0
              rw [e1, hxe] at c1
              rw [show (p + i) * 2 = p * 2 + i * 2 from by omega] at c0
              rw [show (p + h) * 2 = p * 2 + h * 2 from by omega] at c1
              have hmx := HOk.out wr hkb
              have hzo := hmx z (by rw [hz]; exact List.getElem_mem lp)
              have hxo := hmx x (by rw [← hxe]; exact List.getElem_mem lk)
              have HC := c_eq wr.drew hzo.1 hxo.1 (Nat.le_refl _) (Nat.le_refl _)
              unfold Pr.val at HC
              have HC := Lib.hid HC
              have HP := Lib.hid hPr
              have hset : (C ++ L.drop q).set q z = (C ++ [z]) ++ L.drop (q + 1) := by
                rw [List.set_append_right _ _ (by omega), List.drop_eq_getElem_cons (show q < L.length by omega), hC, Nat.sub_self, List.set_cons_zero, List.append_assoc]
                rfl
              have w1 : IntKind.i64.wrap ((i : Int) - 1) = (h : Int) := by rw [IntWalk.i64_in _ (by omega)]; omega
              have w3 : IntKind.i64.wrap (h : Int) = (h : Int) := IntWalk.i64_in _ (by omega)
              have w4 : IntKind.i64.wrap (i : Int) = (i : Int) := IntWalk.i64_in _ (by omega)
              have w5' : IntKind.i64.wrap ((i : Int) + 1) = (i2 : Int) := by rw [IntWalk.i64_in _ (by omega)]; omega
              have w6 : IntKind.i64.wrap ((q : Int) + 1) = (q2 : Int) := by rw [IntWalk.i64_in _ (by omega)]; omega
              have w7 : IntKind.i64.wrap (q : Int) = (q : Int) := IntWalk.i64_in _ (by omega)
              have i1' : (0 : Int) ≤ (i : Int) := by omega
              have i3 : (0 : Int) ≤ (h : Int) := by omega
              have i4 : (h : Int) < (r : Int) := by omega
              have i5 : (0 : Int) ≤ (q : Int) := by omega
              have i6 : (q : Int) < (n : Int) := by omega
              have hfa : p + i2 - 1 = p + i := by omega
              have Hx := Lib.hid (And.intro hcp (And.intro hdr (And.intro hze (And.intro hset (And.intro hi2 (And.intro hq2 (And.intro hC hfa)))))))
              have Hq := Lib.hid lq
              clear hcp hdr hze hset hi2 hq2 hC hfa hh hx hxe hz lp lk e0 e1 l0 l1 ge hlen hmx hzo hxo hl hr lq hPr
              by_cases hke : z.key = x.key
              · have hkd : decide (z.key = x.key) = true := by simp [hke]
                have Hke := Lib.hid hke
                clear hke
                go_wp2
                have hHeld : (fun W : World => (W.cell? ⟨g, p * 2 + i * 2, none⟩ = some (.slice z.A1 z.n1 z.c1) ∧ W.cell? ⟨g, p * 2 + i * 2 + 1, none⟩ = some (.slice z.A2 z.n2 z.c2)) ∧ W.cell? ⟨g, p * 2 + h * 2, none⟩ = some (.slice x.A1 x.n1 x.c1) ∧ W.cell? ⟨g, p * 2 + h * 2 + 1, none⟩ = some (.slice x.A2 x.n2 x.c2)) wr.drew := ⟨c0, c1⟩
                refine wp_region_noPanic ?_
                refine wp_region_held (S := fun W : World => (W.cell? ⟨g, p * 2 + i * 2, none⟩ = some (.slice z.A1 z.n1 z.c1) ∧ W.cell? ⟨g, p * 2 + i * 2 + 1, none⟩ = some (.slice z.A2 z.n2 z.c2)) ∧ W.cell? ⟨g, p * 2 + h * 2, none⟩ = some (.slice x.A1 x.n1 x.c1) ∧ W.cell? ⟨g, p * 2 + h * 2 + 1, none⟩ = some (.slice x.A2 x.n2 x.c2)) (by kernel_rfl) ?_
                simp only [List.size_toArray, List.length_cons, List.length_nil, Nat.reduceAdd]
                refine heldTake (i := 0) (v := ?_) rfl (by kernel_rfl) (by kernel_rfl) (by kernel_rfl) (fun _ _ _ h => h) hHeld (by rfl) ?_ ?_
                rotate_left
                · (intro w hSw; (try dsimp only at hSw); go_simp; try with_reducible rfl)
                try simp only [Act.put, List.setIfInBounds_toArray, List.set_cons_zero, List.set_cons_succ]
                refine heldTake (i := 1) (v := ?_) rfl (by kernel_rfl) (by kernel_rfl) (by kernel_rfl) (fun _ _ _ h => h) hHeld (by rfl) ?_ ?_
                rotate_left
                · (intro w hSw; (try dsimp only at hSw); go_simp; try with_reducible rfl)
                try simp only [Act.put, List.setIfInBounds_toArray, List.set_cons_zero, List.set_cons_succ]
                refine heldTake (i := 2) (v := ?_) rfl (by kernel_rfl) (by kernel_rfl) (by kernel_rfl) (fun _ _ _ h => h) hHeld (by rfl) ?_ ?_
                rotate_left
                · (intro w hSw; (try dsimp only at hSw); go_simp; try with_reducible rfl)
                try simp only [Act.put, List.setIfInBounds_toArray, List.set_cons_zero, List.set_cons_succ]
                refine heldTake (i := 3) (v := ?_) rfl (by kernel_rfl) (by kernel_rfl) (by kernel_rfl) (fun _ _ _ h => h) hHeld (by rfl) ?_ ?_
                rotate_left
                · (intro w hSw; (try dsimp only at hSw); go_simp; try with_reducible rfl)
                try simp only [Act.put, List.setIfInBounds_toArray, List.set_cons_zero, List.set_cons_succ]
                refine heldTake (i := 4) (v := ?_) rfl (by kernel_rfl) (by kernel_rfl) (by kernel_rfl) (fun _ _ _ h => h) hHeld (by rfl) ?_ ?_
                rotate_left
                · (intro w hSw; (try dsimp only at hSw); go_simp; try with_reducible rfl)
                try simp only [Act.put, List.setIfInBounds_toArray, List.set_cons_zero, List.set_cons_succ]
                refine heldTake (i := 5) (v := ?_) rfl (by kernel_rfl) (by kernel_rfl) (by kernel_rfl) (fun _ _ _ h => h) hHeld (by rfl) ?_ ?_
                rotate_left
                · (intro w hSw; (try dsimp only at hSw); go_simp; try with_reducible rfl)
                try simp only [Act.put, List.setIfInBounds_toArray, List.set_cons_zero, List.set_cons_succ]
                refine heldTake (i := 6) (v := ?_) rfl (by kernel_rfl) (by kernel_rfl) (by kernel_rfl) (fun _ _ _ h => h) hHeld (by rfl) ?_ ?_
                rotate_left
                · (intro w hSw; (try dsimp only at hSw); go_simp; try with_reducible rfl)
                try simp only [Act.put, List.setIfInBounds_toArray, List.set_cons_zero, List.set_cons_succ]
                refine heldTake (i := 7) (v := ?_) rfl (by kernel_rfl) (by kernel_rfl) (by kernel_rfl) (fun _ _ _ h => h) hHeld (by rfl) ?_ ?_
                rotate_left
                · (intro w hSw; (try dsimp only at hSw); go_simp; try with_reducible rfl)
                try simp only [Act.put, List.setIfInBounds_toArray, List.set_cons_zero, List.set_cons_succ]
                refine heldTake (i := 8) (v := ?_) rfl (by kernel_rfl) (by kernel_rfl) (by kernel_rfl) (fun _ _ _ h => h) hHeld (by rfl) ?_ ?_
                rotate_left
                · (intro w hSw; (try dsimp only at hSw); go_simp; try with_reducible rfl)
                try simp only [Act.put, List.setIfInBounds_toArray, List.set_cons_zero, List.set_cons_succ]
                refine heldTake (i := 9) (v := ?_) rfl (by kernel_rfl) (by kernel_rfl) (by kernel_rfl) (fun _ _ _ h => h) hHeld (by rfl) ?_ ?_
                rotate_left
                · (intro w hSw; (try dsimp only at hSw); go_simp; try with_reducible rfl)
                try simp only [Act.put, List.setIfInBounds_toArray, List.set_cons_zero, List.set_cons_succ]
                refine heldStep (i := 10) rfl (by kernel_rfl) (fun K hK => ?_)
                go_simp
                go_at_call 34
                refine HC.out.mono ?_
                rintro e w5 ⟨rfl, hb5⟩
                have hb5w : Below wr.heap.size wr w5 := ((Below.refl wr.heap.size wr).drew).trans hb5
                refine hK.out _ _ (⟨⟨(hb5.cell (p := ⟨g, p * 2 + i * 2, none⟩) HP.out.lt).trans c0.1, (hb5.cell (p := ⟨g, p * 2 + i * 2 + 1, none⟩) HP.out.lt).trans c0.2⟩, (hb5.cell (p := ⟨g, p * 2 + h * 2, none⟩) HP.out.lt).trans c1.1, (hb5.cell (p := ⟨g, p * 2 + h * 2 + 1, none⟩) HP.out.lt).trans c1.2⟩) (fun hHeld => ?_)
                clear hK K
                try simp only [Act.put, List.setIfInBounds_toArray, List.set_cons_zero, List.set_cons_succ]
                refine heldTake (i := 11) (v := ?_) rfl (by kernel_rfl) (by kernel_rfl) (by kernel_rfl) (fun _ _ _ h => h) hHeld (by rfl) ?_ ?_
                rotate_left
                · (intro w hSw; (try dsimp only at hSw); go_simp; try with_reducible rfl)
                try simp only [Act.put, List.setIfInBounds_toArray, List.set_cons_zero, List.set_cons_succ]
                refine wpAnyH_done (by kernel_rfl) ?_ _
                refine NoPanic.normal ?_
                go_wp2
                obtain ⟨hcp, hdr, hze, hset, hi2, hq2, hC, hfa⟩ := Hx.out
                refine ⟨⟨q, i2, z, C, rfl, rfl, by omega, by omega, hC, hpq, by omega, by rw [hfa]; exact hze, ?_, HP.out.below hb5w HP.out.lt, hkb.trans (Kb.of_below hb5w : Kb [] wr w5) (fun b hb => by simp at hb)⟩, by simp [intOf]; omega⟩
                rw [← hcp, hdr, cpF, if_pos Hke.out, hi2]
                rfl
              · have hkd : decide (z.key = x.key) = false := by simp [hke]
                have Hke := Lib.hid hke
                clear hke
                go_wp2
                have hHeld : (fun W : World => (W.cell? ⟨g, p * 2 + i * 2, none⟩ = some (.slice z.A1 z.n1 z.c1) ∧ W.cell? ⟨g, p * 2 + i * 2 + 1, none⟩ = some (.slice z.A2 z.n2 z.c2)) ∧ W.cell? ⟨g, p * 2 + h * 2, none⟩ = some (.slice x.A1 x.n1 x.c1) ∧ W.cell? ⟨g, p * 2 + h * 2 + 1, none⟩ = some (.slice x.A2 x.n2 x.c2)) wr.drew := ⟨c0, c1⟩
                refine wp_region_noPanic ?_
                refine wp_region_held (S := fun W : World => (W.cell? ⟨g, p * 2 + i * 2, none⟩ = some (.slice z.A1 z.n1 z.c1) ∧ W.cell? ⟨g, p * 2 + i * 2 + 1, none⟩ = some (.slice z.A2 z.n2 z.c2)) ∧ W.cell? ⟨g, p * 2 + h * 2, none⟩ = some (.slice x.A1 x.n1 x.c1) ∧ W.cell? ⟨g, p * 2 + h * 2 + 1, none⟩ = some (.slice x.A2 x.n2 x.c2)) (by kernel_rfl) ?_
                simp only [List.size_toArray, List.length_cons, List.length_nil, Nat.reduceAdd]
                refine heldTake (i := 0) (v := ?_) rfl (by kernel_rfl) (by kernel_rfl) (by kernel_rfl) (fun _ _ _ h => h) hHeld (by rfl) ?_ ?_
                rotate_left
                · (intro w hSw; (try dsimp only at hSw); go_simp; try with_reducible rfl)
                try simp only [Act.put, List.setIfInBounds_toArray, List.set_cons_zero, List.set_cons_succ]
                refine heldTake (i := 1) (v := ?_) rfl (by kernel_rfl) (by kernel_rfl) (by kernel_rfl) (fun _ _ _ h => h) hHeld (by rfl) ?_ ?_
                rotate_left
                · (intro w hSw; (try dsimp only at hSw); go_simp; try with_reducible rfl)
                try simp only [Act.put, List.setIfInBounds_toArray, List.set_cons_zero, List.set_cons_succ]
                refine heldTake (i := 2) (v := ?_) rfl (by kernel_rfl) (by kernel_rfl) (by kernel_rfl) (fun _ _ _ h => h) hHeld (by rfl) ?_ ?_
                rotate_left
                · (intro w hSw; (try dsimp only at hSw); go_simp; try with_reducible rfl)
                try simp only [Act.put, List.setIfInBounds_toArray, List.set_cons_zero, List.set_cons_succ]
                refine heldTake (i := 3) (v := ?_) rfl (by kernel_rfl) (by kernel_rfl) (by kernel_rfl) (fun _ _ _ h => h) hHeld (by rfl) ?_ ?_
                rotate_left
                · (intro w hSw; (try dsimp only at hSw); go_simp; try with_reducible rfl)
                try simp only [Act.put, List.setIfInBounds_toArray, List.set_cons_zero, List.set_cons_succ]
                refine heldTake (i := 4) (v := ?_) rfl (by kernel_rfl) (by kernel_rfl) (by kernel_rfl) (fun _ _ _ h => h) hHeld (by rfl) ?_ ?_
                rotate_left
                · (intro w hSw; (try dsimp only at hSw); go_simp; try with_reducible rfl)
                try simp only [Act.put, List.setIfInBounds_toArray, List.set_cons_zero, List.set_cons_succ]
                refine heldTake (i := 5) (v := ?_) rfl (by kernel_rfl) (by kernel_rfl) (by kernel_rfl) (fun _ _ _ h => h) hHeld (by rfl) ?_ ?_
                rotate_left
                · (intro w hSw; (try dsimp only at hSw); go_simp; try with_reducible rfl)
                try simp only [Act.put, List.setIfInBounds_toArray, List.set_cons_zero, List.set_cons_succ]
                refine heldTake (i := 6) (v := ?_) rfl (by kernel_rfl) (by kernel_rfl) (by kernel_rfl) (fun _ _ _ h => h) hHeld (by rfl) ?_ ?_
                rotate_left
                · (intro w hSw; (try dsimp only at hSw); go_simp; try with_reducible rfl)
                try simp only [Act.put, List.setIfInBounds_toArray, List.set_cons_zero, List.set_cons_succ]
                refine heldTake (i := 7) (v := ?_) rfl (by kernel_rfl) (by kernel_rfl) (by kernel_rfl) (fun _ _ _ h => h) hHeld (by rfl) ?_ ?_
                rotate_left
                · (intro w hSw; (try dsimp only at hSw); go_simp; try with_reducible rfl)
                try simp only [Act.put, List.setIfInBounds_toArray, List.set_cons_zero, List.set_cons_succ]
                refine heldTake (i := 8) (v := ?_) rfl (by kernel_rfl) (by kernel_rfl) (by kernel_rfl) (fun _ _ _ h => h) hHeld (by rfl) ?_ ?_
                rotate_left
                · (intro w hSw; (try dsimp only at hSw); go_simp; try with_reducible rfl)
                try simp only [Act.put, List.setIfInBounds_toArray, List.set_cons_zero, List.set_cons_succ]
                refine heldTake (i := 9) (v := ?_) rfl (by kernel_rfl) (by kernel_rfl) (by kernel_rfl) (fun _ _ _ h => h) hHeld (by rfl) ?_ ?_
                rotate_left
                · (intro w hSw; (try dsimp only at hSw); go_simp; try with_reducible rfl)
                try simp only [Act.put, List.setIfInBounds_toArray, List.set_cons_zero, List.set_cons_succ]
                refine heldStep (i := 10) rfl (by kernel_rfl) (fun K hK => ?_)
                go_simp
                go_at_call 34
                refine HC.out.mono ?_
                rintro e w5 ⟨rfl, hb5⟩
                have hb5w : Below wr.heap.size wr w5 := ((Below.refl wr.heap.size wr).drew).trans hb5
                refine hK.out _ _ (⟨⟨(hb5.cell (p := ⟨g, p * 2 + i * 2, none⟩) HP.out.lt).trans c0.1, (hb5.cell (p := ⟨g, p * 2 + i * 2 + 1, none⟩) HP.out.lt).trans c0.2⟩, (hb5.cell (p := ⟨g, p * 2 + h * 2, none⟩) HP.out.lt).trans c1.1, (hb5.cell (p := ⟨g, p * 2 + h * 2 + 1, none⟩) HP.out.lt).trans c1.2⟩) (fun hHeld => ?_)
                clear hK K
                try simp only [Act.put, List.setIfInBounds_toArray, List.set_cons_zero, List.set_cons_succ]
                refine heldTake (i := 11) (v := ?_) rfl (by kernel_rfl) (by kernel_rfl) (by kernel_rfl) (fun _ _ _ h => h) hHeld (by rfl) ?_ ?_
                rotate_left
                · (intro w hSw; (try dsimp only at hSw); go_simp; try with_reducible rfl)
                try simp only [Act.put, List.setIfInBounds_toArray, List.set_cons_zero, List.set_cons_succ]
                refine wpAnyH_done (by kernel_rfl) ?_ _
                refine NoPanic.normal ?_
                have hP5 := HP.out.below hb5w HP.out.lt
                have cq := hP5.cell Hq.out
                have zf := hP5.frz
                have cq2 : (w5.setCell ⟨g, q * 2, none⟩ (.slice z.A1 z.n1 z.c1)).cell? ⟨g, q * 2 + 1, none⟩ = _ := (World.cell?_setCell_other _ _ _ _ (by simp)).trans cq.2
                have HP6 := Lib.hid (hP5.put Hq.out z)
                clear hP5
                go_wp2
                obtain ⟨hcp, hdr, hze, hset, hi2, hq2, hC, hfa⟩ := Hx.out
                have hP6 := HP6.out
                rw [hset, ← hq2] at hP6
                have hkw : Kb [g] w w5 := hkb.trans (Kb.of_below hb5w : Kb [] wr w5) (fun b hb => by simp at hb)
                refine ⟨⟨q2, i2, z, C ++ [z], rfl, rfl, by omega, by omega, by rw [List.length_append, hC, hq2]; rfl, by omega, by omega, by rw [hfa]; exact hze, ?_, hP6, (hkw.setCell (p := ⟨g, q * 2, none⟩) (.inl (by simp)) _).setCell (p := ⟨g, q * 2 + 1, none⟩) (.inl (by simp)) _⟩, by simp [intOf]; omega⟩
                rw [← hcp, hdr, cpF, if_neg Hke.out, hi2, List.append_assoc]
                rfl
            · have hlt2' : ¬ (i : Int) < (r : Int) := by omega
              have hlx : p + i = n := by omega
              have hCe : C = cpR L := by rw [← hcp, hlx, ← hl, List.drop_length, cpF, List.append_nil]
              have hgr := hPr.tail (o := q * 2) (List.replicate (n - q) [(.slice none 0 0 : Value), .slice none 0 0]).flatten (by omega)
              have hcl : ∀ ty, (Builtin.clear_ #[25] ty #[.slice (some ⟨g, q * 2, none⟩) (n - q) (c - q)]).run Try.prog wr = .ok (.tuple #[]) (wr.setCells g (q * 2) (List.replicate (n - q) [(.slice none 0 0 : Value), .slice none 0 0]).flatten) := fun ty =>
                run_clear_two (e := 42) wr _ ty _ _ _ (by kernel_rfl) zero_pair rfl rfl rfl g (q * 2) _ _ (by omega) (fun j hj => by
                  have hlen : (C ++ L.drop q).length = n := by rw [List.length_append, List.length_drop]; omega
                  have hc := hPr.cell (i := q + j / 2) (by omega)
                  rcases Nat.mod_two_eq_zero_or_one j with e | e
                  · rw [show q * 2 + j = (q + j / 2) * 2 from by omega, hc.1]; rfl
                  · rw [show q * 2 + j = (q + j / 2) * 2 + 1 from by omega, hc.2]; rfl) (fun j _ => hPr.frz _)
              have hkw := Kb.setCells (S := [g]) (g := g) (List.mem_singleton.2 rfl) (List.replicate (n - q) [(.slice none 0 0 : Value), .slice none 0 0]).flatten (q * 2) wr hkb
              have i5 : (0 : Int) ≤ (q : Int) := by omega
              have i6 : (q : Int) ≤ (n : Int) := by omega
              have w7 : IntKind.i64.wrap (q : Int) = (q : Int) := IntWalk.i64_in _ (by omega)
              have Hx := Lib.hid (And.intro hCe (And.intro hC hl))
              have Hg := Lib.hid (And.intro hgr hkw)
              clear hCe hC hl hr hlx hcp hx hgr hkw hPr
              go_wp2_with (simp only [hcl])
              go_ret
              obtain ⟨hCe, hC, hl⟩ := Hx.out
              obtain ⟨hgr, hkw⟩ := Hg.out
              subst hC
              subst hCe
              exact ⟨rfl, hgr, by omega, hkw⟩
        · have hkd : decide (y.key = x.key) = false := by simp [hke]
          have Hke := Lib.hid hke
          clear hke
          obtain ⟨p2, hp2⟩ : ∃ p2, p2 = p + 1 := ⟨_, rfl⟩
          have w4 : IntKind.i64.wrap ((p : Int) + 1) = (p2 : Int) := by rw [IntWalk.i64_in _ (by omega)]; omega
          have Hp2 := Lib.hid hp2
          clear hp2
          go_wp2
          have hHeld : (fun W : World => (W.cell? ⟨g, p * 2, none⟩ = some (.slice y.A1 y.n1 y.c1) ∧ W.cell? ⟨g, p * 2 + 1, none⟩ = some (.slice y.A2 y.n2 y.c2)) ∧ W.cell? ⟨g, k * 2, none⟩ = some (.slice x.A1 x.n1 x.c1) ∧ W.cell? ⟨g, k * 2 + 1, none⟩ = some (.slice x.A2 x.n2 x.c2)) wr.drew := ⟨c0, c1⟩
          refine wp_region_noPanic ?_
          refine wp_region_held (S := fun W : World => (W.cell? ⟨g, p * 2, none⟩ = some (.slice y.A1 y.n1 y.c1) ∧ W.cell? ⟨g, p * 2 + 1, none⟩ = some (.slice y.A2 y.n2 y.c2)) ∧ W.cell? ⟨g, k * 2, none⟩ = some (.slice x.A1 x.n1 x.c1) ∧ W.cell? ⟨g, k * 2 + 1, none⟩ = some (.slice x.A2 x.n2 x.c2)) (by kernel_rfl) ?_
          simp only [List.size_toArray, List.length_cons, List.length_nil, Nat.reduceAdd]
          refine heldTake (i := 0) (v := ?_) rfl (by kernel_rfl) (by kernel_rfl) (by kernel_rfl) (fun _ _ _ h => h) hHeld (by rfl) ?_ ?_
          rotate_left
          · (intro w hSw; (try dsimp only at hSw); go_simp; try with_reducible rfl)
          try simp only [Act.put, List.setIfInBounds_toArray, List.set_cons_zero, List.set_cons_succ]
          refine heldTake (i := 1) (v := ?_) rfl (by kernel_rfl) (by kernel_rfl) (by kernel_rfl) (fun _ _ _ h => h) hHeld (by rfl) ?_ ?_
          rotate_left
          · (intro w hSw; (try dsimp only at hSw); go_simp; try with_reducible rfl)
          try simp only [Act.put, List.setIfInBounds_toArray, List.set_cons_zero, List.set_cons_succ]
          refine heldTake (i := 2) (v := ?_) rfl (by kernel_rfl) (by kernel_rfl) (by kernel_rfl) (fun _ _ _ h => h) hHeld (by rfl) ?_ ?_
          rotate_left
          · (intro w hSw; (try dsimp only at hSw); go_simp; try with_reducible rfl)
          try simp only [Act.put, List.setIfInBounds_toArray, List.set_cons_zero, List.set_cons_succ]
          refine heldTake (i := 3) (v := ?_) rfl (by kernel_rfl) (by kernel_rfl) (by kernel_rfl) (fun _ _ _ h => h) hHeld (by rfl) ?_ ?_
          rotate_left
          · (intro w hSw; (try dsimp only at hSw); go_simp; try with_reducible rfl)
          try simp only [Act.put, List.setIfInBounds_toArray, List.set_cons_zero, List.set_cons_succ]
          refine heldTake (i := 4) (v := ?_) rfl (by kernel_rfl) (by kernel_rfl) (by kernel_rfl) (fun _ _ _ h => h) hHeld (by rfl) ?_ ?_
          rotate_left
          · (intro w hSw; (try dsimp only at hSw); go_simp; try with_reducible rfl)
          try simp only [Act.put, List.setIfInBounds_toArray, List.set_cons_zero, List.set_cons_succ]
          refine heldTake (i := 5) (v := ?_) rfl (by kernel_rfl) (by kernel_rfl) (by kernel_rfl) (fun _ _ _ h => h) hHeld (by rfl) ?_ ?_
          rotate_left
          · (intro w hSw; (try dsimp only at hSw); go_simp; try with_reducible rfl)
          try simp only [Act.put, List.setIfInBounds_toArray, List.set_cons_zero, List.set_cons_succ]
          refine heldTake (i := 6) (v := ?_) rfl (by kernel_rfl) (by kernel_rfl) (by kernel_rfl) (fun _ _ _ h => h) hHeld (by rfl) ?_ ?_
          rotate_left
          · (intro w hSw; (try dsimp only at hSw); go_simp; try with_reducible rfl)
          try simp only [Act.put, List.setIfInBounds_toArray, List.set_cons_zero, List.set_cons_succ]
          refine heldTake (i := 7) (v := ?_) rfl (by kernel_rfl) (by kernel_rfl) (by kernel_rfl) (fun _ _ _ h => h) hHeld (by rfl) ?_ ?_
          rotate_left
          · (intro w hSw; (try dsimp only at hSw); go_simp; try with_reducible rfl)
          try simp only [Act.put, List.setIfInBounds_toArray, List.set_cons_zero, List.set_cons_succ]
          refine heldTake (i := 8) (v := ?_) rfl (by kernel_rfl) (by kernel_rfl) (by kernel_rfl) (fun _ _ _ h => h) hHeld (by rfl) ?_ ?_
          rotate_left
          · (intro w hSw; (try dsimp only at hSw); go_simp; try with_reducible rfl)
          try simp only [Act.put, List.setIfInBounds_toArray, List.set_cons_zero, List.set_cons_succ]
          refine heldTake (i := 9) (v := ?_) rfl (by kernel_rfl) (by kernel_rfl) (by kernel_rfl) (fun _ _ _ h => h) hHeld (by rfl) ?_ ?_
          rotate_left
          · (intro w hSw; (try dsimp only at hSw); go_simp; try with_reducible rfl)
          try simp only [Act.put, List.setIfInBounds_toArray, List.set_cons_zero, List.set_cons_succ]
          refine heldStep (i := 10) rfl (by kernel_rfl) (fun K hK => ?_)
          go_simp
          go_at_call 34
          refine HC.out.mono ?_
          rintro e w5 ⟨rfl, hb5⟩
          have hb5w : Below wr.heap.size wr w5 := ((Below.refl wr.heap.size wr).drew).trans hb5
          refine hK.out _ _ (⟨⟨(hb5.cell (p := ⟨g, p * 2, none⟩) HP.out.lt).trans c0.1, (hb5.cell (p := ⟨g, p * 2 + 1, none⟩) HP.out.lt).trans c0.2⟩, (hb5.cell (p := ⟨g, k * 2, none⟩) HP.out.lt).trans c1.1, (hb5.cell (p := ⟨g, k * 2 + 1, none⟩) HP.out.lt).trans c1.2⟩) (fun hHeld => ?_)
          clear hK K
          try simp only [Act.put, List.setIfInBounds_toArray, List.set_cons_zero, List.set_cons_succ]
          refine wpAnyH_done (by kernel_rfl) ?_ _
          refine NoPanic.normal ?_
          go_wp2
          obtain ⟨hk, hcp, hdr, htk, hye⟩ := Hx.out
          have hp2 := Hp2.out
          refine ⟨⟨p2, y, rfl, by omega, by omega, by rw [hp2]; exact hye, ?_, HP.out.below hb5w HP.out.lt, hkb.trans (Kb.of_below hb5w : Kb [] wr w5) (fun b hb => by simp at hb)⟩, by simp [intOf]; omega⟩
          rw [← hcp, hp2, htk, hdr, cpF, if_neg Hke.out, List.append_assoc]
          rfl
      · have hlt' : ¬ (p : Int) < (n : Int) := by omega
        have hl := Hn.out
        have hpe : p = n := by omega
        subst hpe
        have hfin : cpR L = L := by
          rw [← hcp, ← hl, List.take_length, List.drop_length, cpF, List.append_nil]
        have hl := Lib.hid hl
        go_wp2
        go_ret
        refine ⟨?_, by rw [hfin]; exact hPr, by rw [hfin]; exact Nat.le_refl _, hkb⟩
        rw [hfin, hl.out]
        rfl
end Go.Proofs.Ytjkjlekfeelfpaa
