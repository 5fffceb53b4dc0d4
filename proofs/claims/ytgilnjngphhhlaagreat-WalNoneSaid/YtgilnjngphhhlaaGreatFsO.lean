/- Layer 1: how much a file system holds: the walks of Dead and Used. -/
import Derived.Test.YtgilnjngphhhlaaGreatFsM
namespace Go.Fsy
open Go.Maps Go.Lec
theorem sum_without {s : St} : ∀ {l : Dir} {n : Bs} {i : Nat}, (l.map (·.1)).Nodup → node l n = some i → sumD s l = sizeAt s i + sumD s (without l n)
  | [], n, i, _, h => by cases h
  | p :: l, n, i, hl, h => by
    rw [List.map_cons, List.nodup_cons] at hl
    by_cases hp : p.1 = n
    · have h1 : without (p :: l) n = l := by
        unfold without
        rw [List.filter_cons]
        have : (p.1 != n) = false := by simp [hp]
        rw [this]
        rw [if_neg Bool.false_ne_true, List.filter_eq_self]
        intro q hq
        have : q.1 ≠ n := fun e => hl.1 (List.mem_map.2 ⟨q, hq, by rw [e, hp]⟩)
        simpa using this
      have h2 : i = p.2 := by
        unfold node at h
        rw [List.find?_cons] at h
        have : (p.1 == n) = true := by simp [hp]
        rw [this] at h
        simpa using h.symm
      rw [h1, h2]
      rfl
    · have h1 : without (p :: l) n = p :: without l n := by simp [without, hp]
      have h2 : node l n = some i := by
        unfold node at h ⊢
        rw [List.find?_cons] at h
        have : (p.1 == n) = false := by rw [beq_eq_false_iff_ne]; exact hp
        rw [this] at h
        exact h
      have ih := sum_without (s := s) hl.2 h2
      rw [h1]
      show sizeAt s p.2 + sumD s l = sizeAt s i + (sizeAt s p.2 + sumD s (without l n))
      omega
theorem sumD_le {s : St} {M : Nat} (h : ∀ i, sizeAt s i ≤ M) : ∀ (l : Dir), sumD s l ≤ l.length * M
  | [] => Nat.zero_le _
  | p :: l => by
    have h1 := sumD_le h l
    have h2 := h p.2
    show sizeAt s p.2 + sumD s l ≤ (l.length + 1) * M
    rw [Nat.succ_mul]
    omega
theorem node_nil_of {l : Dir} (h : ∀ n, (node l n).isSome = false) : l = [] := by
  cases l with
  | nil => rfl
  | cons p l =>
    have := h p.1
    simp [node] at this
/-- What is still to come of a directory's map. -/
structure ToCome (l rem : Dir) (left : Lit → Bool) : Prop where
  at_ : ∀ n, left (strL n) = (node rem n).isSome
  sub : ∀ n i, node rem n = some i → node l n = some i
  nd : (rem.map (·.1)).Nodup
theorem ToCome.start {fid : Nat → Nat} {D : DataW Unit} {l : Dir} (h : Rep fid D l) (hl : (l.map (·.1)).Nodup) : ToCome l l (Maps.has D) := ⟨fun n => h.has n, fun _ _ h => h, hl⟩
theorem ToCome.take {l rem : Dir} {left : Lit → Bool} (h : ToCome l rem left) (n : Bs) : ToCome l (without rem n) (fun z => left z && !z.sameKey (strL n)) := by
  refine ⟨fun m => ?_, fun m i hm => ?_, h.nd.sublist ((without_sub rem n).map _)⟩
  · by_cases hm : m = n
    · subst hm
      rw [node_without_same]
      have : (strL m).sameKey (strL m) = true := by simp [strL, Lit.sameKey]
      simp [this]
    · rw [node_without_other hm, ← h.at_ m]
      have : (strL m).sameKey (strL n) = false := by
        cases hc : (strL m).sameKey (strL n) with
        | false => rfl
        | true => exact absurd (WideAt.sameKey_eq hc) (strL_ne hm)
      simp [this]
  · by_cases hm' : m = n
    · subst hm'; rw [node_without_same] at hm; cases hm
    · rw [node_without_other hm'] at hm; exact h.sub m i hm
theorem ToCome.done {l rem : Dir} {left : Lit → Bool} (h : ToCome l rem left) (hd : ∀ kl, left kl = false) : rem = [] := node_nil_of fun n => by rw [← h.at_ n]; exact hd _
def mkP : Option Nat → Value
  | none => .pointer none
  | some b => .pointer (some ⟨b, 0, none⟩)
theorem ptrR_mk (v : Value) (y : DataW Unit × List MemPlace) (h : ptrR v = some y) : ∃ c, v = mkP c := by
  unfold ptrR at h
  split at h
  · exact ⟨none, rfl⟩
  · exact ⟨some _, rfl⟩
  · cases h
theorem mkP_of {c : Option Nat} {y : DataW Unit × List MemPlace} {b : Nat} (h : ptrR (mkP c) = some y) (hy : y.1 = .lit (.int .i64 b)) : c = some b := by
  obtain ⟨d, ps⟩ := y
  simp only at hy
  subst hy
  have := ptrR_inv h
  cases c with
  | none => cases this
  | some x => simp only [mkP, Value.pointer.injEq, Option.some.injEq, Addr.mk.injEq] at this; rw [this.1]
/-- Of a map that reads as a directory: an entry that has come. -/
theorem ToCome.entry {fid : Nat → Nat} {D : DataW Unit} {l rem : Dir} {left : Lit → Bool} {n : Bs} {c : Option Nat} {y : DataW Unit × List MemPlace} (h : ToCome l rem left) (hr : Rep fid D l) (hl : left (strL n) = true) (hc : ptrR (mkP c) = some y) (ha : ∀ zd, D.atKey (strL n) zd = y.1) :
    ∃ i, node rem n = some i ∧ node l n = some i ∧ c = some (fid i) := by
  rw [h.at_] at hl
  obtain ⟨i, hi⟩ := Option.isSome_iff_exists.1 hl
  refine ⟨i, hi, h.sub _ _ hi, mkP_of hc ?_⟩
  rw [← ha .nil, hr.at_ n i (h.sub _ _ hi)]
end Go.Fsy
namespace Go.Proofs.YtgilnjngphhhlaaGreat
open Go.RowKit Go.Lec Go.Fsy Go.Op Go.Maps
theorem keyS_inv (key : Value) (kl : Lit) (h : keyOf Tryz.prog 9 key = some kl) : ∃ x : ByteArray, key = .string x ∧ kl = strL x.data.toList := by
  rw [keyOf_string Tryz.underlying9] at h
  unfold mapKey at h
  simp only [Tryz.underlying9] at h
  cases key <;> simp at h
  exact ⟨_, rfl, by simp [strL, h.2]⟩
set_option maxRecDepth 40000 in
theorem c_Dead (w : World) {X I : Nat → Prop} {fb : Nat} {s : St} (h : FsP X I w fb s) :
    Calls Tryz.prog 65 #[ptrV fb] w fun e w' => e = .returned (.bool s.died) ∧ w' = w := by
  obtain ⟨G, hG⟩ := h
  have q := hG.bk.cell
  unfold fsCs at q
  have H0 := Lib.hid (c_is w fb (q 0))
  obtain ⟨d, hd⟩ : ∃ d, d = s.died := ⟨_, rfl⟩
  rw [← hd] at q ⊢
  clear hG hd
  unfold ptrV
  cases d with
  | true =>
    go_enter Tryz.func65, Tryz.ntmps65
    go_wp2_with (first | (go_at_call 32; refine H0.out.mono ?_; rintro e w1 ⟨rfl, rfl⟩))
    go_ret
    exact ⟨rfl, rfl⟩
  | false =>
    go_enter Tryz.func65, Tryz.ntmps65
    go_wp2_with (first | (go_at_call 32; refine H0.out.mono ?_; rintro e w1 ⟨rfl, rfl⟩))
    go_ret
    exact ⟨rfl, rfl⟩
set_option maxRecDepth 40000 in
set_option maxHeartbeats 800000 in
theorem c_Used (w : World) {X I : Nat → Prop} {fb N : Nat} {s : St} (h : FsP X I w fb s) (hi : Fsy.Inv s N) (hN : N ≤ 1048576) :
    Calls Tryz.prog 57 #[ptrV fb] w fun e w' => e = .returned (.int .i64 (used s : Nat)) ∧ Below w.heap.size w w' := by
  have HD := Lib.hid (c_Dead w h)
  obtain ⟨G, hG⟩ := h
  have q := hG.bk.cell
  unfold fsCs at q
  have hu : used s = if s.died then 0 else sumD s s.dir := rfl
  have hdl := hi.nDir
  have hsz := sumD_le (s := s) hi.size s.dir
  have hsm : s.dir.length * 268435456 ≤ 1048576 * 268435456 := Nat.mul_le_mul_right _ (by omega)
  obtain ⟨d, hd⟩ : ∃ d, d = s.died := ⟨_, rfl⟩
  rw [← hd] at q HD hu
  cases d with
  | true =>
    rw [if_pos rfl] at hu
    rw [hu]
    clear hG hd hu
    unfold ptrV at *
    go_enter Tryz.func57, Tryz.ntmps57
    go_wp2_with (first | (go_at_call 65; refine HD.out.mono ?_; rintro e w1 ⟨rfl, rfl⟩))
    go_ret
    exact ⟨rfl, Below.refl _ _⟩
  | false =>
    rw [if_neg Bool.false_ne_true] at hu
    rw [hu]
    have HG := Lib.hid hG
    have hmp := hG.dmap
    obtain ⟨tot, htot⟩ : ∃ x, x = sumD s s.dir := ⟨_, rfl⟩
    rw [← htot] at hsz ⊢
    have Htot := Lib.hid htot
    have Hst := Lib.hid (ToCome.start hG.rep1 hi.dir.1)
    have c8 : w.cell? ⟨fb, 8, none⟩ = some (.map (some G.dm)) := q 8
    clear hG hd hu htot
    unfold ptrV at *
    go_enter Tryz.func57, Tryz.ntmps57
    go_wp2_with (first | (go_at_call 65; refine HD.out.mono ?_; rintro e w1 ⟨rfl, rfl⟩) | (at_range; refine wpList_range_own _ rfl _ 66 rfl 9 85 keyS Tryz.underlying66 ptrR G.dm s.dir.length G.D1 rfl hmp ?_; intro w0 hrg0 hg0 hs0))
    go_frame
    go_loopw [3] (fun v wr => ∃ (left : Lit → Bool) (cnt : Nat) (rem : Dir) (t : Nat), v = .int .i64 (t : Int) ∧ wr.ranges Tryz.prog 9 ptrR G.dm w1.heap.size s.dir.length G.D1 left cnt ∧ ToCome s.dir rem left ∧ t + sumD s rem = tot ∧ Below w1.heap.size w1 wr) (fun _ wr => wr.rangeLeft G.dm w1.heap.size)
    case atStart => exact ⟨_, _, s.dir, 0, rfl, hrg0, Hst.out, by rw [Htot.out]; omega, (Below.refl _ _).grown hg0 (Nat.le_refl _) (fun j hj => by cases hj)⟩
    case round =>
      obtain ⟨left, cnt, rem, t, rfl, hrg, hlf, hts, hbl⟩ := hrel
      go_wp2_with (first | (at_next; refine wpList_next_ranges _ rfl _ rfl 9 keyS ptrR Value.string mkP (fun key kl hk => by obtain ⟨x, hx, _⟩ := keyS_inv key kl hk; exact ⟨x, hx⟩) ptrR_mk G.dm w1.heap.size s.dir.length G.D1 _ _ rfl hrg ?_ ?_))
      · intro hc0 hl0
        have hre := hlf.done hl0
        subst hre
        have htt : t = tot := by have : sumD s [] = 0 := rfl; omega
        subst htt
        go_wp2
        go_ret
        exact ⟨rfl, hbl⟩
      · intro x c kl y1 y2 w2 cnt2 hk hlk hv hat hrg2 hlt hg2 hs2 hen
        obtain ⟨x', hx, hkl⟩ := keyS_inv _ _ hk
        cases hx
        subst hkl
        obtain ⟨i, hi1, hi2, rfl⟩ := hlf.entry (y := (y1, y2)) HG.out.rep1 hlk hv hat
        have hal : alive s i := .inl ⟨_, node_some hi2⟩
        obtain ⟨A1, c1, A3, c3, vs, hB, _⟩ := (HG.out.files i hal).ex
        have hbl2 := hbl.grown hg2 (by have := hrg.lt; omega) (fun j hj => by cases hj; exact Nat.le_refl _)
        have hsw := sum_without (s := s) hlf.nd hi1
        obtain ⟨z, hz⟩ : ∃ z, z = (ndAt s.nodes i).data.length := ⟨_, rfl⟩
        rw [← hz] at hB
        have hB2 := hB.below hbl2 hB.lt
        have q2 := hB2.cell
        have hts2 : t + z + sumD s (without rem x.data.toList) = tot := by
          have : sizeAt s i = z := hz.symm
          omega
        have htz : t + z ≤ tot := by omega
        have Hlf := Lib.hid (hlf.take x.data.toList)
        have Hts := Lib.hid hts2
        have Hrg := Lib.hid hrg
        have Hrg2 := Lib.hid hrg2
        clear hts2 hts hsw hlf hz hrg hrg2 hk hlk hat hv
        unfold mkP at hen ⊢
        go_wp2
        go_roundw
        case rel => exact ⟨_, cnt2, without rem x.data.toList, t + z, by go_num, Hrg2.out, Hlf.out, Hts.out, hbl2⟩
        case measure => rw [Hrg2.out.left_eq, Hrg.out.left_eq]; exact hlt
end Go.Proofs.YtgilnjngphhhlaaGreat
