/-
  'lecternlaw23.MergeParts', where what it reads is of bulk at most 1048576: whatever lists of pairs, two keys, epoch, sort key, flag and number are handed in, the call returns true and leaves what was there as it was: what is seen from one key to a place and on from there to another is what is seen at once, if the place is an epoch's beginning, or an epoch's and sort key's.
  Conditions: the second form's own (the arguments hold together at most 1048576 values and letters); none besides.
-/
import Derived.Test.YtedelkifadonjaaMuE
import Derived.Test.YtedelkifadonjaaOpenM
import Derived.Test.YtedelkifadonjaaOpenF
import Derived.ShutString
namespace Go.Proofs.Ytedelkifadonjaa.mergeParts
open Go.ChangeShapes Go.WideShapes Go.ChangeAt Go.RowKit Go.Lec

theorem own : ownKnob Try.prog.godebug = none := by kernel_rfl
theorem laidOut : laidOutB Try.prog = true := by kernel_rfl

set_option maxRecDepth 100000 in
theorem contract (H : Type) (enc : TypeId × Value → H) (W : World) (base : Nat) (args : Array Value) (ds gs : List (DataW H)) (before : List MemPlace)
    (hval0 : ∀ (j : Nat) t v, Try.f4.params[j]? = some t → args[j]? = some v → Value.okWide Try.prog W .any base t v)
    (hW : DataW.Whole enc Try.prog Try.f4.params.toList Rows.mergePartsSpec.vars false W args.toList ds gs before) (hk : Rows.uptoSmall H (ds ++ gs) = true) :
    Calls Try.prog 4 args W fun e W' => ∃ v, e = .returned v ∧ Rows.mergePartsSpec.post enc Try.prog Try.f4 false true false false W args v W' := by
  have hval : ∀ (j : Nat) t v, Try.f4.params[j]? = some t → args[j]? = some v → Value.okWide Try.prog W .any base t v := hval0
  have hW' := hW
  obtain ⟨p, q, hA0, hV, rfl, hfz, hnd⟩ := hW
  have hA : DataW.TrodAll enc Try.prog W 0 (fun _ => true) true Try.f4.params.toList args.toList ds p := hA0
  rw [Try.params4] at hA hval
  obtain ⟨v0, vs0, d0, ds0, p0, q0, hargs, rfl, rfl, h0, r0⟩ := trodAll_cons hA
  obtain ⟨v1, vs1, d1, ds1, p1, q1, rfl, rfl, rfl, h1, r1⟩ := trodAll_cons r0
  obtain ⟨v2, vs2, d2, ds2, p2, q2, rfl, rfl, rfl, h2, r2⟩ := trodAll_cons r1
  obtain ⟨v3, vs3, d3, ds3, p3, q3, rfl, rfl, rfl, h3, r3⟩ := trodAll_cons r2
  obtain ⟨v4, vs4, d4, ds4, p4, q4, rfl, rfl, rfl, h4, r4⟩ := trodAll_cons r3
  obtain ⟨v5, vs5, d5, ds5, p5, q5, rfl, rfl, rfl, h5, r5⟩ := trodAll_cons r4
  obtain ⟨v6, vs6, d6, ds6, p6, q6, rfl, rfl, rfl, h6, r6⟩ := trodAll_cons r5
  obtain ⟨rfl, rfl, rfl⟩ := trodAll_nil r6
  obtain rfl : args = #[v0, v1, v2, v3, v4, v5, v6] := by cases args; simp_all
  obtain ⟨rfl, rfl⟩ := trodVars_none hV
  have k0 := h0
  have k1 := h1
  have k2 := h2
  have k3 := h3
  have k4 := h4
  have k5 := h5
  have k6 := h6
  have lt0 : ∀ x ∈ p0, x.block < W.heap.size := by obtain ⟨m, hm⟩ := k0; exact DataW.trod_lt m _ _ _ hm
  have lt1 : ∀ x ∈ p1, x.block < W.heap.size := by obtain ⟨m, hm⟩ := k1; exact DataW.trod_lt m _ _ _ hm
  have lt2 : ∀ x ∈ p2, x.block < W.heap.size := by obtain ⟨m, hm⟩ := k2; exact DataW.trod_lt m _ _ _ hm
  have lt3 : ∀ x ∈ p3, x.block < W.heap.size := by obtain ⟨m, hm⟩ := k3; exact DataW.trod_lt m _ _ _ hm
  have lt4 : ∀ x ∈ p4, x.block < W.heap.size := by obtain ⟨m, hm⟩ := k4; exact DataW.trod_lt m _ _ _ hm
  have lt5 : ∀ x ∈ p5, x.block < W.heap.size := by obtain ⟨m, hm⟩ := k5; exact DataW.trod_lt m _ _ _ hm
  have lt6 : ∀ x ∈ p6, x.block < W.heap.size := by obtain ⟨m, hm⟩ := k6; exact DataW.trod_lt m _ _ _ hm
  have l0 : Tiny d0 := tiny_of hk (by simp)
  have l1 : Tiny d1 := tiny_of hk (by simp)
  have l2 : Tiny d2 := tiny_of hk (by simp)
  have l3 : Tiny d3 := tiny_of hk (by simp)
  have l4 : Tiny d4 := tiny_of hk (by simp)
  have l5 : Tiny d5 := tiny_of hk (by simp)
  have l6 : Tiny d6 := tiny_of hk (by simp)
  obtain ⟨A0, n0, c0, e0⟩ := okWide_slice Try.underlying22 (hval 0 22 _ rfl rfl)
  subst e0
  obtain ⟨m0, t0⟩ := h0
  obtain ⟨_, _, _, L0, e0, hc0, hn0, g0⟩ := open_listsT Try.underlying22 (by kernel_rfl) Try.underlying28 Try.underlying56 (by kernel_rfl) (by kernel_rfl) rfl rfl Try.underlying23 Try.underlying5 (by kernel_rfl) t0 l0
  simp only [Value.slice.injEq] at e0
  obtain ⟨rfl, rfl, rfl⟩ := e0
  obtain ⟨A1, n1, c1, e1⟩ := okWide_slice Try.underlying23 (hval 1 23 _ rfl rfl)
  subst e1
  obtain ⟨m1, t1⟩ := h1
  obtain ⟨_, _, _, L1, e1, hc1, hn1, g1⟩ := open_bytesT Try.underlying23 Try.underlying5 (by kernel_rfl) t1 l1
  simp only [Value.slice.injEq] at e1
  obtain ⟨rfl, rfl, rfl⟩ := e1
  obtain ⟨A2, n2, c2, e2⟩ := okWide_slice Try.underlying23 (hval 2 23 _ rfl rfl)
  subst e2
  obtain ⟨m2, t2⟩ := h2
  obtain ⟨_, _, _, L2, e2, hc2, hn2, g2⟩ := open_bytesT Try.underlying23 Try.underlying5 (by kernel_rfl) t2 l2
  simp only [Value.slice.injEq] at e2
  obtain ⟨rfl, rfl, rfl⟩ := e2
  obtain ⟨x3, e3, _, _, wx3⟩ := open_int Try.underlying3 (hval 3 3 _ rfl rfl) h3
  subst e3
  obtain ⟨A4, n4, c4, e4⟩ := okWide_slice Try.underlying23 (hval 4 23 _ rfl rfl)
  subst e4
  obtain ⟨m4, t4⟩ := h4
  obtain ⟨_, _, _, L4, e4, hc4, hn4, g4⟩ := open_bytesT Try.underlying23 Try.underlying5 (by kernel_rfl) t4 l4
  simp only [Value.slice.injEq] at e4
  obtain ⟨rfl, rfl, rfl⟩ := e4
  obtain ⟨b5, e5, _, _⟩ := open_bool Try.underlying4 (hval 5 4 _ rfl rfl) h5
  subst e5
  obtain ⟨x6, e6, _, _, wx6⟩ := open_int Try.underlying3 (hval 6 3 _ rfl rfl) h6
  subst e6
  clear hA0 hval0
  refine (w_MergeParts W g0 g1 g2 g4 (Nat.le_refl _) (Nat.le_refl _) (Nat.le_refl _) hn1 hn2 hn4).mono fun e W' ⟨he, bel⟩ => ?_
  subst he
  exact ⟨_, rfl, _, _, _, [], _, [], hW', trodAll_mk1 (shut_bool Try.underlying4 _), (trodAll_cons_mk (Below.trod laidOut (by kernel_rfl) (of_decide_eq_true (by kernel_rfl)) k0 bel lt0) (trodAll_cons_mk (Below.trod laidOut (by kernel_rfl) (of_decide_eq_true (by kernel_rfl)) k1 bel lt1) (trodAll_cons_mk (Below.trod laidOut (by kernel_rfl) (of_decide_eq_true (by kernel_rfl)) k2 bel lt2) (trodAll_cons_mk (Below.trod laidOut (by kernel_rfl) (of_decide_eq_true (by kernel_rfl)) k3 bel lt3) (trodAll_cons_mk (Below.trod laidOut (by kernel_rfl) (of_decide_eq_true (by kernel_rfl)) k4 bel lt4) (trodAll_cons_mk (Below.trod laidOut (by kernel_rfl) (of_decide_eq_true (by kernel_rfl)) k5 bel lt5) (trodAll_cons_mk (Below.trod laidOut (by kernel_rfl) (of_decide_eq_true (by kernel_rfl)) k6 bel lt6) trodAll_mk0))))))), rfl, bel.frame _, fun h => by cases h⟩

set_option maxRecDepth 100000 in
theorem lifted (os : Os) (started : os.Started) (H : Type) (enc : TypeId × Value → H) (F : Stop.Interp) :
    ReturnsInHanded {} Try.checked os 4 .any ((Rows.OpenSpec.upto Rows.mergePartsSpec).pre6 enc Try.prog Try.f4 Rows.mergePartsUptoRow.domain false) (((Rows.OpenSpec.upto Rows.mergePartsSpec).at F).post enc Try.prog Try.f4 false true false false) := by
  refine returnsInHanded_of_cond (C := Try.checked) (s := Rows.OpenSpec.upto Rows.mergePartsSpec) (k := Rows.uptoSmall) rfl own started (by kernel_rfl) Try.func4
    (OpenSpec.witness (enc := enc) (C := Try.checked) (s := Rows.OpenSpec.upto Rows.mergePartsSpec) (k := Rows.uptoSmall) rfl false ⟨#[], #[.slice none 0 0, .slice none 0 0, .slice none 0 0, .int .i64 0, .slice none 0 0, .bool false, .int .i64 0], []⟩ 8 (by kernel_rfl) (by kernel_rfl) (by kernel_rfl)
      (x := ([.nil, .nil, .nil, .lit (.int .i64 0), .nil, .lit (.bool false), .lit (.int .i64 0)], [], [])) (by kernel_rfl) rfl (by kernel_rfl)) ?_
  intro W base args ds gs before hval hW _ hk _
  exact contract H enc W base args ds gs before hval hW hk

theorem over : Rows.mergePartsUptoRow.holds Try.pinned (Rows.OpenSpec.upto Rows.mergePartsSpec) :=
  OpenClaim.holds_of_cond 4 Try.f4 rfl rfl rfl rfl rfl rfl rfl ⟨rfl, rfl, rfl, rfl, rfl⟩ rfl rfl rfl rfl rfl (by kernel_rfl) Try.func4 (by kernel_rfl)
    (of_decide_eq_true (by kernel_rfl)) (by unfold Func.isWrapper; first | (rw [if_pos (by decide +kernel)]; kernel_rfl) | (rw [if_neg (by decide +kernel)]; exact ⟨rfl, rfl⟩))
    (fun os started H enc _ F => lifted os started H enc F)

theorem proved : Rows.MergePartsUptoSaid := over
#print axioms proved
end Go.Proofs.Ytedelkifadonjaa.mergeParts
