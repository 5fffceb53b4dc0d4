/-
  'lecternlaw16.IkeyPlaces': whatever epoch, sort key, number, internal key and bytes are handed in, the call returns true and leaves what was there as it was: the bytes that all keys of an epoch, of a sort key, up to a number, begin with or stand behind, are what the document says.
  Conditions: none beyond the form's own (the row bears no condition).
-/
import Derived.Test.YteokhnjjneeeeaaIkR
import Derived.Test.YteokhnjjneeeeaaOpen
import Derived.ShutString
namespace Go.Proofs.Yteokhnjjneeeeaa.ikeyPlaces
open Go.ChangeShapes Go.WideShapes Go.ChangeAt Go.RowKit Go.Lec

theorem own : ownKnob Try.prog.godebug = none := by kernel_rfl
theorem laidOut : laidOutB Try.prog = true := by kernel_rfl

set_option maxRecDepth 100000 in
theorem lifted (os : Os) (started : os.Started) (H : Type) (enc : TypeId × Value → H) :
    ReturnsInHanded {} Try.checked os 5 .any (Rows.ikeyPlacesSpec.pre6 enc Try.prog Try.f5 Rows.ikeyPlacesRow.domain false) (Rows.ikeyPlacesSpec.post enc Try.prog Try.f5 false true false false) := by
  refine returnsInHanded_of_change (C := Try.checked) own started (by kernel_rfl) Try.func5
    (ChangeSpec.witness6 (enc := enc) (C := Try.checked) false ⟨#[], #[.int .i64 0, .slice none 0 0, .int .i64 0, .agg #[.int .i64 0, .slice none 0 0, .int .i64 0, .int .i64 0, .string ⟨#[]⟩], .slice none 0 0], []⟩ 8 (by kernel_rfl) (by kernel_rfl) (by kernel_rfl) (by kernel_rfl)) ?_
  intro W base args ds gs before hval0 hW hcnd _
  have hval : ∀ (j : Nat) t v, Try.f5.params[j]? = some t → args[j]? = some v → Value.okWide Try.prog W .any base t v := hval0
  have hW' := hW
  obtain ⟨p, q, hA0, hV, rfl, hfz, hnd⟩ := hW
  have hA : DataW.TrodAll enc Try.prog W 0 (fun _ => true) true Try.f5.params.toList args.toList ds p := hA0
  rw [Try.params5] at hA hval
  obtain ⟨v0, vs0, d0, ds0, p0, q0, hargs, rfl, rfl, h0, r0⟩ := trodAll_cons hA
  obtain ⟨v1, vs1, d1, ds1, p1, q1, rfl, rfl, rfl, h1, r1⟩ := trodAll_cons r0
  obtain ⟨v2, vs2, d2, ds2, p2, q2, rfl, rfl, rfl, h2, r2⟩ := trodAll_cons r1
  obtain ⟨v3, vs3, d3, ds3, p3, q3, rfl, rfl, rfl, h3, r3⟩ := trodAll_cons r2
  obtain ⟨v4, vs4, d4, ds4, p4, q4, rfl, rfl, rfl, h4, r4⟩ := trodAll_cons r3
  obtain ⟨rfl, rfl, rfl⟩ := trodAll_nil r4
  obtain rfl : args = #[v0, v1, v2, v3, v4] := by cases args; simp_all
  obtain ⟨rfl, rfl⟩ := trodVars_none hV
  have k0 := h0
  have lt0 : ∀ x ∈ p0, x.block < W.heap.size := by obtain ⟨m, hm⟩ := k0; exact DataW.trod_lt m _ _ _ hm
  have k1 := h1
  have lt1 : ∀ x ∈ p1, x.block < W.heap.size := by obtain ⟨m, hm⟩ := k1; exact DataW.trod_lt m _ _ _ hm
  have k2 := h2
  have lt2 : ∀ x ∈ p2, x.block < W.heap.size := by obtain ⟨m, hm⟩ := k2; exact DataW.trod_lt m _ _ _ hm
  have k3 := h3
  have lt3 : ∀ x ∈ p3, x.block < W.heap.size := by obtain ⟨m, hm⟩ := k3; exact DataW.trod_lt m _ _ _ hm
  have k4 := h4
  have lt4 : ∀ x ∈ p4, x.block < W.heap.size := by obtain ⟨m, hm⟩ := k4; exact DataW.trod_lt m _ _ _ hm
  obtain ⟨m0, t0⟩ := h0
  obtain ⟨b0, rfl, _⟩ := okWide_int Try.underlying3 (hval 0 3 _ rfl rfl)
  obtain ⟨m1, t1⟩ := h1
  obtain ⟨b1, e1, g1, rfl⟩ := okWide_slice Try.underlying22 (hval 1 22 _ rfl rfl)
  obtain ⟨A1, ln1, cp1, l1, he1, hlc1, hcm1, hrd1⟩ := open_bytes Try.underlying22 Try.underlying5 (by kernel_rfl) t1
  simp only [Value.slice.injEq] at he1
  obtain ⟨rfl, rfl, rfl⟩ := he1
  obtain ⟨m2, t2⟩ := h2
  obtain ⟨b2, rfl, _⟩ := okWide_int Try.underlying3 (hval 2 3 _ rfl rfl)
  obtain ⟨cs, n, rfl, hlen, hf⟩ := open_flat Try.underlying24 (by kernel_rfl) (by kernel_rfl) (hval 3 24 _ rfl rfl) h3
  obtain ⟨c0, c1, c2, c3, c4, rfl⟩ := len5 hlen
  obtain ⟨u0, y0, e0, f0⟩ := hf 0 _ rfl
  obtain ⟨u1, y1, e1, f1⟩ := hf 1 _ rfl
  obtain ⟨u2, y2, e2, f2⟩ := hf 2 _ rfl
  obtain ⟨u3, y3, e3, f3⟩ := hf 3 _ rfl
  obtain ⟨u4, y4, e4, f4⟩ := hf 4 _ rfl
  obtain rfl := some_eq e0
  obtain rfl := some_eq e1
  obtain rfl := some_eq e2
  obtain rfl := some_eq e3
  obtain rfl := some_eq e4
  clear hf e0 e1 e2 e3 e4 hlen
  obtain ⟨ep, h, _, _⟩ := DataW.trod_int Try.underlying3 f0
  obtain rfl : c0 = .int .i64 ep := by simpa using h
  obtain ⟨A, ln, cp, l, rfl, hlc, _, hrd⟩ := open_bytes Try.underlying22 Try.underlying5 (by kernel_rfl) f1
  obtain ⟨sq, h, _, _⟩ := DataW.trod_int Try.underlying3 f2
  obtain rfl : c2 = .int .i64 sq := by simpa using h
  obtain ⟨kd, h, _, _⟩ := DataW.trod_int Try.underlying3 f3
  obtain rfl : c3 = .int .i64 kd := by simpa using h
  obtain ⟨s, h, _, _⟩ := DataW.trod_string Try.underlying9 f4
  obtain rfl : c4 = .string s := by simpa using h
  obtain ⟨⟨t⟩⟩ := s
  obtain ⟨m4, t4⟩ := h4
  obtain ⟨b4, e4, g4, rfl⟩ := okWide_slice Try.underlying22 (hval 4 22 _ rfl rfl)
  obtain ⟨A4, ln4, cp4, l4, he4, hlc4, hcm4, hrd4⟩ := open_bytes Try.underlying22 Try.underlying5 (by kernel_rfl) t4
  simp only [Value.slice.injEq] at he4
  obtain ⟨rfl, rfl, rfl⟩ := he4
  clear hA0 hval0
  refine (w_IkeyPlaces W b0 b2 ep sq kd (t := t) hrd1 hrd hrd4 (Nat.le_refl _) hlc1 hlc4).mono fun e W' ⟨he, bel⟩ => ?_
  subst he
  exact ⟨_, rfl, _, _, _, [], _, [], hW', trodAll_mk1 (shut_bool Try.underlying4 _), (trodAll_cons_mk (Below.trod laidOut (by kernel_rfl) (of_decide_eq_true (by kernel_rfl)) k0 bel lt0) (trodAll_cons_mk (Below.trod laidOut (by kernel_rfl) (of_decide_eq_true (by kernel_rfl)) k1 bel lt1) (trodAll_cons_mk (Below.trod laidOut (by kernel_rfl) (of_decide_eq_true (by kernel_rfl)) k2 bel lt2) (trodAll_cons_mk (Below.trod laidOut (by kernel_rfl) (of_decide_eq_true (by kernel_rfl)) k3 bel lt3) (trodAll_cons_mk (Below.trod laidOut (by kernel_rfl) (of_decide_eq_true (by kernel_rfl)) k4 bel lt4) trodAll_mk0))))), rfl, bel.frame _, fun h => by cases h⟩

theorem over : Rows.ikeyPlacesRow.holds Try.pinned (OpenSpec.ofChange Rows.ikeyPlacesSpec) :=
  OpenClaim.holds_of_wide 5 Try.f5 rfl rfl rfl rfl rfl rfl rfl ⟨rfl, rfl, rfl, rfl, rfl⟩ rfl rfl rfl rfl rfl (by kernel_rfl) Try.func5 (by kernel_rfl)
    (of_decide_eq_true (by kernel_rfl)) (by unfold Func.isWrapper; first | (rw [if_pos (by decide +kernel)]; kernel_rfl) | (rw [if_neg (by decide +kernel)]; exact ⟨rfl, rfl⟩))
    (fun os started H enc _ => lifted os started H enc)

theorem proved : Rows.IkeyPlacesSaid := over
#print axioms proved
end Go.Proofs.Yteokhnjjneeeeaa.ikeyPlaces
