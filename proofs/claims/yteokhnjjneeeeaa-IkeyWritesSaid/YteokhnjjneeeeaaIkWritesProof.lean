/-
  'lecternlaw16.IkeyWrites': whatever internal key is handed in, the call returns true and leaves what was there as it was: a key is written by the program just as the reference writes it, or refused with the same error, and what is written is read back as it was.
  Conditions: none beyond the form's own (the row bears no condition).
-/
import Derived.Test.YteokhnjjneeeeaaIkN
import Derived.Test.YteokhnjjneeeeaaOpen
import Derived.ShutString
namespace Go.Proofs.Yteokhnjjneeeeaa.ikeyWrites
open Go.ChangeShapes Go.WideShapes Go.ChangeAt Go.RowKit Go.Lec

theorem own : ownKnob Try.prog.godebug = none := by kernel_rfl
theorem laidOut : laidOutB Try.prog = true := by kernel_rfl

set_option maxRecDepth 100000 in
theorem lifted (os : Os) (started : os.Started) (H : Type) (enc : TypeId × Value → H) :
    ReturnsInHanded {} Try.checked os 3 .any (Rows.ikeyWritesSpec.pre6 enc Try.prog Try.f3 Rows.ikeyWritesRow.domain false) (Rows.ikeyWritesSpec.post enc Try.prog Try.f3 false true false false) := by
  refine returnsInHanded_of_change (C := Try.checked) own started (by kernel_rfl) Try.func3
    (ChangeSpec.witness6 (enc := enc) (C := Try.checked) false ⟨#[], #[.agg #[.int .i64 0, .slice none 0 0, .int .i64 0, .int .i64 0, .string ⟨#[]⟩]], []⟩ 8 (by kernel_rfl) (by kernel_rfl) (by kernel_rfl) (by kernel_rfl)) ?_
  intro W base args ds gs before hval0 hW hcnd _
  have hval : ∀ (j : Nat) t v, Try.f3.params[j]? = some t → args[j]? = some v → Value.okWide Try.prog W .any base t v := hval0
  have hW' := hW
  obtain ⟨p, q, hA0, hV, rfl, hfz, hnd⟩ := hW
  have hA : DataW.TrodAll enc Try.prog W 0 (fun _ => true) true Try.f3.params.toList args.toList ds p := hA0
  rw [Try.params3] at hA hval
  obtain ⟨v0, vs0, d0, ds0, p0, q0, hargs, rfl, rfl, h0, r0⟩ := trodAll_cons hA
  obtain ⟨rfl, rfl, rfl⟩ := trodAll_nil r0
  obtain rfl : args = #[v0] := by cases args; simp_all
  obtain ⟨rfl, rfl⟩ := trodVars_none hV
  have k0 := h0
  have lt0 : ∀ x ∈ p0, x.block < W.heap.size := by obtain ⟨m, hm⟩ := k0; exact DataW.trod_lt m _ _ _ hm
  obtain ⟨cs, n, rfl, hlen, hf⟩ := open_flat Try.underlying24 (by kernel_rfl) (by kernel_rfl) (hval 0 24 _ rfl rfl) h0
  obtain ⟨c0, c1, c2, c3, c4, rfl⟩ := len5 hlen
  obtain ⟨u0, y0, e0, t0⟩ := hf 0 _ rfl
  obtain ⟨u1, y1, e1, t1⟩ := hf 1 _ rfl
  obtain ⟨u2, y2, e2, t2⟩ := hf 2 _ rfl
  obtain ⟨u3, y3, e3, t3⟩ := hf 3 _ rfl
  obtain ⟨u4, y4, e4, t4⟩ := hf 4 _ rfl
  obtain rfl := some_eq e0
  obtain rfl := some_eq e1
  obtain rfl := some_eq e2
  obtain rfl := some_eq e3
  obtain rfl := some_eq e4
  clear hf e0 e1 e2 e3 e4 hlen
  obtain ⟨ep, h, _, _⟩ := DataW.trod_int Try.underlying3 t0
  obtain rfl : c0 = .int .i64 ep := by simpa using h
  obtain ⟨A, ln, cp, l, rfl, hlc, _, hrd⟩ := open_bytes Try.underlying22 Try.underlying5 (by kernel_rfl) t1
  obtain ⟨sq, h, _, _⟩ := DataW.trod_int Try.underlying3 t2
  obtain rfl : c2 = .int .i64 sq := by simpa using h
  obtain ⟨kd, h, _, _⟩ := DataW.trod_int Try.underlying3 t3
  obtain rfl : c3 = .int .i64 kd := by simpa using h
  obtain ⟨s, h, _, _⟩ := DataW.trod_string Try.underlying9 t4
  obtain rfl : c4 = .string s := by simpa using h
  obtain ⟨⟨t⟩⟩ := s
  clear hA0 hval0
  refine (w_IkeyWrites W ep sq kd (t := t) hrd (Nat.le_refl _)).mono fun e W' ⟨he, bel⟩ => ?_
  subst he
  exact ⟨_, rfl, _, _, _, [], _, [], hW', trodAll_mk1 (shut_bool Try.underlying4 _), (trodAll_cons_mk (Below.trod laidOut (by kernel_rfl) (of_decide_eq_true (by kernel_rfl)) k0 bel lt0) trodAll_mk0), rfl, bel.frame _, fun h => by cases h⟩

theorem over : Rows.ikeyWritesRow.holds Try.pinned (OpenSpec.ofChange Rows.ikeyWritesSpec) :=
  OpenClaim.holds_of_wide 3 Try.f3 rfl rfl rfl rfl rfl rfl rfl ⟨rfl, rfl, rfl, rfl, rfl⟩ rfl rfl rfl rfl rfl (by kernel_rfl) Try.func3 (by kernel_rfl)
    (of_decide_eq_true (by kernel_rfl)) (by unfold Func.isWrapper; first | (rw [if_pos (by decide +kernel)]; kernel_rfl) | (rw [if_neg (by decide +kernel)]; exact ⟨rfl, rfl⟩))
    (fun os started H enc _ => lifted os started H enc)

theorem proved : Rows.IkeyWritesSaid := over
#print axioms proved
end Go.Proofs.Yteokhnjjneeeeaa.ikeyWrites
