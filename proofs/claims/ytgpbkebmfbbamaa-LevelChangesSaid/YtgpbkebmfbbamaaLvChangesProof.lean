/-
  'lecternlaw24.LevelChanges': whatever pick and whatever list of files' metas are handed in, the call returns true and leaves what was there as it was: the edit of a compaction drops what was picked and adds what came out of it.
  Conditions: none beyond the form's own (the row bears no condition).
-/
import Derived.Test.YtgpbkebmfbbamaaLvN
import Derived.Test.YtgpbkebmfbbamaaOpenC
import Derived.ShutString
namespace Go.Proofs.Ytgpbkebmfbbamaa.levelChanges
open Go.ChangeShapes Go.WideShapes Go.ChangeAt Go.RowKit Go.Lec

theorem own : ownKnob Try.prog.godebug = none := by kernel_rfl
theorem laidOut : laidOutB Try.prog = true := by kernel_rfl

set_option maxRecDepth 100000 in
theorem lifted (os : Os) (started : os.Started) (H : Type) (enc : TypeId × Value → H) :
    ReturnsInHanded {} Try.checked os 4 .any (Rows.levelChangesSpec.pre6 enc Try.prog Try.f4 Rows.levelChangesRow.domain false) (Rows.levelChangesSpec.post enc Try.prog Try.f4 false true false false) := by
  refine returnsInHanded_of_change_sized (C := Try.checked) own started (by kernel_rfl) Try.func4
    (ChangeSpec.witness6 (enc := enc) (C := Try.checked) false ⟨#[], #[.agg #[.int .i64 0, .slice none 0 0, .slice none 0 0, .slice none 0 0, .slice none 0 0, .bool false], .slice none 0 0], []⟩ 8 (by kernel_rfl) (by kernel_rfl) (by kernel_rfl) (by kernel_rfl)) ?_
  intro W base args ds gs before hval0 hW hcnd hsz _
  have hval : ∀ (j : Nat) t v, Try.f4.params[j]? = some t → args[j]? = some v → Value.okWide Try.prog W .any base t v := hval0
  have hW' := hW
  obtain ⟨p, q, hA0, hV, rfl, hfz, hnd⟩ := hW
  have hA : DataW.TrodAll enc Try.prog W 0 (fun _ => true) true Try.f4.params.toList args.toList ds p := hA0
  rw [Try.params4] at hA hval
  obtain ⟨v0, vs0, d0, ds0, p0, q0, hargs, rfl, rfl, h0, r0⟩ := trodAll_cons hA
  obtain ⟨v1, vs1, d1, ds1, p1, q1, rfl, rfl, rfl, h1, r1⟩ := trodAll_cons r0
  obtain ⟨rfl, rfl, rfl⟩ := trodAll_nil r1
  obtain rfl : args = #[v0, v1] := by cases args; simp_all
  obtain ⟨rfl, rfl⟩ := trodVars_none hV
  have k0 := h0
  have k1 := h1
  have lt0 : ∀ x ∈ p0, x.block < W.heap.size := by obtain ⟨m, hm⟩ := k0; exact DataW.trod_lt m _ _ _ hm
  have lt1 : ∀ x ∈ p1, x.block < W.heap.size := by obtain ⟨m, hm⟩ := k1; exact DataW.trod_lt m _ _ _ hm
  have l0 : Light Try.prog 34 d0 := light_of hsz (j := 0) rfl rfl
  have l1 : Light Try.prog 23 d1 := light_of hsz (j := 1) rfl rfl
  obtain ⟨cs, rfl, hcs⟩ := okWide_struct Try.underlying34 (hval 0 34 _ rfl rfl)
  obtain ⟨b0, b1, b2, rfl⟩ := okWide_slice Try.underlying23 (hval 1 23 _ rfl rfl)
  obtain ⟨m0, t0⟩ := h0
  obtain ⟨m1, t1⟩ := h1
  obtain ⟨hlen, n, hf⟩ := open_fields Try.underlying34 (by kernel_rfl) (by kernel_rfl) t0 l0
  obtain ⟨c0, c1, c2, c3, c4, c5, hl⟩ := len6 hlen
  rw [hl] at hf
  obtain ⟨u0, y0, e0, g0, w0⟩ := hf 0 _ rfl
  obtain ⟨u1, y1, e1, g1, w1⟩ := hf 1 _ rfl
  obtain ⟨u2, y2, e2, g2, w2⟩ := hf 2 _ rfl
  obtain ⟨u3, y3, e3, g3, w3⟩ := hf 3 _ rfl
  obtain ⟨u4, y4, e4, g4, w4⟩ := hf 4 _ rfl
  obtain ⟨u5, y5, e5, g5, w5⟩ := hf 5 _ rfl
  obtain rfl := Option.some.inj e0
  obtain rfl := Option.some.inj e1
  obtain rfl := Option.some.inj e2
  obtain rfl := Option.some.inj e3
  obtain rfl := Option.some.inj e4
  obtain rfl := Option.some.inj e5
  obtain rfl : cs = #[c0, c1, c2, c3, c4, c5] := by
    have : cs.toList = [c0, c1, c2, c3, c4, c5] := hl
    cases cs; simp_all
  clear hf e0 e1 e2 e3 e4 e5 hlen hl hcs
  obtain ⟨lv, h, _, hwf⟩ := DataW.trod_int Try.underlying3 g0
  obtain rfl : c0 = .int .i64 lv := by simpa using h
  obtain ⟨AU, nU, cU, U, rfl, _, kU, hU⟩ := open_intsL Try.underlying32 Try.underlying3 (by kernel_rfl) (by kernel_rfl) g1 w1
  obtain ⟨AL, nL, cL, Lo, rfl, _, kL, hL⟩ := open_intsL Try.underlying32 Try.underlying3 (by kernel_rfl) (by kernel_rfl) g2 w2
  obtain ⟨AF, nF, cF, _, rfl, _, _, _⟩ := open_bytesL Try.underlying22 Try.underlying5 (by kernel_rfl) (by kernel_rfl) g3 w3
  obtain ⟨AE, nE, cE, _, rfl, _, _, _⟩ := open_bytesL Try.underlying22 Try.underlying5 (by kernel_rfl) (by kernel_rfl) g4 w4
  obtain ⟨bt, h, _, _⟩ := DataW.trod_bool Try.underlying4 g5
  obtain rfl : c5 = .bool bt := by simpa using h
  obtain ⟨A, n', c, L, he, _, kn, hr⟩ := open_metas Try.underlying23 Try.underlying44 (by kernel_rfl) (by kernel_rfl) (of_decide_eq_true (by kernel_rfl)) rfl rfl rfl rfl rfl Try.underlying3 Try.underlying22 Try.underlying5 (by kernel_rfl) (by kernel_rfl) t1 l1
  simp only [Value.slice.injEq] at he
  obtain ⟨rfl, rfl, rfl⟩ := he
  have hlo : -9223372036854775808 ≤ lv := by
    simp [Lit.wf, IntKind.min, IntKind.max, IntKind.signed, IntKind.bits] at hwf
    omega
  clear hA0 hval0
  refine (w_LevelChanges W hU hL hr (Nat.le_refl _) kU kL kn hlo).mono fun e W' ⟨he, bel⟩ => ?_
  subst he
  exact ⟨_, rfl, _, _, _, [], _, [], hW', trodAll_mk1 (shut_bool Try.underlying4 _), (trodAll_cons_mk (Below.trod laidOut (by kernel_rfl) (of_decide_eq_true (by kernel_rfl)) k0 bel lt0) (trodAll_cons_mk (Below.trod laidOut (by kernel_rfl) (of_decide_eq_true (by kernel_rfl)) k1 bel lt1) trodAll_mk0)), rfl, bel.frame _, fun h => by cases h⟩

theorem over : Rows.levelChangesRow.holds Try.pinned (OpenSpec.ofChange Rows.levelChangesSpec) :=
  OpenClaim.holds_of_wide 4 Try.f4 rfl rfl rfl rfl rfl rfl rfl ⟨rfl, rfl, rfl, rfl, rfl⟩ rfl rfl rfl rfl rfl (by kernel_rfl) Try.func4 (by kernel_rfl)
    (of_decide_eq_true (by kernel_rfl)) (by unfold Func.isWrapper; first | (rw [if_pos (by decide +kernel)]; kernel_rfl) | (rw [if_neg (by decide +kernel)]; exact ⟨rfl, rfl⟩))
    (fun os started H enc _ => lifted os started H enc)

theorem proved : Rows.LevelChangesSaid := over
#print axioms proved
end Go.Proofs.Ytgpbkebmfbbamaa.levelChanges
