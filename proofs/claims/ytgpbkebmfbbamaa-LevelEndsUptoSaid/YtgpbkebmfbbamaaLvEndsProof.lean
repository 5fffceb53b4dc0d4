/-
  'lecternlaw24.LevelEnds', where what it reads is of bulk at most 1048576: whatever state and plan are handed in, the call returns true and leaves what was there as it was: where nothing is chosen level 0 has few files, and each level up to 5 is within its limit.
  Conditions: the second form's own (the arguments hold together at most 1048576 values and letters); none besides.
-/
import Derived.Test.YtgpbkebmfbbamaaLvV
import Derived.Test.YtgpbkebmfbbamaaOpenD
import Derived.ShutString
namespace Go.Proofs.Ytgpbkebmfbbamaa.levelEnds
open Go.ChangeShapes Go.WideShapes Go.ChangeAt Go.RowKit Go.Lec

theorem own : ownKnob Try.prog.godebug = none := by kernel_rfl
theorem laidOut : laidOutB Try.prog = true := by kernel_rfl

set_option maxRecDepth 100000 in
theorem contract (H : Type) (enc : TypeId × Value → H) (W : World) (base : Nat) (args : Array Value) (ds gs : List (DataW H)) (before : List MemPlace)
    (hval0 : ∀ (j : Nat) t v, Try.f3.params[j]? = some t → args[j]? = some v → Value.okWide Try.prog W .any base t v)
    (hW : DataW.Whole enc Try.prog Try.f3.params.toList Rows.levelEndsSpec.vars false W args.toList ds gs before) (hk : Rows.uptoSmall H (ds ++ gs) = true) :
    Calls Try.prog 3 args W fun e W' => ∃ v, e = .returned v ∧ Rows.levelEndsSpec.post enc Try.prog Try.f3 false true false false W args v W' := by
  have hval : ∀ (j : Nat) t v, Try.f3.params[j]? = some t → args[j]? = some v → Value.okWide Try.prog W .any base t v := hval0
  have hW' := hW
  obtain ⟨p, q, hA0, hV, rfl, hfz, hnd⟩ := hW
  have hA : DataW.TrodAll enc Try.prog W 0 (fun _ => true) true Try.f3.params.toList args.toList ds p := hA0
  rw [Try.params3] at hA hval
  obtain ⟨v0, vs0, d0, ds0, p0, q0, hargs, rfl, rfl, h0, r0⟩ := trodAll_cons hA
  obtain ⟨v1, vs1, d1, ds1, p1, q1, rfl, rfl, rfl, h1, r1⟩ := trodAll_cons r0
  obtain ⟨rfl, rfl, rfl⟩ := trodAll_nil r1
  obtain rfl : args = #[v0, v1] := by cases args; simp_all
  obtain ⟨rfl, rfl⟩ := trodVars_none hV
  have k0 := h0
  have k1 := h1
  have lt0 : ∀ x ∈ p0, x.block < W.heap.size := by obtain ⟨m, hm⟩ := k0; exact DataW.trod_lt m _ _ _ hm
  have lt1 : ∀ x ∈ p1, x.block < W.heap.size := by obtain ⟨m, hm⟩ := k1; exact DataW.trod_lt m _ _ _ hm
  have l0 : Tiny d0 := tiny_of hk (by simp)
  have l1 : Tiny d1 := tiny_of hk (by simp)
  obtain ⟨cs, rfl, hcs⟩ := okWide_struct Try.underlying26 (hval 0 26 _ rfl rfl)
  obtain ⟨cp, rfl, hcp⟩ := okWide_struct Try.underlying28 (hval 1 28 _ rfl rfl)
  obtain ⟨m0, t0⟩ := h0
  obtain ⟨m1, t1⟩ := h1
  obtain ⟨s, hs, hok⟩ := open_state t0 l0
  obtain rfl : cs = s.arr := by
    have : cs.toList = s.arr.toList := hs
    exact Array.toList_inj.1 this
  obtain ⟨hlen, n, hf⟩ := open_fieldsT Try.underlying28 (by kernel_rfl) (by kernel_rfl) t1 l1
  obtain ⟨c0, c1, c2, c3, hl⟩ := len4 hlen
  rw [hl] at hf
  obtain ⟨u0, y0, e0, g0, w0⟩ := hf 0 _ rfl
  obtain ⟨u1, y1, e1, g1, w1⟩ := hf 1 _ rfl
  obtain ⟨u2, y2, e2, g2, w2⟩ := hf 2 _ rfl
  obtain ⟨u3, y3, e3, g3, w3⟩ := hf 3 _ rfl
  obtain rfl := Option.some.inj e0
  obtain rfl := Option.some.inj e1
  obtain rfl := Option.some.inj e2
  obtain rfl := Option.some.inj e3
  obtain rfl : cp = #[c0, c1, c2, c3] := by
    have : cp.toList = [c0, c1, c2, c3] := hl
    cases cp; simp_all
  clear hf e0 e1 e2 e3 hlen hl hcs hcp hs
  obtain ⟨f, h, _, _⟩ := DataW.trod_int Try.underlying3 g0
  obtain rfl : c0 = .int .i64 f := by simpa using h
  obtain ⟨b, h, _, _⟩ := DataW.trod_int Try.underlying3 g1
  obtain rfl : c1 = .int .i64 b := by simpa using h
  obtain ⟨fa, h, _, _⟩ := DataW.trod_int Try.underlying3 g2
  obtain rfl : c2 = .int .i64 fa := by simpa using h
  obtain ⟨fi, h, _, _⟩ := DataW.trod_int Try.underlying3 g3
  obtain rfl : c3 = .int .i64 fi := by simpa using h
  clear hA0 hval0
  refine (w_LevelEnds W hok (Nat.le_refl _) f b fa fi).mono fun e W' ⟨he, bel⟩ => ?_
  subst he
  exact ⟨_, rfl, _, _, _, [], _, [], hW', trodAll_mk1 (shut_bool Try.underlying4 _), (trodAll_cons_mk (Below.trod laidOut (by kernel_rfl) (of_decide_eq_true (by kernel_rfl)) k0 bel lt0) (trodAll_cons_mk (Below.trod laidOut (by kernel_rfl) (of_decide_eq_true (by kernel_rfl)) k1 bel lt1) trodAll_mk0)), rfl, bel.frame _, fun h => by cases h⟩

set_option maxRecDepth 100000 in
theorem lifted (os : Os) (started : os.Started) (H : Type) (enc : TypeId × Value → H) (F : Stop.Interp) :
    ReturnsInHanded {} Try.checked os 3 .any ((Rows.OpenSpec.upto Rows.levelEndsSpec).pre6 enc Try.prog Try.f3 Rows.levelEndsUptoRow.domain false) (((Rows.OpenSpec.upto Rows.levelEndsSpec).at F).post enc Try.prog Try.f3 false true false false) := by
  refine returnsInHanded_of_cond (C := Try.checked) (s := Rows.OpenSpec.upto Rows.levelEndsSpec) (k := Rows.uptoSmall) rfl own started (by kernel_rfl) Try.func3
    (OpenSpec.witness (enc := enc) (C := Try.checked) (s := Rows.OpenSpec.upto Rows.levelEndsSpec) (k := Rows.uptoSmall) rfl false ⟨#[], #[.agg #[.int .i64 0, .int .i64 0, .int .i64 0, .int .i64 0, .int .i64 0, .string ⟨#[]⟩, .string ⟨#[]⟩, .slice none 0 0, .slice none 0 0, .slice none 0 0, .slice none 0 0, .slice none 0 0, .slice none 0 0, .slice none 0 0, .slice none 0 0], .agg #[.int .i64 0, .int .i64 0, .int .i64 0, .int .i64 0]], []⟩ 8 (by kernel_rfl) (by kernel_rfl) (by kernel_rfl)
      (x := ([.agg [.lit (.int .i64 0), .lit (.int .i64 0), .lit (.int .i64 0), .lit (.int .i64 0), .lit (.int .i64 0), .lit (.string []), .lit (.string []), .nil, .agg [.nil, .nil, .nil, .nil, .nil, .nil, .nil]], .agg [.lit (.int .i64 0), .lit (.int .i64 0), .lit (.int .i64 0), .lit (.int .i64 0)]], [], [])) (by kernel_rfl) rfl (by kernel_rfl)) ?_
  intro W base args ds gs before hval hW _ hk _
  exact contract H enc W base args ds gs before hval hW hk

theorem over : Rows.levelEndsUptoRow.holds Try.pinned (Rows.OpenSpec.upto Rows.levelEndsSpec) :=
  OpenClaim.holds_of_cond 3 Try.f3 rfl rfl rfl rfl rfl rfl rfl ⟨rfl, rfl, rfl, rfl, rfl⟩ rfl rfl rfl rfl rfl (by kernel_rfl) Try.func3 (by kernel_rfl)
    (of_decide_eq_true (by kernel_rfl)) (by unfold Func.isWrapper; first | (rw [if_pos (by decide +kernel)]; kernel_rfl) | (rw [if_neg (by decide +kernel)]; exact ⟨rfl, rfl⟩))
    (fun os started H enc _ F => lifted os started H enc F)

theorem proved : Rows.LevelEndsUptoSaid := over
#print axioms proved
end Go.Proofs.Ytgpbkebmfbbamaa.levelEnds
