/-
  'lecternlaw01.FsNone': whatever operation and plan are handed in, the call returns true and leaves what was there as it was: a file system that nobody made has died.
  Conditions: none beyond the form's own (the row bears no condition).
-/
import Derived.Test.YtaanmnplfppdeaaRows
import Derived.Test.YtaanmnplfppdeaaFsNoW
import Derived.Test.YtaanmnplfppdeaaOpenS
import Derived.ShutString
namespace Go.Proofs.Ytaanmnplfppdeaa.fsNone
open Go.ChangeShapes Go.WideShapes Go.ChangeAt Go.RowKit Go.Lec

theorem own : ownKnob Try.prog.godebug = none := by kernel_rfl
theorem laidOut : laidOutB Try.prog = true := by kernel_rfl

set_option maxRecDepth 100000 in
theorem lifted (os : Os) (started : os.Started) (H : Type) (enc : TypeId × Value → H) :
    ReturnsInHanded {} Try.checked os 3 .any (Rows.fsNoneSpec.pre6 enc Try.prog Try.f3 Rows.fsNoneRow.domain false) (Rows.fsNoneSpec.post enc Try.prog Try.f3 false true false false) := by
  refine returnsInHanded_of_change_sized (C := Try.checked) own started (by kernel_rfl) Try.func3
    (ChangeSpec.witness6 (enc := enc) (C := Try.checked) false ⟨#[], #[.agg #[.int .i64 0, .string ⟨#[]⟩, .string ⟨#[]⟩, .slice none 0 0, .int .i64 0, .int .i64 0, .slice none 0 0, .slice none 0 0, .slice none 0 0, .int .i64 0], .agg #[.int .i64 0, .slice none 0 0, .slice none 0 0, .slice none 0 0, .int .i64 0]], []⟩ 8 (by kernel_rfl) (by kernel_rfl) (by kernel_rfl) (by kernel_rfl)) ?_
  intro W base args ds gs before hval0 hW hcnd hsz _
  have hval : ∀ (j : Nat) t v, Try.f3.params[j]? = some t → args[j]? = some v → Value.okWide Try.prog W .any base t v := hval0
  have hW' := hW
  obtain ⟨p, q, hA0, hV, rfl, hfz, hnd⟩ := hW
  have hA : DataW.TrodAll enc Try.prog W 0 (fun _ => true) true Try.f3.params.toList args.toList ds p := hA0
  rw [Try.params3] at hA hval
  obtain ⟨v0, vs0, d0, ds0, p0, q0, hargs, rfl, rfl, h0, r0⟩ := trodAll_cons hA
  obtain ⟨v1, vs1, d1, ds1, p1, q1, rfl, rfl, rfl, h1, r1⟩ := trodAll_cons r0
  obtain ⟨rfl, rfl, rfl⟩ := trodAll_nil r1
  obtain rfl : args = #[v0, v1] := by cases args; simp_all
  obtain ⟨rfl, rfl⟩ := trodVars_none hV
  have k0 := h0
  have k1 := h1
  have lt0 : ∀ x ∈ p0, x.block < W.heap.size := by obtain ⟨m, hm⟩ := k0; exact DataW.trod_lt m _ _ _ hm
  have lt1 : ∀ x ∈ p1, x.block < W.heap.size := by obtain ⟨m, hm⟩ := k1; exact DataW.trod_lt m _ _ _ hm
  obtain ⟨cs, rfl, hl0, hc0⟩ := shape_row (ts := [3, 9, 9, 22, 3, 3, 23, 23, 23, 3]) Try.underlying27 (by kernel_rfl) (by kernel_rfl) (hval 0 27 _ rfl rfl)
  obtain ⟨es, rfl, hl1, hc1⟩ := shape_row (ts := [3, 23, 23, 23, 3]) Try.underlying25 (by kernel_rfl) (by kernel_rfl) (hval 1 25 _ rfl rfl)
  obtain ⟨x0, x1, x2, x3, x4, x5, x6, x7, x8, x9, rfl⟩ := len10s hl0
  obtain ⟨y0, y1, y2, y3, y4, rfl⟩ := len5s hl1
  obtain ⟨a0, rfl⟩ := cell_int Try.underlying3 (hc0 0 _ _ rfl rfl)
  obtain ⟨s1, rfl⟩ := cell_string Try.underlying9 (hc0 1 _ _ rfl rfl)
  obtain ⟨s2, rfl⟩ := cell_string Try.underlying9 (hc0 2 _ _ rfl rfl)
  obtain ⟨A3, n3, c3, rfl⟩ := cell_slice Try.underlying22 (hc0 3 _ _ rfl rfl)
  obtain ⟨a4, rfl⟩ := cell_int Try.underlying3 (hc0 4 _ _ rfl rfl)
  obtain ⟨a5, rfl⟩ := cell_int Try.underlying3 (hc0 5 _ _ rfl rfl)
  obtain ⟨A6, n6, c6, rfl⟩ := cell_slice Try.underlying23 (hc0 6 _ _ rfl rfl)
  obtain ⟨A7, n7, c7, rfl⟩ := cell_slice Try.underlying23 (hc0 7 _ _ rfl rfl)
  obtain ⟨A8, n8, c8, rfl⟩ := cell_slice Try.underlying23 (hc0 8 _ _ rfl rfl)
  obtain ⟨a9, rfl⟩ := cell_int Try.underlying3 (hc0 9 _ _ rfl rfl)
  obtain ⟨b0, rfl⟩ := cell_int Try.underlying3 (hc1 0 _ _ rfl rfl)
  obtain ⟨B1, m1, e1, rfl⟩ := cell_slice Try.underlying23 (hc1 1 _ _ rfl rfl)
  obtain ⟨B2, m2, e2, rfl⟩ := cell_slice Try.underlying23 (hc1 2 _ _ rfl rfl)
  obtain ⟨B3, m3, e3, rfl⟩ := cell_slice Try.underlying23 (hc1 3 _ _ rfl rfl)
  obtain ⟨b4, rfl⟩ := cell_int Try.underlying3 (hc1 4 _ _ rfl rfl)
  clear hA0 hval0
  refine (w_FsNone W a0 a4 a5 a9 s1 s2 A3 A6 A7 A8 n3 c3 n6 c6 n7 c7 n8 c8 b0 b4 B1 B2 B3 m1 e1 m2 e2 m3 e3).mono fun e W' ⟨he, bel⟩ => ?_
  subst he
  exact ⟨_, rfl, _, _, _, [], _, [], hW', trodAll_mk1 (shut_bool Try.underlying4 _), (trodAll_cons_mk (Below.trod laidOut (by kernel_rfl) (of_decide_eq_true (by kernel_rfl)) k0 bel lt0) (trodAll_cons_mk (Below.trod laidOut (by kernel_rfl) (of_decide_eq_true (by kernel_rfl)) k1 bel lt1) trodAll_mk0)), rfl, bel.frame _, fun h => by cases h⟩

theorem over : Rows.fsNoneRow.holds Try.pinned (OpenSpec.ofChange Rows.fsNoneSpec) :=
  OpenClaim.holds_of_wide 3 Try.f3 rfl rfl rfl rfl rfl rfl rfl ⟨rfl, rfl, rfl, rfl, rfl⟩ rfl rfl rfl rfl rfl (by kernel_rfl) Try.func3 (by kernel_rfl)
    (of_decide_eq_true (by kernel_rfl)) (by unfold Func.isWrapper; first | (rw [if_pos (by decide +kernel)]; kernel_rfl) | (rw [if_neg (by decide +kernel)]; exact ⟨rfl, rfl⟩))
    (fun os started H enc _ => lifted os started H enc)

theorem proved : Rows.FsNoneSaid := over
#print axioms proved
end Go.Proofs.Ytaanmnplfppdeaa.fsNone
