/- Package codec: what 'must' throws, and 'guarded', which answers what was thrown. -/
import Derived.Test.YtjcifmbbdofjiaaCdB
import Derived.Recover
namespace Go.Proofs.Ytjcifmbbdofjiaa
open Go.RowKit Go.Lec

/-- What the package throws. -/
def cdFailVal (e : Int) : Value := .iface 121 (.agg #[.int .i64 e])
set_option maxRecDepth 40000 in
theorem c_cdMust_ok (b : Bool) (err : Int) (w : World) (h : b = true) : Calls Try.prog 81 #[.bool b, .int .i64 err] w fun e w' => e = .returned (.tuple #[]) ∧ w = w' := by
  subst h
  go_enter Try.func81, Try.ntmps81
  go_wp2
  go_end0
  exact ⟨rfl, rfl⟩
set_option maxRecDepth 40000 in
theorem c_cdMust_no (b : Bool) (err : Int) (w : World) (h : b = false) : Calls Try.prog 81 #[.bool b, .int .i64 err] w fun e w' => e = .panicked [{ v := cdFailVal err, recovered := false }] ∧ w = w' := by
  subst h
  go_enter Try.func81, Try.ntmps81
  go_wp2
  exact ⟨rfl, rfl, rfl⟩

set_option maxRecDepth 100000 in
theorem cdCatch_panicking (p : Addr) (x err : Int) (w : World) (hc : w.cell? p = some (.int .i64 x)) (hz : w.frozen? p = false) :
    CallsD Try.prog 86 #[.pointer (some p)] (.panicking [{ v := cdFailVal err, recovered := false }]) w fun e u' w' =>
      e = .returned (.tuple #[]) ∧ u' = .panicking [{ v := cdFailVal err, recovered := true }] ∧ w' = w.setCell p (.int .i64 err) := by
  refine callsD_of_wpS Try.func86 rfl fun c₀ cs hu => ?_
  unfold cdFailVal at hu ⊢
  have hta : ∀ (y : Value) (w : World), (Instr.typeAssert (.iface 121 y) 20 121 false).run Try.prog w = .ok y w := fun _ _ => rfl
  have hfd : ∀ (n : Int) (w : World), (Instr.field 121 (.agg #[.int .i64 n]) 0).run Try.prog w = .ok (.int .i64 n) w := fun _ _ => by kernel_rfl
  apply wpS_seq
  apply wpS_region
  simp [wpOpsS, go_sem, recoverD, hu, Try.ntmps86, Exit.thenS]
  refine wpS_of_wp ?_
  simp only [List.size_toArray, List.length_cons, List.length_nil, Nat.reduceAdd, Nat.reduceSub, Array.replicate_succ, Array.replicate_zero, List.push_toArray, List.append_toArray, List.nil_append, List.cons_append, List.setIfInBounds_toArray, List.set_cons_zero, List.set_cons_succ]
  go_wp2
  simp [bodyPostS, results, Try.results86]
set_option maxRecDepth 100000 in
theorem cdCatch_idle (p : Addr) (w : World) :
    CallsD Try.prog 86 #[.pointer (some p)] .returning w fun e u' w' => e = .returned (.tuple #[]) ∧ u' = .returning ∧ w' = w := by
  refine callsD_of_wpS Try.func86 rfl fun c₀ cs hu => ?_
  apply wpS_seq
  apply wpS_region
  simp [wpOpsS, go_sem, recoverD, hu, Try.ntmps86, Exit.thenS]
  refine wpS_of_wp ?_
  simp only [List.size_toArray, List.length_cons, List.length_nil, Nat.reduceAdd, Nat.reduceSub, Array.replicate_succ, Array.replicate_zero, List.push_toArray, List.append_toArray, List.nil_append, List.cons_append, List.setIfInBounds_toArray, List.set_cons_zero, List.set_cons_succ]
  go_wp2
  cases c₀
  simp_all [bodyPostS, results, Try.results86]

/-- What 'guarded' leaves: behind the call, the cell of its own result is laid. R: what is known of the call itself. -/
def cdGPost (w : World) (R : Ending → World → Prop) (e : Ending) (w' : World) : Prop :=
  ∃ e0 w0, R e0 w0 ∧ ((e0 = .returned (.tuple #[]) ∧ e = .returned (.int .i64 0) ∧ w' = w0.setCell ⟨w.heap.size, 0, none⟩ (.int .i64 0)) ∨
    (∃ err, e0 = .panicked [{ v := cdFailVal err, recovered := false }] ∧ e = .returned (.int .i64 err) ∧ w' = w0.setCell ⟨w.heap.size, 0, none⟩ (.int .i64 err)))

set_option maxRecDepth 40000 in
set_option maxHeartbeats 400000 in
theorem c_cdGuarded (w : World) (f : Nat) (caps : Array Value) (R : Ending → World → Prop) (hcf : ∀ w : World, (callFunc f caps).run Try.prog w = .ok (.enter f caps) w) (hcall : Calls Try.prog f caps (w.alloc (.cells #[.int .i64 0] 26)) R)
    (hR : ∀ e w', R e w' → (e = .returned (.tuple #[]) ∨ ∃ err, e = .panicked [{ v := cdFailVal err, recovered := false }]) ∧ w'.cell? ⟨w.heap.size, 0, none⟩ = some (.int .i64 0) ∧ w'.frozen? ⟨w.heap.size, 0, none⟩ = false) :
    Calls Try.prog 82 #[.func (.func f) #[] caps] w (cdGPost w R) := by
  have hmf : ∀ (fn : Fn) (first cap : Array Value) (w : World), (Instr.makeFunc fn first cap).run Try.prog w = .ok (.func fn first cap) w := fun _ _ _ _ => rfl
  have Hc := Lib.hid hcall
  have HR := Lib.hid hR
  clear hcall hR
  go_enter_defers Try.func82, Try.ntmps82
  go_wp2_with fail
  refine (Hc.out).mono ?_
  intro e0 w0 h0
  obtain ⟨he, hc, hz⟩ := HR.out e0 w0 h0
  rcases he with rfl | ⟨err, rfl⟩
  · go_wp2
    refine leaves_cons (f := 86) (args := #[.pointer (some ⟨w.heap.size, 0, none⟩)]) (by simp) (by simp [go_sem]) ?_
    refine (cdCatch_idle ⟨w.heap.size, 0, none⟩ _).mono ?_
    rintro e u' w'' ⟨rfl, rfl, rfl⟩
    simp [Leaves, settle, results, Try.results82, go_sem]
    rw [World.cell?_setCell_same w0 _ (.int .i64 0) hc]
    exact ⟨_, rfl, _, _, h0, .inl ⟨rfl, rfl, rfl⟩⟩
  · go_wp2
    refine leaves_cons (f := 86) (args := #[.pointer (some ⟨w.heap.size, 0, none⟩)]) (by simp) (by simp [go_sem]) ?_
    refine (cdCatch_panicking ⟨w.heap.size, 0, none⟩ 0 err _ hc hz).mono ?_
    rintro e u' w'' ⟨rfl, rfl, rfl⟩
    simp [Leaves, settle, results, Try.results82, go_sem]
    rw [World.cell?_setCell_same w0 _ (.int .i64 err) hc]
    exact ⟨_, rfl, _, _, h0, .inr ⟨err, rfl, rfl, rfl⟩⟩

end Go.Proofs.Ytjcifmbbdofjiaa
