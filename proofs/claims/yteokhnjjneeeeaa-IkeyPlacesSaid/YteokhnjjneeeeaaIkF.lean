/- Layer 16: 'guarded', which answers what was thrown, and the readers that stand on it. -/
import Derived.Test.YteokhnjjneeeeaaIkE
import Derived.Recover
namespace Go.Proofs.Yteokhnjjneeeeaa
open Go.RowKit Go.Lec

theorem catch_panicking (p : Addr) (x err : Int) (w : World) (hc : w.cell? p = some (.int .i64 x)) (hz : w.frozen? p = false) :
    CallsD Try.prog 36 #[.pointer (some p)] (.panicking [{ v := failVal err, recovered := false }]) w fun e u' w' =>
      e = .returned (.tuple #[]) ∧ u' = .panicking [{ v := failVal err, recovered := true }] ∧ w' = w.setCell p (.int .i64 err) := by
  refine callsD_of_wpS Try.func36 rfl fun c₀ cs hu => ?_
  unfold failVal at hu ⊢
  have hta : ∀ (y : Value) (w : World), (Instr.typeAssert (.iface 62 y) 20 62 false).run Try.prog w = .ok y w := fun _ _ => rfl
  have hfd : ∀ (n : Int) (w : World), (Instr.field 62 (.agg #[.int .i64 n]) 0).run Try.prog w = .ok (.int .i64 n) w := fun _ _ => by kernel_rfl
  apply wpS_seq
  apply wpS_region
  simp [wpOpsS, go_sem, recoverD, hu, Try.ntmps36, Exit.thenS]
  refine wpS_of_wp ?_
  simp only [List.size_toArray, List.length_cons, List.length_nil, Nat.reduceAdd, Nat.reduceSub, Array.replicate_succ, Array.replicate_zero, List.push_toArray, List.append_toArray, List.nil_append, List.cons_append, List.setIfInBounds_toArray, List.set_cons_zero, List.set_cons_succ]
  go_wp2
  simp [bodyPostS, results, Try.results36]
theorem catch_idle (p : Addr) (w : World) :
    CallsD Try.prog 36 #[.pointer (some p)] .returning w fun e u' w' => e = .returned (.tuple #[]) ∧ u' = .returning ∧ w' = w := by
  refine callsD_of_wpS Try.func36 rfl fun c₀ cs hu => ?_
  apply wpS_seq
  apply wpS_region
  simp [wpOpsS, go_sem, recoverD, hu, Try.ntmps36, Exit.thenS]
  refine wpS_of_wp ?_
  simp only [List.size_toArray, List.length_cons, List.length_nil, Nat.reduceAdd, Nat.reduceSub, Array.replicate_succ, Array.replicate_zero, List.push_toArray, List.append_toArray, List.nil_append, List.cons_append, List.setIfInBounds_toArray, List.set_cons_zero, List.set_cons_succ]
  go_wp2
  cases c₀
  simp_all [bodyPostS, results, Try.results36]

/-- What 'guarded' leaves: behind the call, the cell of its own result is laid. R: what is known of the call itself. -/
def GPost (w : World) (R : Ending → World → Prop) (e : Ending) (w' : World) : Prop :=
  ∃ e0 w0, R e0 w0 ∧ ((e0 = .returned (.tuple #[]) ∧ e = .returned (.int .i64 0) ∧ w' = w0.setCell ⟨w.heap.size, 0, none⟩ (.int .i64 0)) ∨
    (∃ err, e0 = .panicked [{ v := failVal err, recovered := false }] ∧ e = .returned (.int .i64 err) ∧ w' = w0.setCell ⟨w.heap.size, 0, none⟩ (.int .i64 err)))

set_option maxHeartbeats 400000 in
theorem c_guarded (w : World) (f : Nat) (caps : Array Value) (R : Ending → World → Prop) (hcf : ∀ w : World, (callFunc f caps).run Try.prog w = .ok (.enter f caps) w) (hcall : Calls Try.prog f caps (w.alloc (.cells #[.int .i64 0] 27)) R)
    (hR : ∀ e w', R e w' → (e = .returned (.tuple #[]) ∨ ∃ err, e = .panicked [{ v := failVal err, recovered := false }]) ∧ w'.cell? ⟨w.heap.size, 0, none⟩ = some (.int .i64 0) ∧ w'.frozen? ⟨w.heap.size, 0, none⟩ = false) :
    Calls Try.prog 29 #[.func (.func f) #[] caps] w (GPost w R) := by
  have hmf : ∀ (fn : Fn) (first cap : Array Value) (w : World), (Instr.makeFunc fn first cap).run Try.prog w = .ok (.func fn first cap) w := fun _ _ _ _ => rfl
  have Hc := Lib.hid hcall
  have HR := Lib.hid hR
  clear hcall hR
  go_enter_defers Try.func29, Try.ntmps29
  go_wp2_with fail
  refine (Hc.out).mono ?_
  intro e0 w0 h0
  obtain ⟨he, hc, hz⟩ := HR.out e0 w0 h0
  rcases he with rfl | ⟨err, rfl⟩
  · go_wp2
    refine leaves_cons (f := 36) (args := #[.pointer (some ⟨w.heap.size, 0, none⟩)]) (by simp) (by simp [go_sem]) ?_
    refine (catch_idle ⟨w.heap.size, 0, none⟩ _).mono ?_
    rintro e u' w'' ⟨rfl, rfl, rfl⟩
    simp [Leaves, settle, results, Try.results29, go_sem]
    rw [World.cell?_setCell_same w0 _ (.int .i64 0) hc]
    exact ⟨_, rfl, _, _, h0, .inl ⟨rfl, rfl, rfl⟩⟩
  · go_wp2
    refine leaves_cons (f := 36) (args := #[.pointer (some ⟨w.heap.size, 0, none⟩)]) (by simp) (by simp [go_sem]) ?_
    refine (catch_panicking ⟨w.heap.size, 0, none⟩ 0 err _ hc hz).mono ?_
    rintro e u' w'' ⟨rfl, rfl, rfl⟩
    simp [Leaves, settle, results, Try.results29, go_sem]
    rw [World.cell?_setCell_same w0 _ (.int .i64 err) hc]
    exact ⟨_, rfl, _, _, h0, .inr ⟨err, rfl, rfl, rfl⟩⟩

/-- The closure that Unescape hands to 'guarded'. -/
def UnClo (W : World) (b1 b2 : Nat) (l : List UInt8) (e : Ending) (w' : World) : Prop :=
  (∃ s k v, unesc l = some (s, k) ∧ e = .returned (.tuple #[]) ∧ w'.cell? ⟨b1, 0, none⟩ = some v ∧ w'.cell? ⟨b2, 0, none⟩ = some (.int .i64 (k : Nat)) ∧ Own w' W.heap.size 5 v (bcs s) ∧ Kb [b1, b2] W w') ∨
  (unesc l = none ∧ e = .panicked [{ v := failVal 160, recovered := false }] ∧ Kb [b1, b2] W w')

set_option maxHeartbeats 400000 in
theorem c_UnClo (W : World) (b0 b1 b2 : Nat) {B : Nat} {A : Option Addr} {n c : Nat} {l : List UInt8} (hr : Rd W B A n (bcs l)) (hB : B ≤ W.heap.size) (hn : n ≤ 1099511627)
    (h0 : W.cell? ⟨b0, 0, none⟩ = some (.slice A n c)) {v1 v2 : Value} (h1 : W.cell? ⟨b1, 0, none⟩ = some v1) (h2 : W.cell? ⟨b2, 0, none⟩ = some v2) (hz1 : W.frozen? ⟨b1, 0, none⟩ = false) (hz2 : W.frozen? ⟨b2, 0, none⟩ = false) (hne : b1 ≠ b2) :
    Calls Try.prog 33 #[.pointer (some ⟨b0, 0, none⟩), .pointer (some ⟨b1, 0, none⟩), .pointer (some ⟨b2, 0, none⟩)] W (UnClo W b1 b2 l) := by
  have l1 := World.block_lt_of_cell? W _ h1
  have l2 := World.block_lt_of_cell? W _ h2
  simp only at l1 l2
  have hne' : b2 ≠ b1 := Ne.symm hne
  go_enter Try.func33, Try.ntmps33
  go_wp2_with fail
  refine (c_unescape W hr hB hn).mono ?_
  rintro e w1 (⟨s, k, v, hu, rfl, hown, hb⟩ | ⟨hu, rfl, hb⟩)
  · have hc1 : w1.cell? ⟨b1, 0, none⟩ = some v1 := (hb.cell l1).trans h1
    have hc2 : w1.cell? ⟨b2, 0, none⟩ = some v2 := (hb.cell l2).trans h2
    have hf1 : w1.frozen? ⟨b1, 0, none⟩ = false := (hb.frozen l1).trans hz1
    have hf2 : w1.frozen? ⟨b2, 0, none⟩ = false := (hb.frozen l2).trans hz2
    have Hu := Lib.hid hu; clear hu
    obtain ⟨Av, cv, rfl, _⟩ := hown.shape
    go_wp2
    go_end0
    refine .inl ⟨s, k, .slice Av (bcs s).length cv, Hu.out, rfl, ?_, ?_, ?_, ?_⟩
    · rw [World.cell?_setCell_other _ _ _ _ (by simp [hne'])]
      exact World.cell?_setCell_same w1 _ _ hc1
    · exact World.cell?_setCell_same (u := v2) _ _ _ (by rw [World.cell?_setCell_other _ _ _ _ (by simp [hne])]; exact hc2)
    · exact ownsRow_setCell_below (ownsRow_setCell_below hown l1 _) l2 _
    · exact ((Kb.of_below hb).setCell (.inl (by simp)) _).setCell (.inl (by simp)) _
  · go_wp2
    exact ⟨rfl, .inr ⟨hu, rfl, Kb.of_below hb⟩⟩
end Go.Proofs.Yteokhnjjneeeeaa
