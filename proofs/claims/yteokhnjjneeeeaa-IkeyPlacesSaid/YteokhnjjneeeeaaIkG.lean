/- Layer 16: Unescape. -/
import Derived.Test.YteokhnjjneeeeaaIkF
namespace Go.Proofs.Yteokhnjjneeeeaa
open Go.RowKit Go.Lec

theorem Below.drewN' {B : Nat} {a w : World} (h : Below B a w) (n : Nat) : Below B a (w.drewN n) := ⟨h.os, h.tape, h.output, h.size, h.block⟩
/-- What Unescape's call of 'guarded' leaves. -/
def UnG (w : World) (l : List UInt8) (e : Ending) (w' : World) : Prop :=
  (∃ s k v, unesc l = some (s, k) ∧ e = .returned (.int .i64 0) ∧ w'.cell? ⟨w.heap.size + 1, 0, none⟩ = some v ∧ w'.cell? ⟨w.heap.size + 2, 0, none⟩ = some (.int .i64 (k : Nat)) ∧ Own w' (w.heap.size + 4) 5 v (bcs s) ∧ Below w.heap.size w w') ∨
  (unesc l = none ∧ e = .returned (.int .i64 160) ∧ Below w.heap.size w w')

theorem c_UnG (w : World) {B : Nat} {A : Option Addr} {n c : Nat} {l : List UInt8} (hr : Rd w B A n (bcs l)) (hB : B ≤ w.heap.size) (hn : n ≤ 1099511627) :
    Calls Try.prog 29 #[.func (.func 33) #[] #[.pointer (some ⟨w.heap.size, 0, none⟩), .pointer (some ⟨w.heap.size + 1, 0, none⟩), .pointer (some ⟨w.heap.size + 2, 0, none⟩)]]
      (((w.alloc (.cells #[.slice A n c] 22)).alloc (.cells #[.slice none 0 0] 22)).alloc (.cells #[.int .i64 0] 3)) (UnG w l) := by
  refine (c_guarded _ 33 _ (UnClo ((((w.alloc (.cells #[.slice A n c] 22)).alloc (.cells #[.slice none 0 0] 22)).alloc (.cells #[.int .i64 0] 3)).alloc (.cells #[.int .i64 0] 27)) (w.heap.size + 1) (w.heap.size + 2) l) ?_ ?_ ?_).mono ?_
  · intro w; simp [go_sem]
  · refine c_UnClo _ w.heap.size (w.heap.size + 1) (w.heap.size + 2) (B := B) (A := A) (n := n) (c := c) ?_ ?_ hn ?_ (v1 := .slice none 0 0) (v2 := .int .i64 0) ?_ ?_ ?_ ?_ (by omega)
    · exact (((hr.alloc hB _).alloc (by simp; omega) _).alloc (by simp; omega) _).alloc (by simp; omega) _
    · simp; omega
    all_goals simp [go_sem]
  · rintro e w' (⟨s, k, v, hu, rfl, h1, h2, ho, hk⟩ | ⟨hu, rfl, hk⟩)
    · exact ⟨.inl rfl, (hk.cell (by simp) (by simp; omega)).trans (by simp [go_sem]), (hk.frozen (by simp) (by simp; omega)).trans (by simp [go_sem])⟩
    · exact ⟨.inr ⟨_, rfl⟩, (hk.cell (by simp) (by simp; omega)).trans (by simp [go_sem]), (hk.frozen (by simp) (by simp; omega)).trans (by simp [go_sem])⟩
  · rintro e w' ⟨e0, w0, (⟨s, k, v, hu, rfl, h1, h2, ho, hk⟩ | ⟨hu, rfl, hk⟩), he⟩
    · rcases he with ⟨_, rfl, rfl⟩ | ⟨err, h, _⟩
      · refine .inl ⟨s, k, v, hu, rfl, ?_, ?_, ?_, ?_⟩
        · rw [World.cell?_setCell_other _ _ _ _ (by simp)]; exact h1
        · rw [World.cell?_setCell_other _ _ _ _ (by simp)]; exact h2
        · refine ownsRow_setCell_below ?_ (by simp) _
          have := ho
          simp only [World.size_alloc] at this
          exact this
        · exact ((((((Below.refl _ _).alloc (Nat.le_refl _) _).alloc (by simp) _).alloc (by simp; omega) _).alloc (by simp; omega) _).trans (hk.below (by simp) (by simp; omega))).setCell (by simp; omega) _
      · cases h
    · rcases he with ⟨h, _⟩ | ⟨err, h, rfl, rfl⟩
      · cases h
      · simp [failVal] at h
        subst h
        exact .inr ⟨hu, rfl, ((((((Below.refl _ _).alloc (Nat.le_refl _) _).alloc (by simp) _).alloc (by simp; omega) _).alloc (by simp; omega) _).trans (hk.below (by simp) (by simp; omega))).setCell (by simp; omega) _⟩

set_option maxHeartbeats 400000 in
theorem c_Unescape (w : World) {B : Nat} {A : Option Addr} {n c : Nat} {l : List UInt8} (hr : Rd w B A n (bcs l)) (hB : B ≤ w.heap.size) (hn : n ≤ 1099511627) :
    Calls Try.prog 15 #[.slice A n c] w (RUnPost w l) := by
  have hmf : ∀ (fn : Fn) (first cap : Array Value) (w : World), (Instr.makeFunc fn first cap).run Try.prog w = .ok (.func fn first cap) w := fun _ _ _ _ => rfl
  go_enter Try.func15, Try.ntmps15
  go_wp2_with fail
  refine (c_UnG w hr hB hn).mono ?_
  rintro e w1 (⟨s, k, v, hu, rfl, h1, h2, ho, hb⟩ | ⟨hu, rfl, hb⟩)
  · have Hu := Lib.hid hu; clear hu
    obtain ⟨Av, cv, rfl, _⟩ := ho.shape
    have h2' : w1.cell? ⟨w.heap.size + 1 + 1, 0, none⟩ = some (.int .i64 (k : Nat)) := h2
    clear h2
    go_wp2
    go_quiet (fail)
    go_wp2
    go_ret3
    exact .inl ⟨s, k, _, Hu.out, rfl, (ho.mono (by omega)).drewN _, Below.drewN' hb _⟩
  · go_wp2
    go_ret3
    exact .inr ⟨hu, rfl, hb⟩
end Go.Proofs.Yteokhnjjneeeeaa
