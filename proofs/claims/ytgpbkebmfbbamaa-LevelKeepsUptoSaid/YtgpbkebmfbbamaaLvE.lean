/- Layer 24: what a comparison puts last; the ends of files. -/
import Derived.Test.YtgpbkebmfbbamaaLvD
namespace Go.Proofs.Ytgpbkebmfbbamaa
open Go.RowKit Go.Lec

set_option maxHeartbeats 800000 in
theorem c_ends1 (w : World) {B : Nat} {a b : Mt} (ha : a.ok w B) (hb : b.ok w B) (hB : B ≤ w.heap.size) :
    Calls Try.prog 49 #[.agg #[.int .i64 a.num, .int .i64 a.size, .int .i64 a.cnt, .slice a.A1 a.n1 a.c1, .slice a.A2 a.n2 a.c2], .agg #[.int .i64 b.num, .int .i64 b.size, .int .i64 b.cnt, .slice b.A1 b.n1 b.c1, .slice b.A2 b.n2 b.c2]] w fun e w' => e = .returned (.int .i64 (Lib.compareBytes b.first a.first)) ∧ Below w.heap.size w w' := by
  have hk1 := (Bk.new_ w 44 #[.int .i64 a.num, .int .i64 a.size, .int .i64 a.cnt, .slice a.A1 a.n1 a.c1, .slice a.A2 a.n2 a.c2])
  have hk2 := (Bk.new_ (w.alloc (.cells #[.int .i64 a.num, .int .i64 a.size, .int .i64 a.cnt, .slice a.A1 a.n1 a.c1, .slice a.A2 a.n2 a.c2] 44)) 44 #[.int .i64 b.num, .int .i64 b.size, .int .i64 b.cnt, .slice b.A1 b.n1 b.c1, .slice b.A2 b.n2 b.c2]).cell
  have hk3 := (hk1.alloc (.cells #[.int .i64 b.num, .int .i64 b.size, .int .i64 b.cnt, .slice b.A1 b.n1 b.c1, .slice b.A2 b.n2 b.c2] 44)).cell
  rw [World.size_alloc] at hk2
  have ha' := (ha.alloc hB (.cells #[.int .i64 a.num, .int .i64 a.size, .int .i64 a.cnt, .slice a.A1 a.n1 a.c1, .slice a.A2 a.n2 a.c2] 44)).alloc (by simp; omega) (.cells #[.int .i64 b.num, .int .i64 b.size, .int .i64 b.cnt, .slice b.A1 b.n1 b.c1, .slice b.A2 b.n2 b.c2] 44)
  have hb' := (hb.alloc hB (.cells #[.int .i64 a.num, .int .i64 a.size, .int .i64 a.cnt, .slice a.A1 a.n1 a.c1, .slice a.A2 a.n2 a.c2] 44)).alloc (by simp; omega) (.cells #[.int .i64 b.num, .int .i64 b.size, .int .i64 b.cnt, .slice b.A1 b.n1 b.c1, .slice b.A2 b.n2 b.c2] 44)
  go_enter Try.func49, Try.ntmps49
  go_wp2_with fail
  refine (c_bCompare _ hb'.1 ha'.1).mono ?_
  rintro e w' ⟨rfl, rfl⟩
  go_wp2
  go_ret
  exact ⟨rfl, ((Below.refl _ _).alloc (Nat.le_refl _) _).alloc (by simp) _⟩

set_option maxHeartbeats 800000 in
theorem c_ends2 (w : World) {B : Nat} {a b : Mt} (ha : a.ok w B) (hb : b.ok w B) (hB : B ≤ w.heap.size) :
    Calls Try.prog 51 #[.agg #[.int .i64 a.num, .int .i64 a.size, .int .i64 a.cnt, .slice a.A1 a.n1 a.c1, .slice a.A2 a.n2 a.c2], .agg #[.int .i64 b.num, .int .i64 b.size, .int .i64 b.cnt, .slice b.A1 b.n1 b.c1, .slice b.A2 b.n2 b.c2]] w fun e w' => e = .returned (.int .i64 (Lib.compareBytes a.last b.last)) ∧ Below w.heap.size w w' := by
  have hk1 := (Bk.new_ w 44 #[.int .i64 a.num, .int .i64 a.size, .int .i64 a.cnt, .slice a.A1 a.n1 a.c1, .slice a.A2 a.n2 a.c2])
  have hk2 := (Bk.new_ (w.alloc (.cells #[.int .i64 a.num, .int .i64 a.size, .int .i64 a.cnt, .slice a.A1 a.n1 a.c1, .slice a.A2 a.n2 a.c2] 44)) 44 #[.int .i64 b.num, .int .i64 b.size, .int .i64 b.cnt, .slice b.A1 b.n1 b.c1, .slice b.A2 b.n2 b.c2]).cell
  have hk3 := (hk1.alloc (.cells #[.int .i64 b.num, .int .i64 b.size, .int .i64 b.cnt, .slice b.A1 b.n1 b.c1, .slice b.A2 b.n2 b.c2] 44)).cell
  rw [World.size_alloc] at hk2
  have ha' := (ha.alloc hB (.cells #[.int .i64 a.num, .int .i64 a.size, .int .i64 a.cnt, .slice a.A1 a.n1 a.c1, .slice a.A2 a.n2 a.c2] 44)).alloc (by simp; omega) (.cells #[.int .i64 b.num, .int .i64 b.size, .int .i64 b.cnt, .slice b.A1 b.n1 b.c1, .slice b.A2 b.n2 b.c2] 44)
  have hb' := (hb.alloc hB (.cells #[.int .i64 a.num, .int .i64 a.size, .int .i64 a.cnt, .slice a.A1 a.n1 a.c1, .slice a.A2 a.n2 a.c2] 44)).alloc (by simp; omega) (.cells #[.int .i64 b.num, .int .i64 b.size, .int .i64 b.cnt, .slice b.A1 b.n1 b.c1, .slice b.A2 b.n2 b.c2] 44)
  go_enter Try.func51, Try.ntmps51
  go_wp2_with fail
  refine (c_bCompare _ ha'.2.1 hb'.2.1).mono ?_
  rintro e w' ⟨rfl, rfl⟩
  go_wp2
  go_ret
  exact ⟨rfl, ((Below.refl _ _).alloc (Nat.le_refl _) _).alloc (by simp) _⟩

set_option maxHeartbeats 800000 in
theorem c_upper1 (w : World) {a b : Mt} :
    Calls Try.prog 47 #[.agg #[.int .i64 a.num, .int .i64 a.size, .int .i64 a.cnt, .slice a.A1 a.n1 a.c1, .slice a.A2 a.n2 a.c2], .agg #[.int .i64 b.num, .int .i64 b.size, .int .i64 b.cnt, .slice b.A1 b.n1 b.c1, .slice b.A2 b.n2 b.c2]] w fun e w' => e = .returned (.int .i64 (cmpI b.num a.num)) ∧ Below w.heap.size w w' := by
  have hk1 := (Bk.new_ w 44 #[.int .i64 a.num, .int .i64 a.size, .int .i64 a.cnt, .slice a.A1 a.n1 a.c1, .slice a.A2 a.n2 a.c2])
  have hk2 := (Bk.new_ (w.alloc (.cells #[.int .i64 a.num, .int .i64 a.size, .int .i64 a.cnt, .slice a.A1 a.n1 a.c1, .slice a.A2 a.n2 a.c2] 44)) 44 #[.int .i64 b.num, .int .i64 b.size, .int .i64 b.cnt, .slice b.A1 b.n1 b.c1, .slice b.A2 b.n2 b.c2]).cell
  have hk3 := (hk1.alloc (.cells #[.int .i64 b.num, .int .i64 b.size, .int .i64 b.cnt, .slice b.A1 b.n1 b.c1, .slice b.A2 b.n2 b.c2] 44)).cell
  rw [World.size_alloc] at hk2
  go_enter Try.func47, Try.ntmps47
  go_wp2_with fail
  refine (c_cCompare _ _ _).mono ?_
  rintro e w' ⟨rfl, rfl⟩
  go_wp2
  go_ret
  exact ⟨rfl, ((Below.refl _ _).alloc (Nat.le_refl _) _).alloc (by simp) _⟩

/-- The closure that turns a comparison round. -/
theorem c_mostC (w : World) (g bx : Nat) (r : Int) {a b : Mt} {T : TypeId} (hx : Bk w bx T #[.func (.func g) #[] #[]])
    (hcf : ∀ (args : Array Value) (w : World), (callFunc g args).run Try.prog w = .ok (.enter g args) w)
    (hg : ∀ (W : World), Below w.heap.size w W → Calls Try.prog g #[.agg #[.int .i64 b.num, .int .i64 b.size, .int .i64 b.cnt, .slice b.A1 b.n1 b.c1, .slice b.A2 b.n2 b.c2], .agg #[.int .i64 a.num, .int .i64 a.size, .int .i64 a.cnt, .slice a.A1 a.n1 a.c1, .slice a.A2 a.n2 a.c2]] W fun e W' => e = .returned (.int .i64 r) ∧ Below W.heap.size W W') :
    Calls Try.prog 65 #[.agg #[.int .i64 a.num, .int .i64 a.size, .int .i64 a.cnt, .slice a.A1 a.n1 a.c1, .slice a.A2 a.n2 a.c2], .agg #[.int .i64 b.num, .int .i64 b.size, .int .i64 b.cnt, .slice b.A1 b.n1 b.c1, .slice b.A2 b.n2 b.c2], .pointer (some ⟨bx, 0, none⟩)] w fun e w' => e = .returned (.int .i64 r) ∧ Below w.heap.size w w' := by
  have hk1 := (Bk.new_ w 44 #[.int .i64 a.num, .int .i64 a.size, .int .i64 a.cnt, .slice a.A1 a.n1 a.c1, .slice a.A2 a.n2 a.c2])
  have hk2 := (Bk.new_ (w.alloc (.cells #[.int .i64 a.num, .int .i64 a.size, .int .i64 a.cnt, .slice a.A1 a.n1 a.c1, .slice a.A2 a.n2 a.c2] 44)) 44 #[.int .i64 b.num, .int .i64 b.size, .int .i64 b.cnt, .slice b.A1 b.n1 b.c1, .slice b.A2 b.n2 b.c2]).cell
  have hk3 := (hk1.alloc (.cells #[.int .i64 b.num, .int .i64 b.size, .int .i64 b.cnt, .slice b.A1 b.n1 b.c1, .slice b.A2 b.n2 b.c2] 44)).cell
  have hk4 := ((hx.alloc (.cells #[.int .i64 a.num, .int .i64 a.size, .int .i64 a.cnt, .slice a.A1 a.n1 a.c1, .slice a.A2 a.n2 a.c2] 44)).alloc (.cells #[.int .i64 b.num, .int .i64 b.size, .int .i64 b.cnt, .slice b.A1 b.n1 b.c1, .slice b.A2 b.n2 b.c2] 44)).cell
  rw [World.size_alloc] at hk2
  have hB : Below w.heap.size w ((w.alloc (.cells #[.int .i64 a.num, .int .i64 a.size, .int .i64 a.cnt, .slice a.A1 a.n1 a.c1, .slice a.A2 a.n2 a.c2] 44)).alloc (.cells #[.int .i64 b.num, .int .i64 b.size, .int .i64 b.cnt, .slice b.A1 b.n1 b.c1, .slice b.A2 b.n2 b.c2] 44)) := ((Below.refl _ _).alloc (Nat.le_refl _) _).alloc (by simp) _
  go_enter Try.func65, Try.ntmps65
  go_wp2_with fail
  refine (hg _ hB).mono ?_
  rintro e w' ⟨rfl, hb⟩
  go_wp2
  go_ret
  exact ⟨rfl, hB.trans (hb.mono hB.size)⟩

set_option maxHeartbeats 800000 in
/-- What a comparison puts last. -/
theorem c_most (w : World) {B : Nat} {A : Option Addr} {n c : Nat} {L : List Mt} (hr : Mts w B A n L) (hB : B ≤ w.heap.size) (hn : n ≤ 1099511627) (h0 : 0 < n) (g : Nat) (cmp : Mt → Mt → Int)
    (hcf : ∀ (args : Array Value) (w : World), (callFunc g args).run Try.prog w = .ok (.enter g args) w)
    (hg : ∀ (W : World) (a b : Mt), a ∈ L → b ∈ L → Below w.heap.size w W → Calls Try.prog g #[.agg #[.int .i64 a.num, .int .i64 a.size, .int .i64 a.cnt, .slice a.A1 a.n1 a.c1, .slice a.A2 a.n2 a.c2], .agg #[.int .i64 b.num, .int .i64 b.size, .int .i64 b.cnt, .slice b.A1 b.n1 b.c1, .slice b.A2 b.n2 b.c2]] W fun e W' => e = .returned (.int .i64 (cmp a b)) ∧ Below W.heap.size W W') :
    Calls Try.prog 46 #[.slice A n c, .func (.func g) #[] #[]] w fun e w' => ∃ m, minL (fun a b => cmp b a) L = some m ∧ e = .returned (.agg #[.int .i64 m.num, .int .i64 m.size, .int .i64 m.cnt, .slice m.A1 m.n1 m.c1, .slice m.A2 m.n2 m.c2]) ∧ Below w.heap.size w w' := by
  have hmf : ∀ (fn : Fn) (first cap : Array Value) (w : World), (Instr.makeFunc fn first cap).run Try.prog w = .ok (.func fn first cap) w := fun _ _ _ _ => rfl
  have hX0 := (Bk.new_ w 100 #[.func (.func g) #[] #[]])
  have hX1 := hX0.alloc (.cells #[.int .i64 0, .int .i64 0, .int .i64 0, .slice none 0 0, .slice none 0 0] 44)
  have hR1 := (Bk.new_ (w.alloc (.cells #[.func (.func g) #[] #[]] 100)) 44 #[.int .i64 0, .int .i64 0, .int .i64 0, .slice none 0 0, .slice none 0 0])
  rw [World.size_alloc] at hR1
  have hB1 : Below w.heap.size w ((w.alloc (.cells #[.func (.func g) #[] #[]] 100)).alloc (.cells #[.int .i64 0, .int .i64 0, .int .i64 0, .slice none 0 0, .slice none 0 0] 44)) := ((Below.refl _ _).alloc (Nat.le_refl _) _).alloc (by simp) _
  have hr1 := (hr.alloc hB (.cells #[.func (.func g) #[] #[]] 100)).alloc (by simp; omega) (.cells #[.int .i64 0, .int .i64 0, .int .i64 0, .slice none 0 0, .slice none 0 0] 44)
  go_enter Try.func46, Try.ntmps46
  go_wp2_with fail
  refine (c_MinFunc _ hr1 (by simp; omega) hn h0 65 (.pointer (some ⟨w.heap.size, 0, none⟩)) (fun a b => cmp b a) (fun _ _ => by simp [go_sem]) ?_).mono ?_
  · intro W a b ha hb' hW
    rw [World.size_alloc, World.size_alloc] at hW
    refine c_mostC W g w.heap.size (cmp b a) (hX1.below hW (by omega)) hcf fun W' hW' => ?_
    exact hg W' b a hb' ha ((hB1.trans (hW.mono (by omega))).trans (hW'.mono (by have := hW.size; simp at this; omega)))
  · rintro e w' ⟨m, hm, rfl, hb⟩
    rw [World.size_alloc, World.size_alloc] at hb
    have hR2 := hR1.below hb (by omega)
    have hR := hR2.cell
    have hRz := hR2.frz
    have hb2 := hB1.trans (hb.mono (by omega))
    go_wp2
    refine bodyPost_ret (v := .agg #[.int .i64 m.num, .int .i64 m.size, .int .i64 m.cnt, .slice m.A1 m.n1 m.c1, .slice m.A2 m.n2 m.c2]) ?_ rfl ?_
    · simp [results, Try.results46, go_sem, hR]
    · exact ⟨m, hm, rfl, ((((hb2.setCell (by dsimp only; omega) _).setCell (by dsimp only; omega) _).setCell (by dsimp only; omega) _).setCell (by dsimp only; omega) _).setCell (by dsimp only; omega) _⟩
end Go.Proofs.Ytgpbkebmfbbamaa
