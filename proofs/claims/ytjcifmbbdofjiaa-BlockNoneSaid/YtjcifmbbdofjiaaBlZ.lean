/- Layer 20: the walk of BlockNone. -/
import Derived.LoopN
import Derived.Test.YtjcifmbbdofjiaaBlY
namespace Go.Proofs.Ytjcifmbbdofjiaa
open Go.RowKit Go.Lec Go.Op Go.Shelf
attribute [local go_sem] Oper.semAt_some
set_option maxRecDepth 100000 in
set_option maxHeartbeats 4000000 in
theorem w_BlockNone (w : World) {n c : Nat} {A : Option Addr} :
    Calls Try.prog 7 #[.slice A n c] w fun e w' => e = .returned (.bool true) ∧ Below w.heap.size w w' := by
  have hnf := run_neq_seq
  have hb0 := (Below.refl w.heap.size w).alloc (Nat.le_refl _) (.cells #[.bool false] 4)
  have R0 := Bk.new_ w 4 #[.bool false]
  have hz0 : (w.alloc (.cells #[.bool false] 4)).heap.size = w.heap.size + 1 := by simp
  obtain ⟨r, hr⟩ : ∃ x, x = w.heap.size := ⟨_, rfl⟩
  obtain ⟨w0, hw0⟩ : ∃ W, W = w.alloc (.cells #[.bool false] 4) := ⟨_, rfl⟩
  rw [← hw0] at hb0 R0 hz0
  rw [← hr] at R0 hz0
  have HW0 := Lib.hid hw0
  have Hr := Lib.hid hr
  clear hw0 hr
  refine (callsIn_wide (n := 5)).1 ?_
  refine callsIn_of_wp_marks Try.func7 rfl trivial ?_ rfl
  simp only [Try.ntmps7, List.size_toArray, List.length_cons, List.length_nil, Nat.reduceAdd, Nat.reduceSub, Array.replicate_succ, Array.replicate_zero, List.push_toArray, List.append_toArray, List.nil_append, List.cons_append]
  refine wpIn_wide.2 ?_
  go_wp2_with fail
  rw [← HW0.out, ← Hr.out]
  refine (c_awake w0).mono ?_
  rintro e w1 ⟨rfl, hb1⟩
  have hb01 := hb0.trans (hb1.mono (by rw [← Hr.out]; omega))
  have R1 := R0.below hb1 R0.lt
  have hz1 := hb1.size
  have I1 := (Bk.new_ w1 65 #[.int .i64 0, .slice none 0 0, .int .i64 0, .int .i64 0, .int .i64 0]).alloc (.cells #[.pointer none, .pointer (some ⟨w1.heap.size, 0, none⟩)] 45)
  have L1 := Bk.new_ (w1.alloc (.cells #[.int .i64 0, .slice none 0 0, .int .i64 0, .int .i64 0, .int .i64 0] 65)) 45 #[.pointer none, .pointer (some ⟨w1.heap.size, 0, none⟩)]
  have hb2 := ((Below.refl w1.heap.size w1).alloc (Nat.le_refl _) (.cells #[.int .i64 0, .slice none 0 0, .int .i64 0, .int .i64 0, .int .i64 0] 65)).alloc (by simp) (.cells #[.pointer none, .pointer (some ⟨w1.heap.size, 0, none⟩)] 45)
  rw [World.size_alloc] at L1
  have R0lt := R0.lt
  clear R0 HW0 hb0 hb1
  obtain ⟨it, hit⟩ : ∃ x, x = w1.heap.size := ⟨_, rfl⟩
  go_wp2
  rw [← hit] at I1 L1 hb2 ⊢
  obtain ⟨W2, hW2⟩ : ∃ W, W = (w1.alloc (.cells #[.int .i64 0, .slice none 0 0, .int .i64 0, .int .i64 0, .int .i64 0] 65)).alloc (.cells #[.pointer none, .pointer (some ⟨it, 0, none⟩)] 45) := ⟨_, rfl⟩
  have R2 := R1.below hb2 (by have := R1.lt; have := R0lt; omega)
  have hb02 := hb01.trans (hb2.mono (by rw [hit]; exact hb01.size))
  rw [← hW2] at I1 L1 hb2 R2 hb02 ⊢
  have hri : r < it := by have := R1.lt; omega
  have hwr : w.heap.size ≤ r := by rw [Hr.out]; exact Nat.le_refl _
  have Hit := Lib.hid hit
  clear hW2 hit hb01 R1 hz1 hz0
  refine wp_loop_rounds 3 ?_
  rw [rounds_succ]
  have q0 := L1.cell 0
  have l1 := L1.lt
  go_wp2_with (first | (go_at_call 26; refine (c_Pair_no noIt_nil W2 trivial).mono ?_; rintro e x1 ⟨rfl, hx1⟩; have k1 := hx1.alloc hx1.size (.cells #[.slice none 0 0, .slice none 0 0] 35)) | (go_at_call 21; refine (c_First_no noIt_nil _ (noIt_nil.below _ _ trivial k1)).mono ?_; rintro e x2 ⟨rfl, hx2⟩; have k2 := k1.trans (hx2.mono k1.size)) | (go_at_call 22; refine (c_Next_no noIt_nil _ (noIt_nil.below _ _ trivial k2)).mono ?_; rintro e x3 ⟨rfl, hx3⟩; have k3 := k2.trans (hx3.mono k2.size)) | (go_at_call 23; refine (c_Seek_no noIt_nil _ (noIt_nil.below _ _ trivial k3) _).mono ?_; rintro e x4 ⟨rfl, hx4⟩; have k4 := k3.trans (hx4.mono k3.size)) | (go_at_call 20; refine (c_Looked_no noIt_nil _ (noIt_nil.below _ _ trivial k4)).mono ?_; rintro e x5 ⟨rfl, hx5⟩; have k5 := k4.trans (hx5.mono k4.size)) | (go_at_call 27; refine (c_Each x5 none A n c).mono ?_; rintro e x6 ⟨rfl, hx6⟩))
  have hE := (Bk.new_ x5 45 #[.pointer none]).alloc (.cells #[.slice A n c] 25)
  have k6 := (k5.alloc k5.size (.cells #[.pointer none] 45)).alloc (Nat.le_trans k5.size (by simp)) (.cells #[.slice A n c] 25)
  rw [← hx6] at hE k6 ⊢
  have hzx : x5.heap.size < x6.heap.size := hE.lt
  clear hx6
  have R6 := R2.below k6 R2.lt
  have I6 := I1.below k6 I1.lt
  have L6 := L1.below k6 L1.lt
  have hb6 := hb02.trans (k6.mono hb02.size)
  refine (wpIn_wide (n := 5)).1 ?_
  refine wpIn_rangeFunc_ownG (n := 5) rfl (by omega) (gf := 44) (lb := #[.pointer (some ⟨x5.heap.size, 0, none⟩), .pointer (some ⟨x5.heap.size + 1, 0, none⟩)]) rfl trivial (enters_of Try.func44 (by kernel_rfl) rfl)
    (each_none 4 (by omega) x5.heap.size w.heap.size _ noIt_nil x6 hE (noIt_nil.below _ _ trivial k6)) belowK_t (belowK_b (by have := hb6.size; omega)) (Below.refl _ _) (fun x => x.elim)
    (fun pre X => (Bk X r 4 #[.bool false] ∧ Bk X it 65 #[.int .i64 0, .slice none 0 0, .int .i64 0, .int .i64 0, .int .i64 0] ∧ Bk X (it + 1) 45 #[.pointer none, .pointer (some ⟨it, 0, none⟩)]) ∧ Below w.heap.size w X ∧ x6.heap.size ≤ X.heap.size ∧ True)
    (fun c pre X => False)
    (fun q X Y row h hg hr => ⟨⟨h.1.1.kept hg (fun r e => (hr r e).2), h.1.2.1.kept hg (fun r e => (hr r e).2), h.1.2.2.kept hg (fun r e => (hr r e).2)⟩, h.2.1.grown hg h.2.1.size (fun k e => by have := (hr k e).1; have := hb6.size; omega), Nat.le_trans h.2.2.1 hg.size, trivial⟩)
    (fun c q X Y row h hg hr => h)
    ⟨⟨R6, I6, L6⟩, hb6, Nat.le_refl _, trivial⟩ (fun x => x.elim) ?assign ?body ?done ?stop
  case assign => intro l x; exact x.elim
  case body => intro l pre x; exact x.elim
  case stop => intro D c' pre X _ _ h; exact h.elim
  case done =>
    rintro D ys X hD _ ⟨⟨R7, I7, L7⟩, hb7, hs7, hm7⟩ hK
    have hDX : D < X.heap.size := (Array.getElem?_eq_some_iff.1 hK).1
    dsimp only
    go_wp2
    obtain ⟨X1, hX1⟩ : ∃ Y, Y = X := ⟨_, rfl⟩
    obtain ⟨D1, hD1⟩ : ∃ E, E = D := ⟨_, rfl⟩
    subst hX1 hD1
    have q0 := L7.cell 1
    have l1 := L7.lt
    have hC7 : X1.cell? ⟨it, 0, none⟩ = some (.int .i64 0) := I7.cell 0
    have hx6w := hb6.size
    clear R6 I6 L6 hb6 k6 hE k1 k2 k3 k4 k5 hx1 hx2 hx3 hx4 hx5
    rw [rounds_succ]
    go_wp2_with (first | (go_at_call 26; refine (c_Pair_no (noIt_zero it) X1 hC7).mono ?_; rintro e x1 ⟨rfl, hx1⟩; have k1 := hx1.alloc hx1.size (.cells #[.slice none 0 0, .slice none 0 0] 35)) | (go_at_call 21; refine (c_First_no (noIt_zero it) _ ((noIt_zero it).below _ _ hC7 k1)).mono ?_; rintro e x2 ⟨rfl, hx2⟩; have k2 := k1.trans (hx2.mono k1.size)) | (go_at_call 22; refine (c_Next_no (noIt_zero it) _ ((noIt_zero it).below _ _ hC7 k2)).mono ?_; rintro e x3 ⟨rfl, hx3⟩; have k3 := k2.trans (hx3.mono k2.size)) | (go_at_call 23; refine (c_Seek_no (noIt_zero it) _ ((noIt_zero it).below _ _ hC7 k3) _).mono ?_; rintro e x4 ⟨rfl, hx4⟩; have k4 := k3.trans (hx4.mono k3.size)) | (go_at_call 20; refine (c_Looked_no (noIt_zero it) _ ((noIt_zero it).below _ _ hC7 k4)).mono ?_; rintro e x5 ⟨rfl, hx5⟩; have k5 := k4.trans (hx5.mono k4.size)) | (go_at_call 27; refine (c_Each x5 (some ⟨it, 0, none⟩) A n c).mono ?_; rintro e x6 ⟨rfl, hx6⟩))
    have hE := (Bk.new_ x5 45 #[.pointer (some ⟨it, 0, none⟩)]).alloc (.cells #[.slice A n c] 25)
    have k6 := (k5.alloc k5.size (.cells #[.pointer (some ⟨it, 0, none⟩)] 45)).alloc (Nat.le_trans k5.size (by simp)) (.cells #[.slice A n c] 25)
    rw [← hx6] at hE k6 ⊢
    have hzx : x5.heap.size < x6.heap.size := hE.lt
    clear hx6
    have R6 := R7.below k6 R7.lt
    have I6 := I7.below k6 I7.lt
    have L6 := L7.below k6 L7.lt
    have hb6 := hb7.trans (k6.mono hb7.size)
    refine (wpIn_wide (n := 5)).1 ?_
    refine wpIn_rangeFunc_ownG (n := 5) rfl (by omega) (gf := 44) (lb := #[.pointer (some ⟨x5.heap.size, 0, none⟩), .pointer (some ⟨x5.heap.size + 1, 0, none⟩)]) rfl trivial (enters_of Try.func44 (by kernel_rfl) rfl)
      (each_none 4 (by omega) x5.heap.size w.heap.size _ (noIt_zero it) x6 hE ((noIt_zero it).below _ _ hC7 k6)) belowK_t (belowK_b (by have := hb6.size; omega)) (Below.refl _ _) (fun x => x.elim)
      (fun pre X => (Bk X r 4 #[.bool false] ∧ Bk X it 65 #[.int .i64 0, .slice none 0 0, .int .i64 0, .int .i64 0, .int .i64 0] ∧ Bk X (it + 1) 45 #[.pointer none, .pointer (some ⟨it, 0, none⟩)]) ∧ Below w.heap.size w X ∧ x6.heap.size ≤ X.heap.size ∧ (X.heap[D1]? = some (.deferred (some []))))
      (fun c pre X => False)
      (fun q X Y row h hg hr => ⟨⟨h.1.1.kept hg (fun r e => (hr r e).2), h.1.2.1.kept hg (fun r e => (hr r e).2), h.1.2.2.kept hg (fun r e => (hr r e).2)⟩, h.2.1.grown hg h.2.1.size (fun k e => by have := (hr k e).1; have := hb6.size; omega), Nat.le_trans h.2.2.1 hg.size, ((hg.block D1 (by have := h.2.2.1; have := k6.size; omega) (fun e => by have := (hr D1 e.symm).1; have := k6.size; omega)).trans h.2.2.2)⟩)
      (fun c q X Y row h hg hr => h)
      ⟨⟨R6, I6, L6⟩, hb6, Nat.le_refl _, ((k6.block D1 hDX).trans hK)⟩ (fun x => x.elim) ?assign ?body ?done ?stop
    case assign => intro l x; exact x.elim
    case body => intro l pre x; exact x.elim
    case stop => intro D c' pre X _ _ h; exact h.elim
    case done =>
      rintro D ys X hD _ ⟨⟨R7, I7, L7⟩, hb7, hs7, hm7⟩ hK
      have hDX : D < X.heap.size := (Array.getElem?_eq_some_iff.1 hK).1
      dsimp only
      go_wp2
      have r8 := R7.cell
      have z8 := R7.frz
      rw [rounds_succ]
      go_wp2
      have e3 := (R7.set_ 0 (.bool true)).cell 0
      have hKa := (KeepsOthers.setCell X ⟨r, 0, none⟩ (.bool true)).same D _ hK rfl
      have hKb := (KeepsOthers.setCell X ⟨r, 0, none⟩ (.bool true)).same D1 _ hm7 rfl
      have hDD : D1 ≠ D := by have := k6.size; omega
      have hKc := ((grownBy_putObj' (X.setCell ⟨r, 0, none⟩ (.bool true)) D (.deferred none)).block D1 (Array.getElem?_eq_some_iff.1 hKb).1 (fun e => hDD (Option.some.inj e))).trans hKb
      refine ⟨by simp, .inl ⟨_, _, rfl, run_takeDeferred hKa, ?_⟩⟩
      refine ⟨by simp, .inl ⟨_, _, rfl, run_takeDeferred hKc, ?_⟩⟩
      have f3 := cell_kept (v := .bool true) e3 (grownBy_putObj' _ D (.deferred none)) (fun r e => by cases e; exact ⟨_, hKa, rfl⟩)
      have f4 := cell_kept (v := .bool true) f3 (grownBy_putObj' _ D1 (.deferred none)) (fun r e => by cases e; exact ⟨_, hKc, rfl⟩)
      have hbx : Below w.heap.size w (X.setCell ⟨r, 0, none⟩ (.bool true)) := hb7.setCell (p := ⟨r, 0, none⟩) hwr _
      refine ⟨.bool true, ?_, rfl, (hbx.trans (belowK_b (w := w) (Nat.le_refl _) _ D _ _ (by have := hb02.size; have := k6.size; omega) hKa rfl rfl)).trans (belowK_b (w := w) (Nat.le_refl _) _ D1 _ _ (by omega) hKc rfl rfl)⟩
      simp [results, Try.results7, go_sem, f4]
end Go.Proofs.Ytjcifmbbdofjiaa
