/- Layer 17: the walk of WalNone. -/
import Derived.LoopN
import Derived.Test.YtgilnjngphhhlaaGreatWlNo
import Derived.Test.YtgilnjngphhhlaaGreatWdC
namespace Go.Proofs.YtgilnjngphhhlaaGreat
open Go.RowKit Go.Lec Go.Op Go.Shelf
attribute [local go_sem] Oper.semAt_some
theorem run_neq_seq2 (w : World) (g : Fn) (f c : Array Value) : (binOp .neq 37 (.func g f c) .nilFunc).run Tryz.prog w = .ok (.bool true) w := by
  have h : ∀ d : Nat, (Op.equalIn (d + 1) 37 (.func g f c) .nilFunc).run Tryz.prog w = .ok false w := fun d => by
    simp [Op.equalIn, run_underlying Tryz.underlying37]
  simp only [binOp]
  simp [Op.equal, Op.maxDepth, h 9999]
set_option maxRecDepth 100000 in
set_option maxHeartbeats 2000000 in
theorem n_lRecords {pa : Option Addr} {C : World → Prop} (NI : NoLg pa C) (w : World) (hC : C w) : Calls Tryz.prog 8 #[.pointer pa] w fun e w' => e = .returned (.slice none 0 0) ∧ Below w.heap.size w w' := by
  have hb0 := (Below.refl w.heap.size w).alloc (Nat.le_refl _) (.cells #[.slice none 0 0] 26)
  have R0 := Bk.new_ w 26 #[.slice none 0 0]
  obtain ⟨w0, hw0⟩ : ∃ W, W = w.alloc (.cells #[.slice none 0 0] 26) := ⟨_, rfl⟩
  rw [← hw0] at hb0 R0
  have HW0 := Lib.hid hw0
  have HE := Lib.hid (l_Each0 w0 pa)
  have hC0 := NI.below w w0 hC hb0
  clear hw0
  refine (callsIn_wide (n := 5)).1 ?_
  refine callsIn_of_wp_marks Tryz.func8 rfl trivial ?_ rfl
  simp only [Tryz.ntmps8, List.size_toArray, List.length_cons, List.length_nil, Nat.reduceAdd, Nat.reduceSub, Array.replicate_succ, Array.replicate_zero, List.push_toArray, List.append_toArray, List.nil_append, List.cons_append]
  gi_wp2_with (refine ⟨trivial, ?_⟩; gi_at_call 12; rw [← HW0.out]; refine (callsIn_wide.2 HE.out).mono ?_; rintro e w1 ⟨rfl, rfl⟩)
  have Bi := Bk.new_ w0 24 #[.pointer pa]
  have hb1 := (Below.refl w0.heap.size w0).alloc (Nat.le_refl _) (.cells #[.pointer pa] 24)
  have R1 := R0.below hb1 R0.lt
  have hb01 := hb0.trans (hb1.mono hb0.size)
  have hC1 := NI.below _ _ hC0 hb1
  obtain ⟨w1, hw1⟩ : ∃ W, W = w0.alloc (.cells #[.pointer pa] 24) := ⟨_, rfl⟩
  rw [← hw1] at Bi hb1 R1 hb01 hC1 ⊢
  obtain ⟨bi, hbi⟩ : ∃ x, x = w0.heap.size := ⟨_, rfl⟩
  rw [← hbi] at Bi ⊢
  have hs1 := hb01.size
  clear HE HW0 hb0 hb1 R0 hw1 hbi hC0
  refine wpIn_rangeFunc_ownG (n := 5) rfl (by omega) (gf := 26) (lb := #[.pointer (some ⟨bi, 0, none⟩)]) rfl trivial (enters_of Tryz.func26 (by kernel_rfl) rfl)
    (lEach_none 4 (by omega) bi w.heap.size NI w1 Bi hC1) belowK_t (belowK_b (by omega)) (Below.refl _ _) (fun x => x.elim)
    (fun pre X => Bk X w.heap.size 26 #[.slice none 0 0] ∧ Below w.heap.size w X ∧ w1.heap.size ≤ X.heap.size)
    (fun c pre X => False)
    (fun q X Y row h hg hr => ⟨h.1.kept hg (fun r e => (hr r e).2), h.2.1.grown hg h.2.1.size (fun k e => by have := (hr k e).1; omega), Nat.le_trans h.2.2 hg.size⟩)
    (fun c q X Y row h hg hr => h)
    ⟨R1, hb01, Nat.le_refl _⟩ (fun x => x.elim) ?assign ?body ?done ?stop
  case assign => intro l x; exact x.elim
  case body => intro l pre x; exact x.elim
  case stop => intro D c' pre X _ _ h; exact h.elim
  case done =>
    rintro D ys X hD _ ⟨R7, hb7, hs7⟩ hK
    have q7 := R7.cell
    gi_wp2
    refine ⟨by simp, .inl ⟨_, _, rfl, run_takeDeferred hK, ?_⟩⟩
    exact ⟨.slice none 0 0, by simp [results, Tryz.results8, go_sem], rfl, hb7.trans (belowK_b (w := w) (Nat.le_refl _) _ D _ _ (by omega) hK rfl rfl)⟩
set_option maxRecDepth 100000 in
set_option maxHeartbeats 4000000 in
theorem w_WalNone (w : World) {n c : Nat} {A : Option Addr} :
    Calls Tryz.prog 3 #[.slice A n c] w fun e w' => e = .returned (.bool true) ∧ Below w.heap.size w w' := by
  have hnf := run_neq_seq2
  have hb0 := (Below.refl w.heap.size w).alloc (Nat.le_refl _) (.cells #[.bool false] 4)
  have R0 := Bk.new_ w 4 #[.bool false]
  have hz0 : (w.alloc (.cells #[.bool false] 4)).heap.size = w.heap.size + 1 := by simp
  obtain ⟨r, hr⟩ : ∃ x, x = w.heap.size := ⟨_, rfl⟩
  obtain ⟨w0, hw0⟩ : ∃ W, W = w.alloc (.cells #[.bool false] 4) := ⟨_, rfl⟩
  rw [← hw0] at hb0 R0 hz0
  rw [← hr] at R0 hz0
  have HW0 := Lib.hid hw0
  have Hr := Lib.hid hr
  clear hw0 hr
  refine (callsIn_wide (n := 5)).1 ?_
  refine callsIn_of_wp_marks Tryz.func3 rfl trivial ?_ rfl
  simp only [Tryz.ntmps3, List.size_toArray, List.length_cons, List.length_nil, Nat.reduceAdd, Nat.reduceSub, Array.replicate_succ, Array.replicate_zero, List.push_toArray, List.append_toArray, List.nil_append, List.cons_append]
  refine wpIn_wide.2 ?_
  go_wp2_with fail
  rw [← HW0.out, ← Hr.out]
  refine (c_awake w0).mono ?_
  rintro e w1 ⟨rfl, hb1⟩
  have hb01 := hb0.trans (hb1.mono (by rw [← Hr.out]; omega))
  have R1 := R0.below hb1 R0.lt
  have hz1 := hb1.size
  have I1 := (Bk.new_ w1 28 #[.int .i64 0, .pointer none, .string ⟨#[]⟩, .slice none 0 0, .int .i64 0, .bool false]).alloc (.cells #[.pointer none, .pointer (some ⟨w1.heap.size, 0, none⟩)] 24)
  have L1 := Bk.new_ (w1.alloc (.cells #[.int .i64 0, .pointer none, .string ⟨#[]⟩, .slice none 0 0, .int .i64 0, .bool false] 28)) 24 #[.pointer none, .pointer (some ⟨w1.heap.size, 0, none⟩)]
  have hb2 := ((Below.refl w1.heap.size w1).alloc (Nat.le_refl _) (.cells #[.int .i64 0, .pointer none, .string ⟨#[]⟩, .slice none 0 0, .int .i64 0, .bool false] 28)).alloc (by simp) (.cells #[.pointer none, .pointer (some ⟨w1.heap.size, 0, none⟩)] 24)
  rw [World.size_alloc] at L1
  have R0lt := R0.lt
  clear R0 HW0 hb0 hb1
  obtain ⟨it, hit⟩ : ∃ x, x = w1.heap.size := ⟨_, rfl⟩
  go_wp2
  rw [← hit] at I1 L1 hb2 ⊢
  obtain ⟨W2, hW2⟩ : ∃ W, W = (w1.alloc (.cells #[.int .i64 0, .pointer none, .string ⟨#[]⟩, .slice none 0 0, .int .i64 0, .bool false] 28)).alloc (.cells #[.pointer none, .pointer (some ⟨it, 0, none⟩)] 24) := ⟨_, rfl⟩
  have R2 := R1.below hb2 (by have := R1.lt; have := R0lt; omega)
  have hb02 := hb01.trans (hb2.mono (by rw [hit]; exact hb01.size))
  rw [← hW2] at I1 L1 hb2 R2 hb02 ⊢
  have hri : r < it := by have := R1.lt; omega
  have hwr : w.heap.size ≤ r := by rw [Hr.out]; exact Nat.le_refl _
  have Hit := Lib.hid hit
  clear hW2 hit hb01 R1 hz1 hz0
  refine wp_loop_rounds 3 ?_
  rw [rounds_succ]
  have q0 := L1.cell 0
  have l1 := L1.lt
  go_wp2_with (first | (go_at_call 6; refine (n_lAppend noLg_nil W2 trivial A n c true).mono ?_; rintro e x1 ⟨rfl, hx1⟩; obtain rfl := hx1.symm) | (go_at_call 7; refine (n_lSync noLg_nil _ trivial).mono ?_; rintro e x2 ⟨rfl, hx2⟩; obtain rfl := hx2.symm) | (go_at_call 8; refine (n_lRecords noLg_nil _ trivial).mono ?_; rintro e x3 ⟨rfl, k3⟩) | (go_at_call 9; refine (n_lCount noLg_nil _ (noLg_nil.below _ _ trivial k3)).mono ?_; rintro e x4 ⟨rfl, hx4⟩; obtain rfl := hx4.symm) | (go_at_call 10; refine (n_lSize noLg_nil _ (noLg_nil.below _ _ trivial k3)).mono ?_; rintro e x5 ⟨rfl, hx5⟩; obtain rfl := hx5.symm) | (go_at_call 11; refine (n_lName noLg_nil _ (noLg_nil.below _ _ trivial k3)).mono ?_; rintro e x7 ⟨rfl, hx7⟩; obtain rfl := hx7.symm) | (go_at_call 12; refine (l_Each0 x3 none).mono ?_; rintro e x6 ⟨rfl, hx6⟩))
  have hE := Bk.new_ x3 24 #[.pointer none]
  have k6 := k3.alloc k3.size (.cells #[.pointer none] 24)
  rw [← hx6] at hE k6 ⊢
  have hzx : x3.heap.size < x6.heap.size := hE.lt
  clear hx6
  have R6 := R2.below k6 R2.lt
  have I6 := I1.below k6 I1.lt
  have L6 := L1.below k6 L1.lt
  have hb6 := hb02.trans (k6.mono hb02.size)
  refine (wpIn_wide (n := 5)).1 ?_
  refine wpIn_rangeFunc_ownG (n := 5) rfl (by omega) (gf := 26) (lb := #[.pointer (some ⟨x3.heap.size, 0, none⟩)]) rfl trivial (enters_of Tryz.func26 (by kernel_rfl) rfl)
    (lEach_none 4 (by omega) x3.heap.size w.heap.size noLg_nil x6 hE (noLg_nil.below _ _ trivial k6)) belowK_t (belowK_b (by have := hb6.size; omega)) (Below.refl _ _) (fun x => x.elim)
    (fun pre X => (Bk X r 4 #[.bool false] ∧ Bk X it 28 #[.int .i64 0, .pointer none, .string ⟨#[]⟩, .slice none 0 0, .int .i64 0, .bool false] ∧ Bk X (it + 1) 24 #[.pointer none, .pointer (some ⟨it, 0, none⟩)]) ∧ Below w.heap.size w X ∧ x6.heap.size ≤ X.heap.size ∧ True)
    (fun c pre X => False)
    (fun q X Y row h hg hr => ⟨⟨h.1.1.kept hg (fun r e => (hr r e).2), h.1.2.1.kept hg (fun r e => (hr r e).2), h.1.2.2.kept hg (fun r e => (hr r e).2)⟩, h.2.1.grown hg h.2.1.size (fun k e => by have := (hr k e).1; have := hb6.size; omega), Nat.le_trans h.2.2.1 hg.size, trivial⟩)
    (fun c q X Y row h hg hr => h)
    ⟨⟨R6, I6, L6⟩, hb6, Nat.le_refl _, trivial⟩ (fun x => x.elim) ?assign ?body ?done ?stop
  case assign => intro l x; exact x.elim
  case body => intro l pre x; exact x.elim
  case stop => intro D c' pre X _ _ h; exact h.elim
  case done =>
    rintro D ys X hD _ ⟨⟨R7, I7, L7⟩, hb7, hs7, hm7⟩ hK
    have hDX : D < X.heap.size := (Array.getElem?_eq_some_iff.1 hK).1
    dsimp only
    go_wp2
    obtain ⟨X1, hX1⟩ : ∃ Y, Y = X := ⟨_, rfl⟩
    obtain ⟨D1, hD1⟩ : ∃ E, E = D := ⟨_, rfl⟩
    subst hX1 hD1
    have q0 := L7.cell 1
    have l1 := L7.lt
    have hC7 : X1.cell? ⟨it, 0, none⟩ = some (.int .i64 0) := I7.cell 0
    have hx6w := hb6.size
    clear R6 I6 L6 hb6 k6 hE k3
    rw [rounds_succ]
    go_wp2_with (first | (go_at_call 6; refine (n_lAppend (noLg_zero it) X1 hC7 A n c true).mono ?_; rintro e x1 ⟨rfl, hx1⟩; obtain rfl := hx1.symm) | (go_at_call 7; refine (n_lSync (noLg_zero it) _ hC7).mono ?_; rintro e x2 ⟨rfl, hx2⟩; obtain rfl := hx2.symm) | (go_at_call 8; refine (n_lRecords (noLg_zero it) _ hC7).mono ?_; rintro e x3 ⟨rfl, k3⟩) | (go_at_call 9; refine (n_lCount (noLg_zero it) _ ((noLg_zero it).below _ _ hC7 k3)).mono ?_; rintro e x4 ⟨rfl, hx4⟩; obtain rfl := hx4.symm) | (go_at_call 10; refine (n_lSize (noLg_zero it) _ ((noLg_zero it).below _ _ hC7 k3)).mono ?_; rintro e x5 ⟨rfl, hx5⟩; obtain rfl := hx5.symm) | (go_at_call 11; refine (n_lName (noLg_zero it) _ ((noLg_zero it).below _ _ hC7 k3)).mono ?_; rintro e x7 ⟨rfl, hx7⟩; obtain rfl := hx7.symm) | (go_at_call 12; refine (l_Each0 x3 (some ⟨it, 0, none⟩)).mono ?_; rintro e x6 ⟨rfl, hx6⟩))
    have hE := Bk.new_ x3 24 #[.pointer (some ⟨it, 0, none⟩)]
    have k6 := k3.alloc k3.size (.cells #[.pointer (some ⟨it, 0, none⟩)] 24)
    rw [← hx6] at hE k6 ⊢
    have hzx : x3.heap.size < x6.heap.size := hE.lt
    clear hx6
    have R6 := R7.below k6 R7.lt
    have I6 := I7.below k6 I7.lt
    have L6 := L7.below k6 L7.lt
    have hb6 := hb7.trans (k6.mono hb7.size)
    refine (wpIn_wide (n := 5)).1 ?_
    refine wpIn_rangeFunc_ownG (n := 5) rfl (by omega) (gf := 26) (lb := #[.pointer (some ⟨x3.heap.size, 0, none⟩)]) rfl trivial (enters_of Tryz.func26 (by kernel_rfl) rfl)
      (lEach_none 4 (by omega) x3.heap.size w.heap.size (noLg_zero it) x6 hE ((noLg_zero it).below _ _ hC7 k6)) belowK_t (belowK_b (by have := hb6.size; omega)) (Below.refl _ _) (fun x => x.elim)
      (fun pre X => (Bk X r 4 #[.bool false] ∧ Bk X it 28 #[.int .i64 0, .pointer none, .string ⟨#[]⟩, .slice none 0 0, .int .i64 0, .bool false] ∧ Bk X (it + 1) 24 #[.pointer none, .pointer (some ⟨it, 0, none⟩)]) ∧ Below w.heap.size w X ∧ x6.heap.size ≤ X.heap.size ∧ (X.heap[D1]? = some (.deferred (some []))))
      (fun c pre X => False)
      (fun q X Y row h hg hr => ⟨⟨h.1.1.kept hg (fun r e => (hr r e).2), h.1.2.1.kept hg (fun r e => (hr r e).2), h.1.2.2.kept hg (fun r e => (hr r e).2)⟩, h.2.1.grown hg h.2.1.size (fun k e => by have := (hr k e).1; have := hb6.size; omega), Nat.le_trans h.2.2.1 hg.size, ((hg.block D1 (by have := h.2.2.1; have := k6.size; omega) (fun e => by have := (hr D1 e.symm).1; have := k6.size; omega)).trans h.2.2.2)⟩)
      (fun c q X Y row h hg hr => h)
      ⟨⟨R6, I6, L6⟩, hb6, Nat.le_refl _, ((k6.block D1 hDX).trans hK)⟩ (fun x => x.elim) ?assign ?body ?done ?stop
    case assign => intro l x; exact x.elim
    case body => intro l pre x; exact x.elim
    case stop => intro D c' pre X _ _ h; exact h.elim
    case done =>
      rintro D ys X hD _ ⟨⟨R7, I7, L7⟩, hb7, hs7, hm7⟩ hK
      have hDX : D < X.heap.size := (Array.getElem?_eq_some_iff.1 hK).1
      dsimp only
      go_wp2
      have r8 := R7.cell
      have z8 := R7.frz
      rw [rounds_succ]
      go_wp2_with (first | (go_at_call 13; refine (n_lCreate _ ⟨#[76]⟩).mono ?_; rintro e y1 ⟨rfl, hy1⟩; obtain rfl := hy1.symm) | (go_at_call 14; refine (n_lOpen _ ⟨#[76]⟩).mono ?_; rintro e y2 ⟨rfl, hy2⟩; obtain rfl := hy2.symm))
      have e3 := (R7.set_ 0 (.bool true)).cell 0
      have hKa := (KeepsOthers.setCell X ⟨r, 0, none⟩ (.bool true)).same D _ hK rfl
      have hKb := (KeepsOthers.setCell X ⟨r, 0, none⟩ (.bool true)).same D1 _ hm7 rfl
      have hDD : D1 ≠ D := by have := k6.size; omega
      have hKc := ((grownBy_putObj' (X.setCell ⟨r, 0, none⟩ (.bool true)) D (.deferred none)).block D1 (Array.getElem?_eq_some_iff.1 hKb).1 (fun e => hDD (Option.some.inj e))).trans hKb
      refine ⟨by simp, .inl ⟨_, _, rfl, run_takeDeferred hKa, ?_⟩⟩
      refine ⟨by simp, .inl ⟨_, _, rfl, run_takeDeferred hKc, ?_⟩⟩
      have f3 := cell_kept (v := .bool true) e3 (grownBy_putObj' _ D (.deferred none)) (fun r e => by cases e; exact ⟨_, hKa, rfl⟩)
      have f4 := cell_kept (v := .bool true) f3 (grownBy_putObj' _ D1 (.deferred none)) (fun r e => by cases e; exact ⟨_, hKc, rfl⟩)
      have hbx : Below w.heap.size w (X.setCell ⟨r, 0, none⟩ (.bool true)) := hb7.setCell (p := ⟨r, 0, none⟩) hwr _
      refine ⟨.bool true, ?_, rfl, (hbx.trans (belowK_b (w := w) (Nat.le_refl _) _ D _ _ (by have := hb02.size; have := k6.size; omega) hKa rfl rfl)).trans (belowK_b (w := w) (Nat.le_refl _) _ D1 _ _ (by omega) hKc rfl rfl)⟩
      simp [results, Tryz.results3, go_sem, f4]
end Go.Proofs.YtgilnjngphhhlaaGreat
