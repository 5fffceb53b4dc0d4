/- Layer 2: the reader takes bytes: the walk. -/
import Derived.Test.YtjcifmbbdofjiaaCdH
namespace Go.Proofs.Ytjcifmbbdofjiaa
open Go.RowKit Go.Lec
/-- What is taken: bytes of the call's own, or something thrown. -/
def TkPost (W : World) (l : List UInt8) (m : Nat) (e : Ending) (w' : World) : Prop :=
  (m ≤ l.length ∧ ∃ v, e = .returned (.tuple #[v, .int .i64 (m : Int)]) ∧ Lec.Own w' W.heap.size 5 v (bcs (l.take m)) ∧ Below W.heap.size W w') ∨ (l.length < m ∧ e = .panicked [{ v := cdFailVal 20, recovered := false }] ∧ W = w')
set_option maxRecDepth 40000 in
set_option maxHeartbeats 800000 in
theorem c_Take1 (W : World) (bm : Nat) {B : Nat} {A : Option Addr} {n c : Nat} {l : List UInt8} {m : Nat} (hr : Rd W B A n (bcs l)) (hB : B ≤ W.heap.size) (hc : n ≤ c) (hn : n ≤ 1099511627776) (hm : m ≤ 1099511627776) (h0 : W.cell? ⟨bm, 0, none⟩ = some (.int .i64 (m : Int))) :
    Calls Try.prog 80 #[.slice A n c, .pointer (some ⟨bm, 0, none⟩)] W (TkPost W l m) := by
  have hln : l.length = n := by have := hr.1; rwa [bcs_length] at this
  have Hln := Lib.hid hln
  clear hln
  have lm := World.block_lt_of_cell? W _ h0
  by_cases hfit : m ≤ n
  · obtain ⟨A', hcut, hrd⟩ := run_cut2 slb hr hc (Nat.zero_le m) hfit .i64 .i64
    have hcut2 : ∀ w : World, (Instr.slice 25 (.slice A n c) none (some (.int .i64 (m : Int))) none).run Try.prog w = .ok (.slice A m c) w := by
      intro w
      obtain ⟨i, hi, _, hsz, _⟩ := slb.info
      rw [run_slice_h (P := Try.prog) (w := w) 25 A n c (by rw [slb.elem_]; exact slb.ut) .i64 m (by omega)]
      · cases A <;> simp [sizeOf, typeInfo, slb.elem_, hi, hsz, sliced, Result.andThen, Addr.add_zero']
      · omega
    have hr2 : Rd W B A m (bcs (l.take m)) := by
      have := hr.take_ hfit
      simpa [bcs] using this
    have HC := Lib.hid (c_Clone W.drew (c := c) hr2.drew hB (by omega))
    have HK := Lib.hid (fun (w : World) (hk : Below W.heap.size W w) => ((hk.cell (p := ⟨bm, 0, none⟩) lm).trans h0))
    clear hcut hrd A'
    go_enter Try.func80, Try.ntmps80
    go_wp2_with (first | (go_at_call 81; refine (c_cdMust_ok _ _ _ ?_).mono ?_; (first | rfl | (simp; done) | (simp; omega) | (simp [*]; done)); rintro e w' ⟨rfl, rfl⟩))
    go_region_held3 (fun w => w.cell? ⟨bm, 0, none⟩ = some (.int .i64 (m : Int)))
      ((refine HK.out _ ?_; first | exact (Below.refl _ _).drew | exact (Below.refl _ _).drew.trans hb))
      (first | (go_at_call 61; refine HC.out.mono ?_; rintro e w1 ⟨v, rfl, ho, hb⟩; obtain ⟨A1, c1, rfl, hc1⟩ := ho.shape))
    go_wp2
    go_ret2
    exact .inl ⟨by rw [Hln.out]; exact hfit, _, rfl, ho, (Below.refl _ _).drew.trans hb⟩
  · go_enter Try.func80, Try.ntmps80
    go_wp2_with (first | (go_at_call 81; refine (c_cdMust_ok _ _ _ ?_).mono ?_; (first | rfl | (simp; done) | (simp; omega) | (simp [*]; done)); rintro e w' ⟨rfl, rfl⟩) | (go_at_call 81; refine (c_cdMust_no _ _ _ ?_).mono ?_; (first | rfl | (simp; done) | (simp; omega) | (simp [*]; done)); rintro e w' ⟨rfl, rfl⟩))
    exact ⟨rfl, .inr ⟨by rw [Hln.out]; omega, rfl, rfl⟩⟩

/-- What the closure that a taking hands to 'guarded' leaves. -/
def TkClo (W : World) (bv bn : Nat) (l : List UInt8) (m : Nat) (e : Ending) (w' : World) : Prop :=
  (m ≤ l.length ∧ ∃ v, e = .returned (.tuple #[]) ∧ Bk w' bv 25 #[v] ∧ Bk w' bn 3 #[.int .i64 (m : Int)] ∧ Lec.Own w' W.heap.size 5 v (bcs (l.take m)) ∧ Kb [bv, bn] W w') ∨ (l.length < m ∧ e = .panicked [{ v := cdFailVal 20, recovered := false }] ∧ Kb [bv, bn] W w')

set_option maxRecDepth 40000 in
set_option maxHeartbeats 800000 in
theorem c_onB1 (W : World) (bf br bv bn bm : Nat) {R B : Nat} {A : Option Addr} {n c : Nat} {l : List UInt8} {at_ m : Nat} {e : Int} (h : Rdr W R B A n c l at_ e) (hn : n ≤ 1099511627776) (hm' : m ≤ 1099511627776) (hbm : W.cell? ⟨bm, 0, none⟩ = some (.int .i64 (m : Int)))
    (hf : W.cell? ⟨bf, 0, none⟩ = some (.func (.func 80) #[] #[.pointer (some ⟨bm, 0, none⟩)])) (hr : W.cell? ⟨br, 0, none⟩ = some (.pointer (some ⟨R, 0, none⟩))) (hv : Bk W bv 25 #[.slice none 0 0]) (hm : Bk W bn 3 #[.int .i64 0]) (hne : bv ≠ bn) (hout : bf ∉ [bv, bn] ∧ br ∉ [bv, bn] ∧ R ∉ [bv, bn]) :
    Calls Try.prog 85 #[.pointer (some ⟨bf, 0, none⟩), .pointer (some ⟨br, 0, none⟩), .pointer (some ⟨bv, 0, none⟩), .pointer (some ⟨bn, 0, none⟩)] W (TkClo W bv bn (l.drop at_) m) := by
  have q0 := h.bk.cell 1
  have q1 := h.bk.cell 2
  obtain ⟨A', hcut, hrd⟩ := run_cut slb h.rd h.cap h.in_ .i64
  have hdr : (bcs l).drop at_ = bcs (l.drop at_) := by simp [bcs]
  rw [hdr] at hrd
  have hne' : bn ≠ bv := Ne.symm hne
  have i1 : (0 : Int) ≤ (at_ : Int) := by omega
  have i2 := h.in_
  have lf := World.block_lt_of_cell? W _ hf
  have lr := World.block_lt_of_cell? W _ hr
  have lR := h.bk.lt
  have lv := hv.lt
  have lm := hm.lt
  have hBW : B ≤ W.heap.size := Nat.le_trans h.low (Nat.le_of_lt lR)
  have hcap := h.cap
  have HC := Lib.hid (c_Take1 W.drew bm (c := c - at_) hrd.drew hBW (by omega) (by omega) hm' hbm)
  have HK := Lib.hid (fun (W' : World) (hk : Kb [bv, bn] W W') => (⟨(hk.cell (p := ⟨bf, 0, none⟩) lf hout.1).trans hf, (hk.cell (p := ⟨br, 0, none⟩) lr hout.2.1).trans hr, (hk.cell (p := ⟨R, 1, none⟩) lR hout.2.2).trans q0, (hk.cell (p := ⟨R, 2, none⟩) lR hout.2.2).trans q1⟩ :
    W'.cell? ⟨bf, 0, none⟩ = some (.func (.func 80) #[] #[.pointer (some ⟨bm, 0, none⟩)]) ∧ W'.cell? ⟨br, 0, none⟩ = some (.pointer (some ⟨R, 0, none⟩)) ∧ W'.cell? ⟨R, 1, none⟩ = some (.slice A n c) ∧ W'.cell? ⟨R, 2, none⟩ = some (.int .i64 at_)))
  clear hdr
  by_cases hfit : m ≤ (l.drop at_).length
  · have HC2 := Lib.hid (HC.out.mono (R' := fun e w' => ∃ v, e = .returned (.tuple #[v, .int .i64 (m : Int)]) ∧ Lec.Own w' W.heap.size 5 v (bcs ((l.drop at_).take m)) ∧ Below W.heap.size W w') (by
      rintro e w1 (⟨_, v, rfl, ho, hb⟩ | ⟨h1, _⟩)
      · exact ⟨v, rfl, ho, ⟨hb.os, hb.tape, hb.output, hb.size, hb.block⟩⟩
      · omega))
    clear HC
    go_enter Try.func85, Try.ntmps85
    go_region_held3 (fun w => w.cell? ⟨bf, 0, none⟩ = some (.func (.func 80) #[] #[.pointer (some ⟨bm, 0, none⟩)]) ∧ w.cell? ⟨br, 0, none⟩ = some (.pointer (some ⟨R, 0, none⟩)) ∧ w.cell? ⟨R, 1, none⟩ = some (.slice A n c) ∧ w.cell? ⟨R, 2, none⟩ = some (.int .i64 at_))
      ((refine HK.out _ ?_; first | exact (Kb.refl _ _).drew | exact hk1 | exact hk1.setCell (.inl (by simp)) _ | exact (hk1.setCell (.inl (by simp)) _).setCell (.inl (by simp)) _))
      (first | (go_at_call 80; refine HC2.out.mono ?_; rintro e w1 ⟨v, rfl, ho, hb⟩; obtain ⟨A1, c1, rfl, hc1⟩ := ho.shape; have hk1 : Kb [bv, bn] W w1 := Kb.of_below hb; have hv1 := hv.below hb lv; have hm1 := hm.below hb lm; have y1 := hv1.cell 0; have y2 := hm1.cell 0; have y3 := hv1.frz 0; have y4 := hm1.frz 0))
    go_wp2
    go_end0
    refine .inl ⟨hfit, _, rfl, (hv1.set_ 0 _).far (by dsimp only; omega) _, (hm1.far (by dsimp only; omega) _).set_ 0 _, ?_, ?_⟩
    · exact ownsRow_setCell_below (ownsRow_setCell_below ho lv _) lm _
    · exact (hk1.setCell (.inl (by simp)) _).setCell (.inl (by simp)) _
  · have HC2 := Lib.hid (HC.out.mono (R' := fun e w' => e = .panicked [{ v := cdFailVal 20, recovered := false }] ∧ W.drew = w') (by
      rintro e w1 (⟨h1, _⟩ | ⟨_, rfl, rfl⟩)
      · omega
      · exact ⟨rfl, rfl⟩))
    clear HC
    go_enter Try.func85, Try.ntmps85
    have hHeld : (fun w : World => w.cell? ⟨bf, 0, none⟩ = some (.func (.func 80) #[] #[.pointer (some ⟨bm, 0, none⟩)]) ∧ w.cell? ⟨br, 0, none⟩ = some (.pointer (some ⟨R, 0, none⟩)) ∧ w.cell? ⟨R, 1, none⟩ = some (.slice A n c) ∧ w.cell? ⟨R, 2, none⟩ = some (.int .i64 at_)) _ := ⟨hf, hr, q0, q1⟩
    refine wp_region_held (S := fun w : World => w.cell? ⟨bf, 0, none⟩ = some (.func (.func 80) #[] #[.pointer (some ⟨bm, 0, none⟩)]) ∧ w.cell? ⟨br, 0, none⟩ = some (.pointer (some ⟨R, 0, none⟩)) ∧ w.cell? ⟨R, 1, none⟩ = some (.slice A n c) ∧ w.cell? ⟨R, 2, none⟩ = some (.int .i64 at_)) (by kernel_rfl) ?_
    simp only [List.size_toArray, List.length_cons, List.length_nil, Nat.reduceAdd]
    refine heldTake (i := 0) (v := ?_) rfl (by kernel_rfl) (by kernel_rfl) (by kernel_rfl) (fun _ _ _ h => h) hHeld (by rfl) ?_ ?_
    rotate_left
    · (intro w hSw; (try dsimp only at hSw); go_simp; try with_reducible rfl)
    try simp only [Act.put, List.setIfInBounds_toArray, List.set_cons_zero, List.set_cons_succ]
    refine heldTake (i := 1) (v := ?_) rfl (by kernel_rfl) (by kernel_rfl) (by kernel_rfl) (fun _ _ _ h => h) hHeld (by rfl) ?_ ?_
    rotate_left
    · (intro w hSw; (try dsimp only at hSw); go_simp; try with_reducible rfl)
    try simp only [Act.put, List.setIfInBounds_toArray, List.set_cons_zero, List.set_cons_succ]
    refine heldTake (i := 2) (v := ?_) rfl (by kernel_rfl) (by kernel_rfl) (by kernel_rfl) (fun _ _ _ h => h) hHeld (by rfl) ?_ ?_
    rotate_left
    · (intro w hSw; (try dsimp only at hSw); go_simp; try with_reducible rfl)
    try simp only [Act.put, List.setIfInBounds_toArray, List.set_cons_zero, List.set_cons_succ]
    refine heldTake (i := 3) (v := ?_) rfl (by kernel_rfl) (by kernel_rfl) (by kernel_rfl) (fun _ _ _ h => h) hHeld (by rfl) ?_ ?_
    rotate_left
    · (intro w hSw; (try dsimp only at hSw); go_simp; try with_reducible rfl)
    try simp only [Act.put, List.setIfInBounds_toArray, List.set_cons_zero, List.set_cons_succ]
    refine heldTake (i := 4) (v := ?_) rfl (by kernel_rfl) (by kernel_rfl) (by kernel_rfl) (fun _ _ _ h => h) hHeld (by rfl) ?_ ?_
    rotate_left
    · (intro w hSw; (try dsimp only at hSw); go_simp; try with_reducible rfl)
    try simp only [Act.put, List.setIfInBounds_toArray, List.set_cons_zero, List.set_cons_succ]
    refine heldTake (i := 5) (v := ?_) rfl (by kernel_rfl) (by kernel_rfl) (by kernel_rfl) (fun _ _ _ h => h) hHeld (by rfl) ?_ ?_
    rotate_left
    · (intro w hSw; (try dsimp only at hSw); go_simp; try with_reducible rfl)
    try simp only [Act.put, List.setIfInBounds_toArray, List.set_cons_zero, List.set_cons_succ]
    refine heldTake (i := 6) (v := ?_) rfl (by kernel_rfl) (by kernel_rfl) (by kernel_rfl) (fun _ _ _ h => h) hHeld (by rfl) ?_ ?_
    rotate_left
    · (intro w hSw; (try dsimp only at hSw); go_simp; try with_reducible rfl)
    try simp only [Act.put, List.setIfInBounds_toArray, List.set_cons_zero, List.set_cons_succ]
    refine heldTake (i := 7) (v := ?_) rfl (by kernel_rfl) (by kernel_rfl) (by kernel_rfl) (fun _ _ _ h => h) hHeld (by rfl) ?_ ?_
    rotate_left
    · (intro w hSw; (try dsimp only at hSw); go_simp; try with_reducible rfl)
    try simp only [Act.put, List.setIfInBounds_toArray, List.set_cons_zero, List.set_cons_succ]
    refine heldTake (i := 8) (v := ?_) rfl (by kernel_rfl) (by kernel_rfl) (by kernel_rfl) (fun _ _ _ h => h) hHeld (by rfl) ?_ ?_
    rotate_left
    · (intro w hSw; (try dsimp only at hSw); go_simp; try with_reducible rfl)
    try simp only [Act.put, List.setIfInBounds_toArray, List.set_cons_zero, List.set_cons_succ]
    refine heldTake (i := 9) (v := ?_) rfl (by kernel_rfl) (by kernel_rfl) (by kernel_rfl) (fun _ _ _ h => h) hHeld (by rfl) ?_ ?_
    rotate_left
    · (intro w hSw; (try dsimp only at hSw); go_simp; try with_reducible rfl)
    try simp only [Act.put, List.setIfInBounds_toArray, List.set_cons_zero, List.set_cons_succ]
    refine heldStep (i := 10) rfl (by kernel_rfl) (fun K hK => ?_)
    go_simp
    refine HC2.out.mono ?_
    rintro e w1 ⟨rfl, rfl⟩
    exact ⟨rfl, .inr ⟨by omega, rfl, (Kb.refl _ _).drew⟩⟩

/-- What 'guarded' leaves of it. -/
def TkG (W : World) (bv bn : Nat) (l : List UInt8) (m : Nat) (e : Ending) (w' : World) : Prop :=
  (m ≤ l.length ∧ ∃ v, e = .returned (.int .i64 0) ∧ Bk w' bv 25 #[v] ∧ Bk w' bn 3 #[.int .i64 (m : Int)] ∧ Lec.Own w' W.heap.size 5 v (bcs (l.take m)) ∧ Kb [bv, bn] W w') ∨ (l.length < m ∧ e = .returned (.int .i64 20) ∧ Kb [bv, bn] W w')
set_option maxRecDepth 40000 in
set_option maxHeartbeats 800000 in
theorem c_onBG (W : World) (bf br bv bn bm : Nat) {R B : Nat} {A : Option Addr} {n c : Nat} {l : List UInt8} {at_ m : Nat} {e : Int} (h : Rdr W R B A n c l at_ e) (hn : n ≤ 1099511627776) (hm' : m ≤ 1099511627776) (hbm : W.cell? ⟨bm, 0, none⟩ = some (.int .i64 (m : Int)))
    (hf : W.cell? ⟨bf, 0, none⟩ = some (.func (.func 80) #[] #[.pointer (some ⟨bm, 0, none⟩)])) (hr : W.cell? ⟨br, 0, none⟩ = some (.pointer (some ⟨R, 0, none⟩))) (hv : Bk W bv 25 #[.slice none 0 0]) (hm : Bk W bn 3 #[.int .i64 0]) (hne : bv ≠ bn) (hout : bf ∉ [bv, bn] ∧ br ∉ [bv, bn] ∧ R ∉ [bv, bn]) :
    Calls Try.prog 82 #[.func (.func 85) #[] #[.pointer (some ⟨bf, 0, none⟩), .pointer (some ⟨br, 0, none⟩), .pointer (some ⟨bv, 0, none⟩), .pointer (some ⟨bn, 0, none⟩)]] W (TkG W bv bn (l.drop at_) m) := by
  have HE := Bk.new_ W 26 #[.int .i64 0]
  have hbE := (Below.refl W.heap.size W).alloc (Nat.le_refl _) (.cells #[.int .i64 0] 26)
  have lf := World.block_lt_of_cell? W _ hf
  have lr := World.block_lt_of_cell? W _ hr
  have lb := World.block_lt_of_cell? W _ hbm
  have lv := hv.lt
  have lm := hm.lt
  dsimp only at lf lr lb
  have hnl : W.heap.size ∉ [bv, bn] := by simp only [List.mem_cons, List.not_mem_nil, or_false]; omega
  have hsz : (W.alloc (.cells #[.int .i64 0] 26)).heap.size = W.heap.size + 1 := World.size_alloc _ _
  refine (c_cdGuarded W 85 _ (TkClo (W.alloc (.cells #[.int .i64 0] 26)) bv bn (l.drop at_) m) ?_ ?_ ?_).mono ?_
  · intro w; simp [go_sem]
  · exact c_onB1 _ bf br bv bn bm (h.below hbE h.bk.lt) hn hm' ((hbE.cell (p := ⟨bm, 0, none⟩) lb).trans hbm) ((hbE.cell (p := ⟨bf, 0, none⟩) lf).trans hf) ((hbE.cell (p := ⟨br, 0, none⟩) lr).trans hr) (hv.alloc _) (hm.alloc _) hne hout
  · rintro e w' (⟨_, v, rfl, h1, h2, ho, hk⟩ | ⟨_, rfl, hk⟩)
    · exact ⟨.inl rfl, (HE.kb hk hnl).cell 0, (HE.kb hk hnl).frz 0⟩
    · exact ⟨.inr ⟨_, rfl⟩, (HE.kb hk hnl).cell 0, (HE.kb hk hnl).frz 0⟩
  · rintro e w' ⟨e0, w0, (⟨hfit, v, rfl, h1, h2, ho, hk⟩ | ⟨hfit, rfl, hk⟩), he⟩
    · rcases he with ⟨_, rfl, rfl⟩ | ⟨err, h, _⟩
      · refine .inl ⟨hfit, v, rfl, h1.far (by dsimp only; omega) _, h2.far (by dsimp only; omega) _, ?_, ?_⟩
        · exact (Lec.Own.mono (ownsRow_setCell_below ho (a := ⟨W.heap.size, 0, none⟩) (by rw [hsz]; exact Nat.lt_succ_self _) _) (by rw [hsz]; exact Nat.le_succ _))
        · exact ((Kb.of_below hbE).trans hk (fun b hb => .inl hb)).setCell (.inr (Nat.le_refl _)) _
      · cases h
    · rcases he with ⟨h, _⟩ | ⟨err', h, rfl, rfl⟩
      · cases h
      · simp [cdFailVal] at h
        subst h
        exact .inr ⟨hfit, rfl, ((Kb.of_below hbE).trans hk (fun b hb => .inl hb)).setCell (.inr (Nat.le_refl _)) _⟩
end Go.Proofs.Ytjcifmbbdofjiaa
