/- Layer 2: the reader reads a number: the walk. -/
import Derived.Test.YtjcifmbbdofjiaaCdF
import Derived.Test.YtjcifmbbdofjiaaHeldBy
import Derived.IntWalk
namespace Go.Proofs.Ytjcifmbbdofjiaa
open Go.RowKit Go.Lec
/-- What the closure that a reading hands to 'guarded' leaves: two cells written, or something thrown. -/
def OnClo (W : World) (bv bn : Nat) (R : Except Int (Value × Nat)) (e : Ending) (w' : World) : Prop :=
  (∃ v k, R = .ok (v, k) ∧ e = .returned (.tuple #[]) ∧ ∃ q, w' = ((W.drewN q).setCell ⟨bv, 0, none⟩ v).setCell ⟨bn, 0, none⟩ (.int .i64 (k : Int))) ∨ (∃ err, R = .error err ∧ e = .panicked [{ v := cdFailVal err, recovered := false }] ∧ ∃ q, w' = W.drewN q)
/-- What is read of bytes, as a value. -/
def rdV (l : List UInt8) : Except Int (Value × Nat) := (rdU l).map fun p => (.int .u64 (p.1 : Int), p.2)

set_option maxRecDepth 40000 in
set_option maxHeartbeats 800000 in
theorem c_onU1 (W : World) (bf br bv bn : Nat) {R B : Nat} {A : Option Addr} {n c : Nat} {l : List UInt8} {at_ : Nat} {e : Int} (h : Rdr W R B A n c l at_ e) (hn : n ≤ 1099511627776)
    (hf : W.cell? ⟨bf, 0, none⟩ = some (.func (.func 78) #[] #[])) (hr : W.cell? ⟨br, 0, none⟩ = some (.pointer (some ⟨R, 0, none⟩))) (hv : Bk W bv 91 #[.int .u64 0]) (hm : Bk W bn 3 #[.int .i64 0]) (hne : bv ≠ bn) (hout : bf ∉ [bv, bn] ∧ br ∉ [bv, bn] ∧ R ∉ [bv, bn]) :
    Calls Try.prog 84 #[.pointer (some ⟨bf, 0, none⟩), .pointer (some ⟨br, 0, none⟩), .pointer (some ⟨bv, 0, none⟩), .pointer (some ⟨bn, 0, none⟩)] W (OnClo W bv bn (rdV (l.drop at_))) := by
  have q0 := h.bk.cell 1
  have q1 := h.bk.cell 2
  obtain ⟨A', hcut, hrd⟩ := run_cut slb h.rd h.cap h.in_ .i64
  have hdr : (bcs l).drop at_ = bcs (l.drop at_) := by simp [bcs]
  rw [hdr] at hrd
  have hz1 := hv.frz 0
  have hz2 := hm.frz 0
  have c1 := hv.cell 0
  have c2 := hm.cell 0
  have hne' : bn ≠ bv := Ne.symm hne
  have i1 : (0 : Int) ≤ (at_ : Int) := by omega
  have i2 := h.in_
  have HC := Lib.hid (c_readUint W.drew (c := c - at_) hrd.drew (by omega))
  have lf := World.block_lt_of_cell? W _ hf
  have lr := World.block_lt_of_cell? W _ hr
  have lR := h.bk.lt
  have HK := Lib.hid (fun (W' : World) (hk : Kb [bv, bn] W W') => (⟨(hk.cell (p := ⟨bf, 0, none⟩) lf hout.1).trans hf, (hk.cell (p := ⟨br, 0, none⟩) lr hout.2.1).trans hr, (hk.cell (p := ⟨R, 1, none⟩) lR hout.2.2).trans q0, (hk.cell (p := ⟨R, 2, none⟩) lR hout.2.2).trans q1⟩ :
    W'.cell? ⟨bf, 0, none⟩ = some (.func (.func 78) #[] #[]) ∧ W'.cell? ⟨br, 0, none⟩ = some (.pointer (some ⟨R, 0, none⟩)) ∧ W'.cell? ⟨R, 1, none⟩ = some (.slice A n c) ∧ W'.cell? ⟨R, 2, none⟩ = some (.int .i64 at_)))
  clear hdr
  cases hd : rdU (l.drop at_) with
  | ok p =>
    obtain ⟨v, k⟩ := p
    have HC2 := Lib.hid (HC.out.mono (R' := fun e w' => e = .returned (.tuple #[.int .u64 (v : Int), .int .i64 (k : Int)]) ∧ W.drew = w') (by
      rintro e w1 (⟨v', k', h1, rfl, rfl⟩ | ⟨err, h1, rfl, rfl⟩)
      · rw [hd] at h1; cases h1; exact ⟨rfl, rfl⟩
      · rw [hd] at h1; cases h1))
    have Hd := Lib.hid (show rdV (l.drop at_) = .ok (.int .u64 (v : Int), k) from by rw [rdV, hd]; rfl)
    clear hd HC
    go_enter Try.func84, Try.ntmps84
    go_region_held3 (fun w => w.cell? ⟨bf, 0, none⟩ = some (.func (.func 78) #[] #[]) ∧ w.cell? ⟨br, 0, none⟩ = some (.pointer (some ⟨R, 0, none⟩)) ∧ w.cell? ⟨R, 1, none⟩ = some (.slice A n c) ∧ w.cell? ⟨R, 2, none⟩ = some (.int .i64 at_))
      ((refine HK.out _ ?_; first | exact (Kb.refl _ _).drew | exact ((Kb.refl _ _).setCell (.inl (by simp)) _).drew | exact (((Kb.refl _ _).setCell (.inl (by simp)) _).setCell (.inl (by simp)) _).drew))
      (first | (go_at_call 78; refine HC2.out.mono ?_; rintro e w1 ⟨rfl, rfl⟩))
    go_wp2
    go_end0
    exact .inl ⟨_, _, Hd.out, rfl, 1, rfl⟩
  | error err =>
    have HC2 := Lib.hid (HC.out.mono (R' := fun e w' => e = .panicked [{ v := cdFailVal err, recovered := false }] ∧ W.drew = w') (by
      rintro e w1 (⟨v', k', h1, rfl, rfl⟩ | ⟨err', h1, rfl, rfl⟩)
      · rw [hd] at h1; cases h1
      · rw [hd] at h1; cases h1; exact ⟨rfl, rfl⟩))
    have Hd := Lib.hid (show rdV (l.drop at_) = .error err from by rw [rdV, hd]; rfl)
    clear hd HC
    go_enter Try.func84, Try.ntmps84
    have hHeld : (fun w : World => w.cell? ⟨bf, 0, none⟩ = some (.func (.func 78) #[] #[]) ∧ w.cell? ⟨br, 0, none⟩ = some (.pointer (some ⟨R, 0, none⟩)) ∧ w.cell? ⟨R, 1, none⟩ = some (.slice A n c) ∧ w.cell? ⟨R, 2, none⟩ = some (.int .i64 at_)) _ := ⟨hf, hr, q0, q1⟩
    refine wp_region_held (S := fun w : World => w.cell? ⟨bf, 0, none⟩ = some (.func (.func 78) #[] #[]) ∧ w.cell? ⟨br, 0, none⟩ = some (.pointer (some ⟨R, 0, none⟩)) ∧ w.cell? ⟨R, 1, none⟩ = some (.slice A n c) ∧ w.cell? ⟨R, 2, none⟩ = some (.int .i64 at_)) (by kernel_rfl) ?_
    simp only [List.size_toArray, List.length_cons, List.length_nil, Nat.reduceAdd]
    refine heldTake (i := 0) (v := ?_) rfl (by kernel_rfl) (by kernel_rfl) (by kernel_rfl) (fun _ _ _ h => h) hHeld (by rfl) ?_ ?_
    rotate_left
    · (intro w hSw; (try dsimp only at hSw); go_simp; try with_reducible rfl)
    try simp only [Act.put, List.setIfInBounds_toArray, List.set_cons_zero, List.set_cons_succ]
    refine heldTake (i := 1) (v := ?_) rfl (by kernel_rfl) (by kernel_rfl) (by kernel_rfl) (fun _ _ _ h => h) hHeld (by rfl) ?_ ?_
    rotate_left
    · (intro w hSw; (try dsimp only at hSw); go_simp; try with_reducible rfl)
    try simp only [Act.put, List.setIfInBounds_toArray, List.set_cons_zero, List.set_cons_succ]
    refine heldTake (i := 2) (v := ?_) rfl (by kernel_rfl) (by kernel_rfl) (by kernel_rfl) (fun _ _ _ h => h) hHeld (by rfl) ?_ ?_
    rotate_left
    · (intro w hSw; (try dsimp only at hSw); go_simp; try with_reducible rfl)
    try simp only [Act.put, List.setIfInBounds_toArray, List.set_cons_zero, List.set_cons_succ]
    refine heldTake (i := 3) (v := ?_) rfl (by kernel_rfl) (by kernel_rfl) (by kernel_rfl) (fun _ _ _ h => h) hHeld (by rfl) ?_ ?_
    rotate_left
    · (intro w hSw; (try dsimp only at hSw); go_simp; try with_reducible rfl)
    try simp only [Act.put, List.setIfInBounds_toArray, List.set_cons_zero, List.set_cons_succ]
    refine heldTake (i := 4) (v := ?_) rfl (by kernel_rfl) (by kernel_rfl) (by kernel_rfl) (fun _ _ _ h => h) hHeld (by rfl) ?_ ?_
    rotate_left
    · (intro w hSw; (try dsimp only at hSw); go_simp; try with_reducible rfl)
    try simp only [Act.put, List.setIfInBounds_toArray, List.set_cons_zero, List.set_cons_succ]
    refine heldTake (i := 5) (v := ?_) rfl (by kernel_rfl) (by kernel_rfl) (by kernel_rfl) (fun _ _ _ h => h) hHeld (by rfl) ?_ ?_
    rotate_left
    · (intro w hSw; (try dsimp only at hSw); go_simp; try with_reducible rfl)
    try simp only [Act.put, List.setIfInBounds_toArray, List.set_cons_zero, List.set_cons_succ]
    refine heldTake (i := 6) (v := ?_) rfl (by kernel_rfl) (by kernel_rfl) (by kernel_rfl) (fun _ _ _ h => h) hHeld (by rfl) ?_ ?_
    rotate_left
    · (intro w hSw; (try dsimp only at hSw); go_simp; try with_reducible rfl)
    try simp only [Act.put, List.setIfInBounds_toArray, List.set_cons_zero, List.set_cons_succ]
    refine heldTake (i := 7) (v := ?_) rfl (by kernel_rfl) (by kernel_rfl) (by kernel_rfl) (fun _ _ _ h => h) hHeld (by rfl) ?_ ?_
    rotate_left
    · (intro w hSw; (try dsimp only at hSw); go_simp; try with_reducible rfl)
    try simp only [Act.put, List.setIfInBounds_toArray, List.set_cons_zero, List.set_cons_succ]
    refine heldTake (i := 8) (v := ?_) rfl (by kernel_rfl) (by kernel_rfl) (by kernel_rfl) (fun _ _ _ h => h) hHeld (by rfl) ?_ ?_
    rotate_left
    · (intro w hSw; (try dsimp only at hSw); go_simp; try with_reducible rfl)
    try simp only [Act.put, List.setIfInBounds_toArray, List.set_cons_zero, List.set_cons_succ]
    refine heldTake (i := 9) (v := ?_) rfl (by kernel_rfl) (by kernel_rfl) (by kernel_rfl) (fun _ _ _ h => h) hHeld (by rfl) ?_ ?_
    rotate_left
    · (intro w hSw; (try dsimp only at hSw); go_simp; try with_reducible rfl)
    try simp only [Act.put, List.setIfInBounds_toArray, List.set_cons_zero, List.set_cons_succ]
    refine heldStep (i := 10) rfl (by kernel_rfl) (fun K hK => ?_)
    go_simp
    refine HC2.out.mono ?_
    rintro e w1 ⟨rfl, rfl⟩
    exact ⟨rfl, .inr ⟨err, Hd.out, rfl, 1, rfl⟩⟩

/-- What 'guarded' leaves of it. -/
def OnG (W : World) (bv bn : Nat) (R : Except Int (Value × Nat)) (e : Ending) (w' : World) : Prop :=
  (∃ v k, R = .ok (v, k) ∧ e = .returned (.int .i64 0) ∧ Bk w' bv 91 #[v] ∧ Bk w' bn 3 #[.int .i64 (k : Int)] ∧ Kb [bv, bn] W w') ∨ (∃ err, R = .error err ∧ e = .returned (.int .i64 err) ∧ Kb [bv, bn] W w')
set_option maxRecDepth 40000 in
set_option maxHeartbeats 800000 in
theorem c_onUG (W : World) (bf br bv bn : Nat) {R B : Nat} {A : Option Addr} {n c : Nat} {l : List UInt8} {at_ : Nat} {e : Int} (h : Rdr W R B A n c l at_ e) (hn : n ≤ 1099511627776)
    (hf : W.cell? ⟨bf, 0, none⟩ = some (.func (.func 78) #[] #[])) (hr : W.cell? ⟨br, 0, none⟩ = some (.pointer (some ⟨R, 0, none⟩))) (hv : Bk W bv 91 #[.int .u64 0]) (hm : Bk W bn 3 #[.int .i64 0]) (hne : bv ≠ bn) (hout : bf ∉ [bv, bn] ∧ br ∉ [bv, bn] ∧ R ∉ [bv, bn]) :
    Calls Try.prog 82 #[.func (.func 84) #[] #[.pointer (some ⟨bf, 0, none⟩), .pointer (some ⟨br, 0, none⟩), .pointer (some ⟨bv, 0, none⟩), .pointer (some ⟨bn, 0, none⟩)]] W (OnG W bv bn (rdV (l.drop at_))) := by
  have HE := Bk.new_ W 26 #[.int .i64 0]
  have hbE := (Below.refl W.heap.size W).alloc (Nat.le_refl _) (.cells #[.int .i64 0] 26)
  have lf := World.block_lt_of_cell? W _ hf
  have lr := World.block_lt_of_cell? W _ hr
  have lv := hv.lt
  have lm := hm.lt
  dsimp only at lf lr
  refine (c_cdGuarded W 84 _ (OnClo (W.alloc (.cells #[.int .i64 0] 26)) bv bn (rdV (l.drop at_))) ?_ ?_ ?_).mono ?_
  · intro w; simp [go_sem]
  · exact c_onU1 _ bf br bv bn (h.below hbE h.bk.lt) hn ((hbE.cell (p := ⟨bf, 0, none⟩) lf).trans hf) ((hbE.cell (p := ⟨br, 0, none⟩) lr).trans hr) (hv.alloc _) (hm.alloc _) hne hout
  · rintro e w' (⟨v, k, hd, rfl, q, rfl⟩ | ⟨err, hd, rfl, q, rfl⟩)
    · have h := ((HE.drewN q).far (p := ⟨bv, 0, none⟩) (by dsimp only; omega) v).far (p := ⟨bn, 0, none⟩) (by dsimp only; omega) (.int .i64 (k : Int))
      exact ⟨.inl rfl, h.cell 0, h.frz 0⟩
    · exact ⟨.inr ⟨err, rfl⟩, (HE.drewN q).cell 0, (HE.drewN q).frz 0⟩
  · rintro e w' ⟨e0, w0, (⟨v, k, hd, rfl, q, rfl⟩ | ⟨err, hd, rfl, q, rfl⟩), he⟩
    · rcases he with ⟨_, rfl, rfl⟩ | ⟨err, h, _⟩
      · refine .inl ⟨v, k, hd, rfl, ?_, ?_, ?_⟩
        · exact (((((hv.alloc _).drewN q).set_ 0 _).far (by dsimp only; omega) _).far (by dsimp only; omega) _)
        · exact (((((hm.alloc _).drewN q).far (by dsimp only; omega) _).set_ 0 _).far (by dsimp only; omega) _)
        · exact (((((Kb.refl [bv, bn] W).alloc _).drewN q).setCell (.inl (by simp)) _).setCell (.inl (by simp)) _).setCell (.inr (Nat.le_refl _)) _
      · cases h
    · rcases he with ⟨h, _⟩ | ⟨err', h, rfl, rfl⟩
      · cases h
      · simp [cdFailVal] at h
        subst h
        exact .inr ⟨err, hd, rfl, (((Kb.refl [bv, bn] W).alloc _).drewN q).setCell (.inr (Nat.le_refl _)) _⟩

/-- A reading's end: the value, or nothing and an error that stays. -/
def RdEnd (w : World) (R B : Nat) (A : Option Addr) (n c : Nat) (l : List UInt8) (at_ : Nat) (r : Except Int (Value × Nat)) (zero : Value) (e : Ending) (w' : World) : Prop :=
  (∃ v k, r = .ok (v, k) ∧ e = .returned v ∧ Rdr w' R B A n c l (at_ + k) 0 ∧ Kb [R] w w') ∨ (∃ err, r = .error err ∧ e = .returned zero ∧ Rdr w' R B A n c l at_ err ∧ Kb [R] w w')

set_option maxRecDepth 40000 in
set_option maxHeartbeats 1600000 in
theorem c_RUint (w : World) {R B : Nat} {A : Option Addr} {n c : Nat} {l : List UInt8} {at_ : Nat} (h : Rdr w R B A n c l at_ 0) (hn : n ≤ 1099511627776) :
    Calls Try.prog 77 #[.pointer (some ⟨R, 0, none⟩), .func (.func 78) #[] #[]] w (RdEnd w R B A n c l at_ (rdV (l.drop at_)) (.int .u64 0)) := by
  have hmf : ∀ (fn : Fn) (first cap : Array Value) (w : World), (Instr.makeFunc fn first cap).run Try.prog w = .ok (.func fn first cap) w := fun _ _ _ _ => rfl
  have lR := h.bk.lt
  go_enter Try.func77, Try.ntmps77
  go_wp2_with fail
  obtain ⟨H0, H1, H2, hsz, hBl⟩ := Bk.new3 w 104 #[.pointer (some ⟨R, 0, none⟩)] 117 #[.func (.func 78) #[] #[]] 91 #[.int .u64 0]
  generalize (((w.alloc (.cells #[.pointer (some ⟨R, 0, none⟩)] 104)).alloc (.cells #[.func (.func 78) #[] #[]] 117)).alloc (.cells #[.int .u64 0] 91)) = W3 at *
  obtain ⟨b0, hb0⟩ : ∃ b, b = w.heap.size := ⟨_, rfl⟩
  have hR3 := h.below hBl lR
  have q3 := hR3.bk.cell
  rw [← hb0] at H0 H1 H2 hsz hBl lR ⊢
  have Hb0 := Lib.hid hb0
  have Hsz := Lib.hid hsz
  clear hb0 hsz
  refine (c_Ris W3 hR3).mono ?_
  rintro e w' ⟨rfl, rfl⟩
  have g0 := H0.cell 0
  go_upto_region 5 with fail
  have H3 := Bk.new_ W3 3 #[.int .i64 0]
  have hB4 := hBl.alloc (o := .cells #[.int .i64 0] 3) (by have := Hsz.out; omega)
  have H0' := H0.alloc (.cells #[.int .i64 0] 3)
  have H1' := H1.alloc (.cells #[.int .i64 0] 3)
  have H2' := H2.alloc (.cells #[.int .i64 0] 3)
  rw [Hb0.out] at hB4
  have hR4 := h.below hB4 (by have := Hb0.out; omega)
  rw [Hsz.out] at H3
  have hz4 : (W3.alloc (.cells #[.int .i64 0] 3)).heap.size = b0 + 4 := by rw [World.size_alloc, Hsz.out]
  obtain ⟨W4, hW4⟩ : ∃ W, W = W3.alloc (.cells #[.int .i64 0] 3) := ⟨_, rfl⟩
  rw [← hW4] at H3 H0' H1' H2' hR4 hB4 hz4
  rw [Hsz.out, ← hW4]
  clear hW4 H0 H1 H2 hR3 q3 g0 hBl Hsz
  have hout : b0 + 1 ∉ [b0 + 1 + 1, b0 + 1 + 1 + 1] ∧ b0 ∉ [b0 + 1 + 1, b0 + 1 + 1 + 1] ∧ R ∉ [b0 + 1 + 1, b0 + 1 + 1 + 1] := by
    refine ⟨?_, ?_, ?_⟩ <;> (simp only [List.mem_cons, List.not_mem_nil, or_false]; omega)
  have HC := Lib.hid (c_onUG W4.drew (b0 + 1) b0 (b0 + 1 + 1) (b0 + 1 + 1 + 1) (e := 0) ⟨hR4.bk.drew, hR4.rd.drew, hR4.cap, hR4.low, hR4.in_⟩ hn (H1'.drew.cell 0) (H0'.drew.cell 0) H2'.drew H3.drew (by omega) hout)
  have HK := Lib.hid (fun (W' : World) (hk : Kb [b0 + 1 + 1, b0 + 1 + 1 + 1, R] W4 W') => (H0'.kb hk (by simp only [List.mem_cons, List.not_mem_nil, or_false]; omega)).cell 0)
  have g0 := H0'.cell 0
  have hkb0 : Kb [R] w W4 := ⟨hB4.os, hB4.tape, hB4.output, hB4.size, fun k hk _ => hB4.block k hk⟩
  have hR2 : R ∉ [b0 + 1 + 1, b0 + 1 + 1 + 1] := hout.2.2
  clear hout
  cases hd : rdV (l.drop at_) with
  | ok p =>
    obtain ⟨v, k⟩ := p
    have hk1 : k ≤ n - at_ ∧ ∃ x : Nat, v = .int .u64 (x : Int) := by
      unfold rdV at hd
      cases h2 : rdU (l.drop at_) with
      | error e2 => rw [h2] at hd; cases hd
      | ok p2 =>
        rw [h2] at hd
        cases hd
        have h3 := (rdU_len (k := p2.2) (n := p2.1) h2).2
        rw [List.length_drop, h.len] at h3
        exact ⟨h3, _, rfl⟩
    obtain ⟨hk1, x, rfl⟩ := hk1
    have hin := h.in_
    have i3 : IntKind.i64.wrap ((at_ : Int) + (k : Int)) = (at_ : Int) + (k : Int) := IntWalk.i64_in _ (by omega)
    have HC2 := Lib.hid (HC.out.mono (R' := fun e w' => e = .returned (.int .i64 0) ∧ Bk w' (b0 + 1 + 1) 91 #[.int .u64 (x : Int)] ∧ Bk w' (b0 + 1 + 1 + 1) 3 #[.int .i64 (k : Int)] ∧ Kb [b0 + 1 + 1, b0 + 1 + 1 + 1] W4 w') (by
      rintro e w1 (⟨v', k', h1, rfl, h2, h3, h4⟩ | ⟨err, h1, _⟩)
      · rw [hd] at h1; cases h1; exact ⟨rfl, h2, h3, ⟨h4.os, h4.tape, h4.output, h4.size, h4.block⟩⟩
      · rw [hd] at h1; cases h1))
    have Hd := Lib.hid hd
    clear hd HC
    go_region_held3 (fun W => W.cell? ⟨b0, 0, none⟩ = some (.pointer (some ⟨R, 0, none⟩)))
      ((refine HK.out _ ?_; first | exact (Kb.refl _ _).drew | exact hkm | exact hkm.setCell (.inl (by simp)) _))
      (first | (go_at_call 82; refine HC2.out.mono ?_; rintro e w1 ⟨rfl, hv1, hn1, hk⟩; have HR1 := hR4.bk.kb hk hR2; have r3 := HR1.cell 3; have z3 := HR1.frz 3; have hkm := hk.more (S' := [b0 + 1 + 1, b0 + 1 + 1 + 1, R]) (fun b hb => by simp only [List.mem_cons, List.not_mem_nil, or_false] at hb ⊢; omega)))
    have HR5 := HR1.set_ 3 (.int .i64 0)
    have Hv5 := hv1.far (p := ⟨R, 3, none⟩) (by dsimp only; omega) (.int .i64 0)
    have Hn5 := hn1.far (p := ⟨R, 3, none⟩) (by dsimp only; omega) (.int .i64 0)
    have H05 := (H0'.kb hkm (by simp only [List.mem_cons, List.not_mem_nil, or_false]; omega)).far (p := ⟨R, 3, none⟩) (by dsimp only; omega) (.int .i64 0)
    have c0 := H05.cell 0
    have cv := Hv5.cell 0
    have cn := Hn5.cell 0
    have cR := HR5.cell
    have zR := HR5.frz
    clear r3 z3
    have Hv6 := Hv5.far (p := ⟨R, 2, none⟩) (by dsimp only; omega) (.int .i64 ((at_ : Int) + (k : Int)))
    have cv6 := Hv6.cell 0
    go_wp2
    go_region
    go_wp2
    go_ret
    have hk6 := (((hkm.setCell (p := ⟨R, 3, none⟩) (.inl (by simp)) (.int .i64 0)).setCell (p := ⟨R, 2, none⟩) (.inl (by simp)) (.int .i64 ((at_ : Int) + (k : Int)))).drew)
    have hkf : Kb [R] w _ := hkb0.trans hk6 (fun b hb => by have := Hb0.out; simp only [List.mem_cons, List.not_mem_nil, or_false] at hb ⊢; omega)
    refine .inl ⟨_, k, Hd.out, rfl, ⟨?_, ?_, h.cap, h.low, by omega⟩, hkf⟩
    · exact (HR5.set_ 2 _).drew
    · exact h.rd.keep (fun p hp => hkf.cell (by have := Hb0.out; have := h.low; omega) (by simp only [List.mem_cons, List.not_mem_nil, or_false]; have := h.low; omega))
  | error err =>
    have herr : err ≠ 0 := by
      unfold rdV at hd
      cases h2 : rdU (l.drop at_) with
      | error e2 =>
        rw [h2] at hd
        cases hd
        rcases rdU_err h2 with rfl | rfl <;> decide
      | ok p2 => rw [h2] at hd; cases hd
    have herr' : ((err : Int) != 0) = true := by simpa using herr
    have HC2 := Lib.hid (HC.out.mono (R' := fun e w' => e = .returned (.int .i64 err) ∧ Kb [b0 + 1 + 1, b0 + 1 + 1 + 1] W4 w') (by
      rintro e w1 (⟨v', k', h1, rfl, h2, h3, h4⟩ | ⟨err', h1, rfl, h4⟩)
      · rw [hd] at h1; cases h1
      · rw [hd] at h1; cases h1; exact ⟨rfl, ⟨h4.os, h4.tape, h4.output, h4.size, h4.block⟩⟩))
    have Hd := Lib.hid hd
    clear hd HC herr
    go_region_held3 (fun W => W.cell? ⟨b0, 0, none⟩ = some (.pointer (some ⟨R, 0, none⟩)))
      ((refine HK.out _ ?_; first | exact (Kb.refl _ _).drew | exact hkm | exact hkm.setCell (.inl (by simp)) _))
      (first | (go_at_call 82; refine HC2.out.mono ?_; rintro e w1 ⟨rfl, hk⟩; have HR1 := hR4.bk.kb hk hR2; have r3 := HR1.cell 3; have z3 := HR1.frz 3; have hkm := hk.more (S' := [b0 + 1 + 1, b0 + 1 + 1 + 1, R]) (fun b hb => by simp only [List.mem_cons, List.not_mem_nil, or_false] at hb ⊢; omega)))
    have HR5 := HR1.set_ 3 (.int .i64 err)
    have H05 := (H0'.kb hkm (by simp only [List.mem_cons, List.not_mem_nil, or_false]; omega)).far (p := ⟨R, 3, none⟩) (by dsimp only; omega) (.int .i64 err)
    have c0 := H05.cell 0
    have cR := HR5.cell
    clear r3 z3
    have hk6 := hkm.setCell (p := ⟨R, 3, none⟩) (.inl (by simp)) (.int .i64 err)
    have hkf : Kb [R] w _ := hkb0.trans hk6 (fun b hb => by have := Hb0.out; simp only [List.mem_cons, List.not_mem_nil, or_false] at hb ⊢; omega)
    go_wp2
    go_ret
    refine .inr ⟨err, Hd.out, rfl, ⟨HR5, ?_, h.cap, h.low, h.in_⟩, hkf⟩
    exact h.rd.keep (fun p hp => hkf.cell (by have := Hb0.out; have := h.low; omega) (by simp only [List.mem_cons, List.not_mem_nil, or_false]; have := h.low; omega))
end Go.Proofs.Ytjcifmbbdofjiaa
