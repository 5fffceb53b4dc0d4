/- Layer 20: Restarts: the walk. -/
import Derived.Test.YtjcifmbbdofjiaaBlF
namespace Go.Proofs.Ytjcifmbbdofjiaa
open Go.RowKit Go.Lec Go.Op
/-- What Restarts' closure does. -/
def RsPost (W : World) (bo : Nat) (b : List UInt8) (e : Ending) (w' : World) : Prop :=
  (∃ (l : List En) (ps : List Nat) (v : Value), ckB b = .ok (l, ps) ∧ e = .returned (.tuple #[]) ∧ Bk w' bo 40 #[v] ∧ Lec.Own w' W.heap.size 3 v (ncs ps) ∧ Kb [bo] W w') ∨
  (∃ err, ckB b = .error err ∧ e = .panicked [{ v := blFailVal err, recovered := false }] ∧ Kb [bo] W w')
set_option maxRecDepth 40000 in
set_option maxHeartbeats 800000 in
theorem c_Restarts1 (W : World) (bb bo : Nat) {B n c : Nat} {A : Option Addr} {b : List UInt8} (hr : Rd W B A n (bcs b)) (hc : n ≤ c) (hB : B ≤ W.heap.size) (hn : n ≤ 1099511627776)
    (q0 : W.cell? ⟨bb, 0, none⟩ = some (.slice A n c)) (hO : Bk W bo 40 #[.slice none 0 0]) :
    Calls Try.prog 35 #[.pointer (some ⟨bb, 0, none⟩), .pointer (some ⟨bo, 0, none⟩)] W (RsPost W bo b) := by
  have lo := hO.lt
  go_enter Try.func35, Try.ntmps35
  go_wp2_with fail
  refine (c_checked W hr hc hB hn).mono ?_
  rintro e W1 (⟨l, ps, A1, n1, c1, Ap, np, cp, X, hu, rfl, hG, hXn, hXl, hP, _, hn1, _, _⟩ | ⟨err, hu, rfl, hb1⟩)
  · have hO1 := hO.below hG.below lo
    have qc := hO1.cell
    have qz := hO1.frz
    have hk1 : Kb [bo] W W1 := Kb.of_below hG.below
    have Hu := Lib.hid hu
    clear hu hG hXl hXn
    go_wp2
    go_end0
    exact .inl ⟨l, ps, _, Hu.out, rfl, hO1.set_ 0 _, ownsRow_setCell_below hP (a := ⟨bo, 0, none⟩) (by dsimp only; omega) _, hk1.setCell (.inl (by simp)) _⟩
  · exact ⟨rfl, .inr ⟨err, hu, rfl, Kb.of_below hb1⟩⟩
/-- What 'guarded' leaves of it. -/
def RsGPost (W : World) (bo : Nat) (b : List UInt8) (e : Ending) (w' : World) : Prop :=
  (∃ (l : List En) (ps : List Nat) (v : Value), ckB b = .ok (l, ps) ∧ e = .returned (.int .i64 0) ∧ Bk w' bo 40 #[v] ∧ Lec.Own w' W.heap.size 3 v (ncs ps) ∧ Kb [bo] W w') ∨
  (∃ err, ckB b = .error err ∧ e = .returned (.int .i64 err) ∧ Kb [bo] W w')
theorem c_RestartsG (W : World) (bb bo : Nat) {B n c : Nat} {A : Option Addr} {b : List UInt8} (hr : Rd W B A n (bcs b)) (hc : n ≤ c) (hB : B ≤ W.heap.size) (hn : n ≤ 1099511627776)
    (q0 : W.cell? ⟨bb, 0, none⟩ = some (.slice A n c)) (hO : Bk W bo 40 #[.slice none 0 0]) :
    Calls Try.prog 28 #[.func (.func 35) #[] #[.pointer (some ⟨bb, 0, none⟩), .pointer (some ⟨bo, 0, none⟩)]] W (RsGPost W bo b) := by
  have HE := Bk.new_ W 26 #[.int .i64 0]
  have hbE := (Below.refl W.heap.size W).alloc (Nat.le_refl _) (.cells #[.int .i64 0] 26)
  have lb := World.block_lt_of_cell? W _ q0
  have lo := hO.lt
  have hz : (W.alloc (.cells #[.int .i64 0] 26)).heap.size = W.heap.size + 1 := by simp
  dsimp only at lb
  refine (c_blGuarded W 35 _ (RsPost (W.alloc (.cells #[.int .i64 0] 26)) bo b) ?_ ?_ ?_).mono ?_
  · intro w; simp [go_sem]
  · exact c_Restarts1 _ bb bo (hr.below hbE hB) hc (by omega) hn ((hbE.cell (p := ⟨bb, 0, none⟩) lb).trans q0) (hO.alloc _)
  · rintro e w' (⟨l, ps, v, hu, rfl, h1, h2, hk⟩ | ⟨err, hu, rfl, hk⟩)
    · have h := HE.kb hk (by simp; omega)
      exact ⟨.inl rfl, h.cell 0, h.frz 0⟩
    · have h := HE.kb hk (by simp; omega)
      exact ⟨.inr ⟨err, rfl⟩, h.cell 0, h.frz 0⟩
  · rintro e w' ⟨e0, w1, (⟨l, ps, v, hu, rfl, h1, h2, hk⟩ | ⟨err, hu, rfl, hk⟩), he⟩
    · rcases he with ⟨_, rfl, rfl⟩ | ⟨err, h, _⟩
      · refine .inl ⟨l, ps, v, hu, rfl, h1.far (by dsimp only; omega) _, ?_, ?_⟩
        · exact Lec.Own.mono (ownsRow_setCell_below h2 (a := ⟨W.heap.size, 0, none⟩) (by dsimp only; omega) _) (by omega)
        · exact (((Kb.refl [bo] W).alloc _).trans hk (fun b hb => .inl hb)).setCell (.inr (Nat.le_refl _)) _
      · cases h
    · rcases he with ⟨h, _⟩ | ⟨err', h, rfl, rfl⟩
      · cases h
      · simp [blFailVal] at h
        subst h
        exact .inr ⟨err, hu, rfl, (((Kb.refl [bo] W).alloc _).trans hk (fun b hb => .inl hb)).setCell (.inr (Nat.le_refl _)) _⟩

/-- What Restarts answers. -/
def RestPost (w : World) (b : List UInt8) (e : Ending) (w' : World) : Prop :=
  (∃ (l : List En) (ps : List Nat) (A c : _), ckB b = .ok (l, ps) ∧ e = .returned (.tuple #[.slice A ps.length c, .int .i64 0]) ∧ Rd w' w'.heap.size A ps.length (ncs ps) ∧ Below w.heap.size w w') ∨
  (∃ err, ckB b = .error err ∧ e = .returned (.tuple #[.slice none 0 0, .int .i64 err]) ∧ Below w.heap.size w w')
set_option maxRecDepth 40000 in
set_option maxHeartbeats 800000 in
theorem c_BlRestarts (w : World) {B n c : Nat} {A : Option Addr} {b : List UInt8} (hr : Rd w B A n (bcs b)) (hc : n ≤ c) (hB : B ≤ w.heap.size) (hn : n ≤ 1099511627776) :
    Calls Try.prog 16 #[.slice A n c] w (RestPost w b) := by
  have hmf : ∀ (fn : Fn) (first cap : Array Value) (w : World), (Instr.makeFunc fn first cap).run Try.prog w = .ok (.func fn first cap) w := fun _ _ _ _ => rfl
  have hb0 := ((Below.refl w.heap.size w).alloc (Nat.le_refl _) (.cells #[.slice A n c] 25)).alloc (by simp) (.cells #[.slice none 0 0] 40)
  have H0 := ((Bk.new_ w 25 #[.slice A n c]).alloc (.cells #[.slice none 0 0] 40)).cell 0
  have H1 := Bk.new_ (w.alloc (.cells #[.slice A n c] 25)) 40 #[.slice none 0 0]
  rw [World.size_alloc] at H1
  have HC := Lib.hid (c_RestartsG _ w.heap.size (w.heap.size + 1) (hr.below hb0 hB) hc (Nat.le_trans hB hb0.size) hn H0 H1)
  clear H0 H1
  go_enter Try.func16, Try.ntmps16
  go_wp2_with fail
  refine HC.out.mono ?_
  rintro e w1 (⟨l, ps, v, hu, rfl, h1, h2, hk⟩ | ⟨err, hu, rfl, hk⟩)
  · have hbw : Below w.heap.size w w1 := hb0.trans ((hk.below (B := w.heap.size) (by intro b hb; simp at hb; omega) (by simp; omega)))
    have q := h1.cell
    obtain ⟨A1, c1, rfl, hc1⟩ := h2.shapeN (n := ps.length) (ncs_length ps)
    have hR := Lec.Own.rd h2
    have Hu := Lib.hid hu
    clear hu h1 h2 hk
    go_wp2
    go_ret2
    exact .inl ⟨l, ps, _, _, Hu.out, rfl, hR, hbw⟩
  · have hne : (err != 0) = true := by have := ckB_err hu; rw [bne_iff_ne]; omega
    have hbw : Below w.heap.size w w1 := hb0.trans ((hk.below (B := w.heap.size) (by intro b hb; simp at hb; omega) (by simp; omega)))
    have Hu := Lib.hid hu
    clear hu hk
    go_wp2
    go_ret2
    exact .inr ⟨err, Hu.out, rfl, hbw⟩
end Go.Proofs.Ytjcifmbbdofjiaa
