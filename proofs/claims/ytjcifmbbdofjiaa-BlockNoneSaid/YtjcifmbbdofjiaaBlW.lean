/- Layer 20: Build and Size, where the keys rise: the walks. -/
import Derived.Test.YtjcifmbbdofjiaaBlV
namespace Go.Proofs.Ytjcifmbbdofjiaa
open Go.RowKit Go.Lec Go.Op
/-- What Build's closure does. -/
def B1Post (W : World) (bo : Nat) (l : List UInt8) (e : Ending) (w' : World) : Prop :=
  ∃ v, e = .returned (.tuple #[]) ∧ Bk w' bo 25 #[v] ∧ Lec.Own w' W.heap.size 5 v (bcs l) ∧ Kb [bo] W w'
set_option maxRecDepth 40000 in
set_option maxHeartbeats 800000 in
theorem c_Build1 (W : World) (bl be bo : Nat) {B N c every : Nat} {A : Option Addr} {L : List Pr} (hp : Prs W B A N L) (hB : B ≤ W.heap.size) (he1 : 1 ≤ every) (he2 : every ≤ 1024) (hr : risen (L.map Pr.pl)) (hf : tot (L.map Pr.pl) ≤ 4000)
    (q0 : W.cell? ⟨bl, 0, none⟩ = some (.slice A N c)) (q1 : W.cell? ⟨be, 0, none⟩ = some (.int .i64 (every : Int))) (hO : Bk W bo 25 #[.slice none 0 0]) :
    Calls Try.prog 29 #[.pointer (some ⟨bl, 0, none⟩), .pointer (some ⟨be, 0, none⟩), .pointer (some ⟨bo, 0, none⟩)] W (B1Post W bo (bld (L.map Pr.pl) every)) := by
  have lo := hO.lt
  have HC := Lib.hid (c_build W (c := c) hp hB he1 he2 hr hf)
  go_enter Try.func29, Try.ntmps29
  go_wp2_with fail
  refine HC.out.mono ?_
  rintro e W1 ⟨v, rfl, ho, hb⟩
  obtain ⟨A1, c1, rfl, hc1⟩ := ho.shapeN (n := (bld (L.map Pr.pl) every).length) (bcs_length _)
  have hO1 := hO.below hb lo
  have qc := hO1.cell
  have qz := hO1.frz
  have hk1 : Kb [bo] W W1 := Kb.of_below hb
  go_wp2
  go_end0
  exact ⟨_, rfl, hO1.set_ 0 _, ownsRow_setCell_below ho (a := ⟨bo, 0, none⟩) (by dsimp only; omega) _, hk1.setCell (.inl (by simp)) _⟩
/-- What 'guarded' leaves of it. -/
def BGPost (W : World) (bo : Nat) (l : List UInt8) (e : Ending) (w' : World) : Prop :=
  ∃ v, e = .returned (.int .i64 0) ∧ Bk w' bo 25 #[v] ∧ Lec.Own w' W.heap.size 5 v (bcs l) ∧ Kb [bo] W w'
theorem c_BuildG (W : World) (bl be bo : Nat) {B N c every : Nat} {A : Option Addr} {L : List Pr} (hp : Prs W B A N L) (hB : B ≤ W.heap.size) (he1 : 1 ≤ every) (he2 : every ≤ 1024) (hr : risen (L.map Pr.pl)) (hf : tot (L.map Pr.pl) ≤ 4000)
    (q0 : W.cell? ⟨bl, 0, none⟩ = some (.slice A N c)) (q1 : W.cell? ⟨be, 0, none⟩ = some (.int .i64 (every : Int))) (hO : Bk W bo 25 #[.slice none 0 0]) :
    Calls Try.prog 28 #[.func (.func 29) #[] #[.pointer (some ⟨bl, 0, none⟩), .pointer (some ⟨be, 0, none⟩), .pointer (some ⟨bo, 0, none⟩)]] W (BGPost W bo (bld (L.map Pr.pl) every)) := by
  have HE := Bk.new_ W 26 #[.int .i64 0]
  have hbE := (Below.refl W.heap.size W).alloc (Nat.le_refl _) (.cells #[.int .i64 0] 26)
  have lb := World.block_lt_of_cell? W _ q0
  have le := World.block_lt_of_cell? W _ q1
  have lo := hO.lt
  have hz : (W.alloc (.cells #[.int .i64 0] 26)).heap.size = W.heap.size + 1 := by simp
  dsimp only at lb le
  refine (c_blGuarded W 29 _ (B1Post (W.alloc (.cells #[.int .i64 0] 26)) bo (bld (L.map Pr.pl) every)) ?_ ?_ ?_).mono ?_
  · intro w; simp [go_sem]
  · exact c_Build1 _ bl be bo (hp.below hbE hB) (by omega) he1 he2 hr hf ((hbE.cell (p := ⟨bl, 0, none⟩) lb).trans q0) ((hbE.cell (p := ⟨be, 0, none⟩) le).trans q1) (hO.alloc _)
  · rintro e w' ⟨v, rfl, h1, h2, hk⟩
    have h := HE.kb hk (by simp; omega)
    exact ⟨.inl rfl, h.cell 0, h.frz 0⟩
  · rintro e w' ⟨e0, w1, ⟨v, rfl, h1, h2, hk⟩, he⟩
    rcases he with ⟨_, rfl, rfl⟩ | ⟨err, h, _⟩
    · refine ⟨v, rfl, h1.far (by dsimp only; omega) _, ?_, ?_⟩
      · exact Lec.Own.mono (ownsRow_setCell_below h2 (a := ⟨W.heap.size, 0, none⟩) (by dsimp only; omega) _) (by omega)
      · exact (((Kb.refl [bo] W).alloc _).trans hk (fun b hb => .inl hb)).setCell (.inr (Nat.le_refl _)) _
    · cases h
/-- What Build answers, where it builds. -/
def BuPost (w : World) (l : List UInt8) (e : Ending) (w' : World) : Prop :=
  ∃ A c, e = .returned (.tuple #[.slice A l.length c, .int .i64 0]) ∧ l.length ≤ c ∧ Rd w' w'.heap.size A l.length (bcs l) ∧ Below w.heap.size w w'
set_option maxRecDepth 40000 in
set_option maxHeartbeats 800000 in
theorem c_BlBuild (w : World) {B N c every : Nat} {A : Option Addr} {L : List Pr} (hp : Prs w B A N L) (hB : B ≤ w.heap.size) (he1 : 1 ≤ every) (he2 : every ≤ 1024) (hr : risen (L.map Pr.pl)) (hf : tot (L.map Pr.pl) ≤ 4000) :
    Calls Try.prog 10 #[.slice A N c, .int .i64 (every : Int)] w (BuPost w (bld (L.map Pr.pl) every)) := by
  have hmf : ∀ (fn : Fn) (first cap : Array Value) (w : World), (Instr.makeFunc fn first cap).run Try.prog w = .ok (.func fn first cap) w := fun _ _ _ _ => rfl
  obtain ⟨H0, H1, H2, hsz, hBl⟩ := Bk.new3 w 22 #[.slice A N c] 3 #[.int .i64 (every : Int)] 25 #[.slice none 0 0]
  have HC := Lib.hid (c_BuildG _ w.heap.size (w.heap.size + 1) (w.heap.size + 1 + 1) (hp.below hBl hB) (Nat.le_trans hB hBl.size) he1 he2 hr hf (H0.cell 0) (H1.cell 0) H2)
  clear H0 H1 H2 hsz
  go_enter Try.func10, Try.ntmps10
  go_wp2_with fail
  refine HC.out.mono ?_
  rintro e w1 ⟨v, rfl, h1, h2, hk⟩
  have hbw : Below w.heap.size w w1 := hBl.trans ((hk.below (B := w.heap.size) (by intro b hb; simp at hb; omega) hBl.size))
  have q := h1.cell
  obtain ⟨A1, c1, rfl, hc1⟩ := h2.shapeN (n := (bld (L.map Pr.pl) every).length) (bcs_length _)
  have hR := Lec.Own.rd h2
  clear h1 h2 hk
  go_wp2
  go_ret2
  exact ⟨_, _, rfl, hc1, hR, hbw⟩
set_option maxRecDepth 40000 in
theorem c_Size_ok (w : World) {B N c every : Nat} {A : Option Addr} {L : List Pr} (hp : Prs w B A N L) (hB : B ≤ w.heap.size) (he1 : 1 ≤ every) (he2 : every ≤ 1024) (hr : risen (L.map Pr.pl)) (hf : tot (L.map Pr.pl) ≤ 4000) :
    Calls Try.prog 12 #[.slice A N c, .int .i64 (every : Int)] w fun e w' => e = .returned (.int .i64 ((bld (L.map Pr.pl) every).length : Nat)) ∧ Below w.heap.size w w' := by
  have HC := Lib.hid (c_BlBuild w (c := c) hp hB he1 he2 hr hf)
  go_enter Try.func12, Try.ntmps12
  go_wp2_with fail
  refine HC.out.mono ?_
  rintro e w1 ⟨A1, c1, rfl, hc1, hR, hb⟩
  go_wp2
  go_ret
  exact ⟨rfl, hb⟩
end Go.Proofs.Ytjcifmbbdofjiaa
