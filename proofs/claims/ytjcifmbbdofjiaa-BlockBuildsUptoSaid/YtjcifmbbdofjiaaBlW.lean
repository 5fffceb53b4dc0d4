/- Layer 20: Build and Size, where the keys rise: the walks. -/
import Derived.Test.YtjcifmbbdofjiaaBlV
namespace Go.Proofs.Ytjcifmbbdofjiaa
open Go.RowKit Go.Lec Go.Op
/-- What Build's closure does. -/
def B1Post (W : World) (bo : Nat) (l : List UInt8) (e : Ending) (w' : World) : Prop :=
  ∃ v, e = .returned (.tuple #[]) ∧ Bk w' bo 25 #[v] ∧ Lec.Own w' W.heap.size 5 v (bcs l) ∧ Kb [bo] W w'
set_option maxRecDepth 40000 in
set_option maxHeartbeats 800000 in
theorem c_Build1 (W : World) (bl be bo : Nat) {B N c every : Nat} {A : Option Addr} {L : List Pr} (hp : Prs W B A N L) (hB : B ≤ W.heap.size) (he1 : 1 ≤ every) (he2 : every ≤ 1024) (hr : risen (L.map Pr.pl)) (hf : tot (L.map Pr.pl) ≤ 4000)
    (q0 : W.cell? ⟨bl, 0, none⟩ = some (.slice A N c)) (q1 : W.cell? ⟨be, 0, none⟩ = some (.int .i64 (every : Int))) (hO : Bk W bo 25 #[.slice none 0 0]) :
    Calls Try.prog 29 #[.pointer (some ⟨bl, 0, none⟩), .pointer (some ⟨be, 0, none⟩), .pointer (some ⟨bo, 0, none⟩)] W (B1Post W bo (bld (L.map Pr.pl) every)) := by
  have lo := hO.lt
  have HC := Lib.hid (c_build W (c := c) hp hB he1 he2 hr hf)
  go_enter Try.func29, Try.ntmps29
  go_wp2_with fail
  refine HC.out.mono ?_
  rintro e W1 ⟨v, rfl, ho, hb⟩
  obtain ⟨A1, c1, rfl, hc1⟩ := ho.shapeN (n := (bld (L.map Pr.pl) every).length) (bcs_length _)
  have hO1 := hO.below hb lo
  have qc := hO1.cell
  have qz := hO1.frz
  have hk1 : Kb [bo] W W1 := Kb.of_below hb
  go_wp2
  go_end0
  exact ⟨_, rfl, hO1.set_ 0 _, ownsRow_setCell_below ho (a := ⟨bo, 0, none⟩) (by dsimp only; omega) _, hk1.setCell (.inl (by simp)) _⟩
/-- What 'guarded' leaves of it. -/
def BGPost (W : World) (bo : Nat) (l : List UInt8) (e : Ending) (w' : World) : Prop :=
  ∃ v, e = .returned (.int .i64 0) ∧ Bk w' bo 25 #[v] ∧ Lec.Own w' W.heap.size 5 v (bcs l) ∧ Kb [bo] W w'
theorem c_BuildG (W : World) (bl be bo : Nat) {B N c every : Nat} {A : Option Addr} {L : List Pr} (hp : Prs W B A N L) (hB : B ≤ W.heap.size) (he1 : 1 ≤ every) (he2 : every ≤ 1024) (hr : risen (L.map Pr.pl)) (hf : tot (L.map Pr.pl) ≤ 4000)
    (q0 : W.cell? ⟨bl, 0, none⟩ = some (.slice A N c)) (q1 : W.cell? ⟨be, 0, none⟩ = some (.int .i64 (every : Int))) (hO : Bk W bo 25 #[.slice none 0 0]) :
    Calls Try.prog 28 #[.func (.func 29) #[] #[.pointer (some ⟨bl, 0, none⟩), .pointer (some ⟨be, 0, none⟩), .pointer (some ⟨bo, 0, none⟩)]] W (BGPost W bo (bld (L.map Pr.pl) every)) := by
  have HE := Bk.new_ W 26 #[.int .i64 0]
  have hbE := (Below.refl W.heap.size W).alloc (Nat.le_refl _) (.cells #[.int .i64 0] 26)
  have lb := World.block_lt_of_cell? W _ q0
  have le := World.block_lt_of_cell? W _ q1
  have lo := hO.lt
  have hz : (W.alloc (.cells #[.int .i64 0] 26)).heap.size = W.heap.size + 1 := by simp
  dsimp only at lb le
  refine (c_blGuarded W 29 _ (B1Post (W.alloc (.cells #[.int .i64 0] 26)) bo (bld (L.map Pr.pl) every)) ?_ ?_ ?_).mono ?_
  · intro w; simp [go_sem]
  · exact c_Build1 _ bl be bo (hp.below hbE hB) (by omega) he1 he2 hr hf ((hbE.cell (p := ⟨bl, 0, none⟩) lb).trans q0) ((hbE.cell (p := ⟨be, 0, none⟩) le).trans q1) (hO.alloc _)
  · rintro e w' ⟨v, rfl, h1, h2, hk⟩
    have h := HE.kb hk (by simp; omega)
    exact ⟨.inl rfl, h.cell 0, h.frz 0⟩
  · rintro e w' ⟨e0, w1, ⟨v, rfl, h1, h2, hk⟩, he⟩
    rcases he with ⟨_, rfl, rfl⟩ | ⟨err, h, _⟩
    · refine ⟨v, rfl, h1.far (by dsimp only; omega) _, ?_, ?_⟩
      · exact Lec.Own.mono (ownsRow_setCell_below h2 (a := ⟨W.heap.size, 0, none⟩) (by dsimp only; omega) _) (by omega)
      · exact (((Kb.refl [bo] W).alloc _).trans hk (fun b hb => .inl hb)).setCell (.inr (Nat.le_refl _)) _
    · cases h
/-- What Build answers, where it builds. -/
def BuPost (w : World) (l : List UInt8) (e : Ending) (w' : World) : Prop :=
  ∃ A c, e = .returned (.tuple #[.slice A l.length c, .int .i64 0]) ∧ l.length ≤ c ∧ Rd w' w'.heap.size A l.length (bcs l) ∧ Below w.heap.size w w'
set_option maxRecDepth 40000 in
set_option maxHeartbeats 800000 in
theorem c_BlBuild (w : World) {B N c every : Nat} {A : Option Addr} {L : List Pr} (hp : Prs w B A N L) (hB : B ≤ w.heap.size) (he1 : 1 ≤ every) (he2 : every ≤ 1024) (hr : risen (L.map Pr.pl)) (hf : tot (L.map Pr.pl) ≤ 4000) :
    Calls Try.prog 10 #[.slice A N c, .int .i64 (every : Int)] w (BuPost w (bld (L.map Pr.pl) every)) := by
  have hmf : ∀ (fn : Fn) (first cap : Array Value) (w : World), (Instr.makeFunc fn first cap).run Try.prog w = .ok (.func fn first cap) w := fun _ _ _ _ => rfl
  obtain ⟨H0, H1, H2, hsz, hBl⟩ := Bk.new3 w 22 #[.slice A N c] 3 #[.int .i64 (every : Int)] 25 #[.slice none 0 0]
  have HC := Lib.hid (c_BuildG _ w.heap.size (w.heap.size + 1) (w.heap.size + 1 + 1) (hp.below hBl hB) (Nat.le_trans hB hBl.size) he1 he2 hr hf (H0.cell 0) (H1.cell 0) H2)
  clear H0 H1 H2 hsz
  go_enter Try.func10, Try.ntmps10
  go_wp2_with fail
  refine HC.out.mono ?_
  rintro e w1 ⟨v, rfl, h1, h2, hk⟩
  have hbw : Below w.heap.size w w1 := hBl.trans ((hk.below (B := w.heap.size) (by intro b hb; simp at hb; omega) hBl.size))
  have q := h1.cell
  obtain ⟨A1, c1, rfl, hc1⟩ := h2.shapeN (n := (bld (L.map Pr.pl) every).length) (bcs_length _)
  have hR := Lec.Own.rd h2
  clear h1 h2 hk
  go_wp2
  go_ret2
  exact ⟨_, _, rfl, hc1, hR, hbw⟩
set_option maxRecDepth 40000 in
theorem c_Size_ok (w : World) {B N c every : Nat} {A : Option Addr} {L : List Pr} (hp : Prs w B A N L) (hB : B ≤ w.heap.size) (he1 : 1 ≤ every) (he2 : every ≤ 1024) (hr : risen (L.map Pr.pl)) (hf : tot (L.map Pr.pl) ≤ 4000) :
    Calls Try.prog 12 #[.slice A N c, .int .i64 (every : Int)] w fun e w' => e = .returned (.int .i64 ((bld (L.map Pr.pl) every).length : Nat)) ∧ Below w.heap.size w w' := by
  have HC := Lib.hid (c_BlBuild w (c := c) hp hB he1 he2 hr hf)
  go_enter Try.func12, Try.ntmps12
  go_wp2_with fail
  refine HC.out.mono ?_
  rintro e w1 ⟨A1, c1, rfl, hc1, hR, hb⟩
  go_wp2
  go_ret
  exact ⟨rfl, hb⟩
end Go.Proofs.Ytjcifmbbdofjiaa
/- Layer 20: the chapter's examples hold: the walk of awake. -/
namespace Go.Lec
open Go.RowKit
/-- A block's cells read as a slice of the whole. -/
theorem rd_bz {w : World} {b n : Nat} {t : TypeId} {z : Nat × Nat} {cs : Array Value} {xs : List Value} (h : w.heap[b]? = some (.cells cs t z)) (hx : cs.toList = xs) (hn : xs.length = n) : Rd w w.heap.size (some ⟨b, 0, none⟩) n xs :=
  ⟨hn, fun _ => ⟨b, 0, rfl, (Array.getElem?_eq_some_iff.1 h).1, fun i u hu => by rw [Nat.zero_add, cell_of_row w b i cs t z h]; rw [← hx] at hu; simpa using hu⟩⟩
theorem rdK_bk {w : World} {b n k : Nat} {t : TypeId} {cs : Array Value} {xs : List Value} (h : Bk w b t cs) (hx : cs.toList = xs) (hn : xs.length = n * k) : RdK w w.heap.size k (some ⟨b, 0, none⟩) n xs :=
  ⟨hn, fun _ => ⟨b, 0, rfl, h.lt, fun i u hu => by rw [Nat.zero_add, h.cell]; rw [← hx] at hu; simpa using hu⟩⟩
theorem heap_more {w : World} {b : Nat} {x : Obj} (h : w.heap[b]? = some x) (o : Obj) : (w.alloc o).heap[b]? = some x := (Below.heap_alloc w o b (Array.getElem?_eq_some_iff.1 h).1).trans h
/-- The chapter's example. -/
def exL : List (List UInt8 × List UInt8) := [([97, 98], [49]), ([97, 98, 99], [50])]
def exB : List UInt8 := [0, 2, 1, 97, 98, 49, 2, 1, 1, 99, 50, 0, 0, 0, 0, 1, 0, 0, 0]
def exE : List En := [⟨0, [97, 98], [49], 0, 0⟩, ⟨6, [97, 98, 99], [50], 2, 2⟩]
theorem ex_bld : bld exL 2 = exB := by
  simp [bld, exL, bodyTo, plTo, entAt, numsAt, sameAt, com, uvar_small, le, exB]
theorem ex_ck : ckB exB = .ok (exE, [0]) := by kernel_rfl
theorem ex_ev : evOf exE [0] = 2 := by kernel_rfl
theorem ex_find : findF exE 2 [97, 98, 98] = (1, 2) := by kernel_rfl
theorem ex_tot : tot exL ≤ 4000 := by decide
theorem ex_risen : risen exL := by
  intro i p q h1 h2
  match i, h1, h2 with
  | 0, h1, h2 => cases h1; cases h2; rfl
  | 1, h1, h2 => cases h2
  | (j + 2), h1, h2 => cases h1
end Go.Lec
namespace Go.Proofs.Ytjcifmbbdofjiaa
open Go.RowKit Go.Lec Go.Op
set_option maxRecDepth 40000 in
set_option maxHeartbeats 3200000 in
theorem c_awake (w : World) : Calls Try.prog 8 #[] w fun e w' => e = .returned (.bool true) ∧ Below w.heap.size w w' := by
  obtain ⟨s, hs⟩ : ∃ s, s = w.heap.size := ⟨_, rfl⟩
  have B0 := heap_more (heap_more (heap_more (World.alloc_heap_new w (.cells #[.int .u8 97, .int .u8 98] 5 (2, 3))) (.cells #[.int .u8 49] 5 (1, 2))) (.cells #[.int .u8 97, .int .u8 98, .int .u8 99] 5 (3, 4))) (.cells #[.int .u8 50] 5 (1, 2))
  have B1 := heap_more (heap_more (World.alloc_heap_new (w.alloc (.cells #[.int .u8 97, .int .u8 98] 5 (2, 3))) (.cells #[.int .u8 49] 5 (1, 2))) (.cells #[.int .u8 97, .int .u8 98, .int .u8 99] 5 (3, 4))) (.cells #[.int .u8 50] 5 (1, 2))
  have B2 := heap_more (World.alloc_heap_new ((w.alloc (.cells #[.int .u8 97, .int .u8 98] 5 (2, 3))).alloc (.cells #[.int .u8 49] 5 (1, 2))) (.cells #[.int .u8 97, .int .u8 98, .int .u8 99] 5 (3, 4))) (.cells #[.int .u8 50] 5 (1, 2))
  have B3 := World.alloc_heap_new (((w.alloc (.cells #[.int .u8 97, .int .u8 98] 5 (2, 3))).alloc (.cells #[.int .u8 49] 5 (1, 2))).alloc (.cells #[.int .u8 97, .int .u8 98, .int .u8 99] 5 (3, 4))) (.cells #[.int .u8 50] 5 (1, 2))
  have hb := ((((Below.refl w.heap.size w).alloc (Nat.le_refl _) (.cells #[.int .u8 97, .int .u8 98] 5 (2, 3))).alloc (by simp) (.cells #[.int .u8 49] 5 (1, 2))).alloc (by simp; omega) (.cells #[.int .u8 97, .int .u8 98, .int .u8 99] 5 (3, 4))).alloc (by simp; omega) (.cells #[.int .u8 50] 5 (1, 2))
  have hz : ((((w.alloc (.cells #[.int .u8 97, .int .u8 98] 5 (2, 3))).alloc (.cells #[.int .u8 49] 5 (1, 2))).alloc (.cells #[.int .u8 97, .int .u8 98, .int .u8 99] 5 (3, 4))).alloc (.cells #[.int .u8 50] 5 (1, 2))).heap.size = s + 4 := by simp [hs]
  rw [World.size_alloc] at B1
  rw [World.size_alloc, World.size_alloc] at B2
  rw [World.size_alloc, World.size_alloc, World.size_alloc] at B3
  rw [← hs] at B0 B1 B2 B3
  obtain ⟨W4, hW4⟩ : ∃ W, W = ((((w.alloc (.cells #[.int .u8 97, .int .u8 98] 5 (2, 3))).alloc (.cells #[.int .u8 49] 5 (1, 2))).alloc (.cells #[.int .u8 97, .int .u8 98, .int .u8 99] 5 (3, 4))).alloc (.cells #[.int .u8 50] 5 (1, 2))) := ⟨_, rfl⟩
  rw [← hW4] at B0 B1 B2 B3 hb hz
  have B4 := Bk.new_ W4 35 #[.slice (some ⟨s, 0, none⟩) 2 2, .slice (some ⟨s + 1, 0, none⟩) 1 1, .slice (some ⟨s + 1 + 1, 0, none⟩) 3 3, .slice (some ⟨s + 1 + 1 + 1, 0, none⟩) 1 1]
  have hb5 := hb.alloc (by omega) (.cells #[.slice (some ⟨s, 0, none⟩) 2 2, .slice (some ⟨s + 1, 0, none⟩) 1 1, .slice (some ⟨s + 1 + 1, 0, none⟩) 3 3, .slice (some ⟨s + 1 + 1 + 1, 0, none⟩) 1 1] 35)
  have D0 := heap_more B0 (.cells #[.slice (some ⟨s, 0, none⟩) 2 2, .slice (some ⟨s + 1, 0, none⟩) 1 1, .slice (some ⟨s + 1 + 1, 0, none⟩) 3 3, .slice (some ⟨s + 1 + 1 + 1, 0, none⟩) 1 1] 35)
  have D1 := heap_more B1 (.cells #[.slice (some ⟨s, 0, none⟩) 2 2, .slice (some ⟨s + 1, 0, none⟩) 1 1, .slice (some ⟨s + 1 + 1, 0, none⟩) 3 3, .slice (some ⟨s + 1 + 1 + 1, 0, none⟩) 1 1] 35)
  have D2 := heap_more B2 (.cells #[.slice (some ⟨s, 0, none⟩) 2 2, .slice (some ⟨s + 1, 0, none⟩) 1 1, .slice (some ⟨s + 1 + 1, 0, none⟩) 3 3, .slice (some ⟨s + 1 + 1 + 1, 0, none⟩) 1 1] 35)
  have D3 := heap_more B3 (.cells #[.slice (some ⟨s, 0, none⟩) 2 2, .slice (some ⟨s + 1, 0, none⟩) 1 1, .slice (some ⟨s + 1 + 1, 0, none⟩) 3 3, .slice (some ⟨s + 1 + 1 + 1, 0, none⟩) 1 1] 35)
  rw [hz] at B4
  obtain ⟨W5, hW5⟩ : ∃ W, W = W4.alloc (.cells #[.slice (some ⟨s, 0, none⟩) 2 2, .slice (some ⟨s + 1, 0, none⟩) 1 1, .slice (some ⟨s + 1 + 1, 0, none⟩) 3 3, .slice (some ⟨s + 1 + 1 + 1, 0, none⟩) 1 1] 35) := ⟨_, rfl⟩
  rw [← hW5] at B4 hb5 D0 D1 D2 D3
  have B4 : Bk W5 (s + 1 + 1 + 1 + 1) 35 #[.slice (some ⟨s, 0, none⟩) 2 2, .slice (some ⟨s + 1, 0, none⟩) 1 1, .slice (some ⟨s + 1 + 1, 0, none⟩) 3 3, .slice (some ⟨s + 1 + 1 + 1, 0, none⟩) 1 1] := B4
  have hP : Prs W5 W5.heap.size (some ⟨s + 1 + 1 + 1 + 1, 0, none⟩) 2 [⟨some ⟨s, 0, none⟩, 2, 2, [97, 98], some ⟨s + 1, 0, none⟩, 1, 1, [49]⟩, ⟨some ⟨s + 1 + 1, 0, none⟩, 3, 3, [97, 98, 99], some ⟨s + 1 + 1 + 1, 0, none⟩, 1, 1, [50]⟩] := by
    refine ⟨rdK_bk B4 rfl rfl, ?_⟩
    intro m hm
    simp only [List.mem_cons, List.not_mem_nil, or_false] at hm
    rcases hm with rfl | rfl
    · exact ⟨rd_bz D0 rfl rfl, rd_bz D1 rfl rfl, Nat.le_refl _, Nat.le_refl _, (by show 2 ≤ _; omega), (by show 1 ≤ _; omega)⟩
    · exact ⟨rd_bz D2 rfl rfl, rd_bz D3 rfl rfl, Nat.le_refl _, Nat.le_refl _, (by show 3 ≤ _; omega), (by show 1 ≤ _; omega)⟩
  have HB := Lib.hid (show Calls Try.prog 10 #[.slice (some ⟨s + 1 + 1 + 1 + 1, 0, none⟩) 2 2, .int .i64 2] W5 (BuPost W5 exB) from by
    rw [← ex_bld]; exact c_BlBuild W5 (every := 2) (c := 2) hP (Nat.le_refl _) (by decide) (by decide) ex_risen ex_tot)
  have HW5 := Lib.hid (hW5.trans (by rw [hW4]))
  have Hs := Lib.hid hs
  clear hs hW4 hW5 B0 B1 B2 B3 B4 D0 D1 D2 D3 hP hz hb
  have kc : ∀ (w : World) (b : Nat) (C : Array Value) (n c : Nat), w.heap.size = b → (convert 25 25 (.slice (some ⟨b, 0, none⟩) n c)).run Try.prog (w.alloc (.cells C 5)) = .ok (.slice (some ⟨b, 0, none⟩) n c) (w.alloc (.cells C 5 (C.size, C.size + 1))) := by
    rintro w b C n c rfl
    exact Lib.run_convert_bytes_const (P := Try.prog) w 25 5 C n c Try.underlying25 Try.underlying5
  go_enter Try.func8, Try.ntmps8
  go_wp2_with fail
  rw [← Hs.out, ← HW5.out]
  refine HB.out.mono ?_
  rintro e W6 ⟨A6, c6, rfl, hc6, hR6, hb6⟩
  simp only [show exB.length = 19 from rfl] at hc6 hR6 ⊢
  have hb06 := hb5.trans (hb6.mono hb5.size)
  have HRd := Lib.hid ((c_BlRead W6 (c := c6) hR6 hc6 (Nat.le_refl _) (by omega)).mono (R' := fun e w' => ∃ A c, e = .returned (.tuple #[.slice A 2 c, .int .i64 0]) ∧ Below W6.heap.size W6 w') (by
    rintro e w' (⟨l, ps, A, n, c, O, hu, rfl, hO, hpl, hb⟩ | ⟨err, hu, _⟩) <;> rw [ex_ck] at hu <;> cases hu
    have h1 := hO.len
    have h2 := congrArg List.length hpl
    rw [List.length_map, List.length_map, h1] at h2
    have h3 : n = 2 := h2
    subst h3
    exact ⟨A, c, rfl, hb⟩))
  have HNew := Lib.hid (fun (W7 : World) (h7 : Below W6.heap.size W6 W7) => (c_New W7 (c := c6) (hR6.below h7 (Nat.le_refl _)) hc6 h7.size (by omega)).mono (R' := fun e w' => ∃ it L A c X, e = .returned (.tuple #[.pointer (some ⟨it, 0, none⟩), .int .i64 0]) ∧ Itr w' it L A 2 c X 2 (-1) 0 ∧ W7.heap.size ≤ it ∧ X.map Ex.en = exE ∧ Below W7.heap.size W7 w') (by
    rintro e w' (⟨l, ps, it, L, A, n, c, X, hu, rfl, hI, hit, hX, hb⟩ | ⟨err, hu, _⟩) <;> rw [ex_ck] at hu <;> cases hu
    have h1 := hI.els.2.1
    have h2 := congrArg List.length hX
    rw [List.length_map, h1] at h2
    have h3 : n = 2 := h2
    subst h3
    exact ⟨it, L, A, c, X, rfl, hI, hit, hX, hb⟩))
  go_wp2_with (first | (go_at_call 13; refine HRd.out.mono ?_; rintro e W7 ⟨A7, c7, rfl, hb7⟩) | (go_at_call 18; refine (HNew.out W7 hb7).mono ?_; rintro e W8 ⟨it, L, A8, c8, X, rfl, hI, hit, hX, hb8⟩))
  have hb07 := hb06.trans (hb7.mono hb06.size)
  have hK9 := (Below.refl W8.heap.size W8).alloc (Nat.le_refl _) (.cells #[.int .u8 97, .int .u8 98, .int .u8 98] 5 (3, 4))
  have hD9 := World.alloc_heap_new W8 (.cells #[.int .u8 97, .int .u8 98, .int .u8 98] 5 (3, 4))
  have hI9 := hI.below hK9
  have lit := hI.bk.lt
  have hSk := c_Seek (W8.alloc (.cells #[.int .u8 97, .int .u8 98, .int .u8 98] 5 (3, 4))) (ck := 3) (key := [97, 98, 98]) hI9 (by decide) (by decide) (rd_bz hD9 rfl rfl) (Nat.le_refl _) (fun _ a ha hm => by cases ha; simp only [List.mem_singleton] at hm; omega) (by decide) (by decide)
  rw [hX, ex_find] at hSk
  refine hSk.mono ?_
  rintro e W10 ⟨rfl, hI10, hk10⟩
  have HLk := Lib.hid (c_Looked W10 hI10)
  have hz8 := hb8.size
  have hbf := hb07.trans (((hb8.trans (hK9.mono hz8)).trans (hk10.below (B := W7.heap.size) (by intro b hb; simp only [List.mem_singleton] at hb; subst hb; exact hit) (Nat.le_trans hz8 hK9.size))).mono hb07.size)
  clear hSk hI9 hD9 hK9 hI
  go_wp2_with fail
  refine HLk.out.mono ?_
  rintro e W11 ⟨rfl, rfl⟩
  go_wp2
  go_ret
  exact ⟨rfl, hbf⟩
end Go.Proofs.Ytjcifmbbdofjiaa
