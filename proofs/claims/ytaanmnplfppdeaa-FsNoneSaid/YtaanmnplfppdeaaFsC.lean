/- Layer 1: a plan in memory of its own: the walk of twin. (Printed by gen_twin.py.) -/
import Derived.Test.YtaanmnplfppdeaaFsB
import Derived.Test.YtaanmnplfppdeaaHeldT
namespace Go.Proofs.Ytaanmnplfppdeaa
open Go.RowKit Go.Lec Go.Fsy Go.Op
/-- What twin leaves. -/
def TwinP (w : World) (p : Pl) (e : Ending) (w' : World) : Prop := ∃ AK cK AF cF AU cU, e = .returned (plV p AK cK AF cF AU cU) ∧ PlOk (fun b => w.heap.size ≤ b) w' p AK cK AF cF AU cU ∧ Below w.heap.size w w'
set_option maxRecDepth 100000 in
set_option maxHeartbeats 2000000 in
theorem c_twin (w : World) {I : Nat → Prop} {p : Pl} {AK AF AU : Option Addr} {cK cF cU : Nat} (h : PlOk I w p AK cK AF cF AU cU) (n1 : p.keep.length ≤ 1099511627776) (n2 : p.fail.length ≤ 1099511627776) (n3 : p.full.length ≤ 1099511627776) :
    Calls Try.prog 31 #[plV p AK cK AF cF AU cU] w (TwinP w p) := by
  obtain ⟨kn, hkn⟩ : ∃ x, x = p.keep.length := ⟨_, rfl⟩
  obtain ⟨fn, hfn⟩ : ∃ x, x = p.fail.length := ⟨_, rfl⟩
  obtain ⟨un, hun⟩ : ∃ x, x = p.full.length := ⟨_, rfl⟩
  have h1 := h.rk
  have h2 := h.rf
  have h3 := h.ru
  clear h
  unfold plV
  rw [← hkn] at n1 h1 ⊢
  rw [← hfn] at n2 h2 ⊢
  rw [← hun] at n3 h3 ⊢
  obtain ⟨bp, hbp⟩ : ∃ x, x = w.heap.size := ⟨_, rfl⟩
  have H1 := (Bk.new_ w 25 #[.int .i64 p.crash, .slice AK kn cK, .slice AF fn cF, .slice AU un cU, .int .i64 p.room]).alloc (.cells #[.int .i64 0, .slice none 0 0, .slice none 0 0, .slice none 0 0, .int .i64 0] 25)
  have H2 := Bk.new_ (w.alloc (.cells #[.int .i64 p.crash, .slice AK kn cK, .slice AF fn cF, .slice AU un cU, .int .i64 p.room] 25)) 25 #[.int .i64 0, .slice none 0 0, .slice none 0 0, .slice none 0 0, .int .i64 0]
  rw [World.size_alloc] at H2
  have hb0 := ((Below.refl w.heap.size w).alloc (Nat.le_refl _) (.cells #[.int .i64 p.crash, .slice AK kn cK, .slice AF fn cF, .slice AU un cU, .int .i64 p.room] 25)).alloc (by simp) (.cells #[.int .i64 0, .slice none 0 0, .slice none 0 0, .slice none 0 0, .int .i64 0] 25)
  have hz0 : ((w.alloc (.cells #[.int .i64 p.crash, .slice AK kn cK, .slice AF fn cF, .slice AU un cU, .int .i64 p.room] 25)).alloc (.cells #[.int .i64 0, .slice none 0 0, .slice none 0 0, .slice none 0 0, .int .i64 0] 25)).heap.size = bp + 2 := by simp [hbp]
  obtain ⟨W0, hW0⟩ : ∃ x, x = (w.alloc (.cells #[.int .i64 p.crash, .slice AK kn cK, .slice AF fn cF, .slice AU un cU, .int .i64 p.room] 25)).alloc (.cells #[.int .i64 0, .slice none 0 0, .slice none 0 0, .slice none 0 0, .int .i64 0] 25) := ⟨_, rfl⟩
  rw [← hW0] at H1 H2 hb0 hz0
  have HC1 := Lib.hid (fun W (h : Below W0.heap.size W0 W) => c_CloneN W (c := cK) ((h1.rd.below (hb0.trans (h.mono hb0.size)) (Nat.le_refl _)).more (Nat.le_trans hb0.size h.size)) (Nat.le_refl _) n1)
  have HC2 := Lib.hid (fun W (h : Below W0.heap.size W0 W) => c_CloneN W (c := cF) ((h2.rd.below (hb0.trans (h.mono hb0.size)) (Nat.le_refl _)).more (Nat.le_trans hb0.size h.size)) (Nat.le_refl _) n2)
  have HC3 := Lib.hid (fun W (h : Below W0.heap.size W0 W) => c_CloneN W (c := cU) ((h3.rd.below (hb0.trans (h.mono hb0.size)) (Nat.le_refl _)).more (Nat.le_trans hb0.size h.size)) (Nat.le_refl _) n3)
  have Hbp := Lib.hid hbp
  have HW0 := Lib.hid hW0
  have Hkn := Lib.hid hkn
  have Hfn := Lib.hid hfn
  have Hun := Lib.hid hun
  rw [← hbp] at H1 H2 hb0
  clear hW0 h1 h2 h3 n1 n2 n3 hkn hfn hun hbp
  go_enter Try.func31, Try.ntmps31
  go_wp2
  rw [← Hbp.out, ← HW0.out]
  have hHeld : (fun W : World => W.cell? ⟨bp, 1, none⟩ = some (.slice AK kn cK) ∧ W.cell? ⟨bp, 2, none⟩ = some (.slice AF fn cF) ∧ W.cell? ⟨bp, 3, none⟩ = some (.slice AU un cU)) W0.drew := ⟨H1.cell 1, H1.cell 2, H1.cell 3⟩
  refine wp_region_T (S := fun W : World => W.cell? ⟨bp, 1, none⟩ = some (.slice AK kn cK) ∧ W.cell? ⟨bp, 2, none⟩ = some (.slice AF fn cF) ∧ W.cell? ⟨bp, 3, none⟩ = some (.slice AU un cU)) (m := 10) (by kernel_rfl) ?_
  simp only [List.size_toArray, List.length_cons, List.length_nil, Nat.reduceAdd]
  refine tTake (i := 0) (v := ?_) rfl (by kernel_rfl) (by kernel_rfl) (by kernel_rfl) (by kernel_rfl) (fun _ _ _ h => h) hHeld (by rfl) ?_ ?_
  rotate_left
  · (intro w hSw; (try dsimp only at hSw); go_simp; try with_reducible rfl)
  try simp only [Act.put, List.setIfInBounds_toArray, List.set_cons_zero, List.set_cons_succ]
  refine tTake (i := 1) (v := ?_) rfl (by kernel_rfl) (by kernel_rfl) (by kernel_rfl) (by kernel_rfl) (fun _ _ _ h => h) hHeld (by rfl) ?_ ?_
  rotate_left
  · (intro w hSw; (try dsimp only at hSw); go_simp; try with_reducible rfl)
  try simp only [Act.put, List.setIfInBounds_toArray, List.set_cons_zero, List.set_cons_succ]
  refine tTake (i := 3) (v := ?_) rfl (by kernel_rfl) (by kernel_rfl) (by kernel_rfl) (by kernel_rfl) (fun _ _ _ h => h) hHeld (by rfl) ?_ ?_
  rotate_left
  · (intro w hSw; (try dsimp only at hSw); go_simp; try with_reducible rfl)
  try simp only [Act.put, List.setIfInBounds_toArray, List.set_cons_zero, List.set_cons_succ]
  refine tTake (i := 4) (v := ?_) rfl (by kernel_rfl) (by kernel_rfl) (by kernel_rfl) (by kernel_rfl) (fun _ _ _ h => h) hHeld (by rfl) ?_ ?_
  rotate_left
  · (intro w hSw; (try dsimp only at hSw); go_simp; try with_reducible rfl)
  try simp only [Act.put, List.setIfInBounds_toArray, List.set_cons_zero, List.set_cons_succ]
  refine tTake (i := 6) (v := ?_) rfl (by kernel_rfl) (by kernel_rfl) (by kernel_rfl) (by kernel_rfl) (fun _ _ _ h => h) hHeld (by rfl) ?_ ?_
  rotate_left
  · (intro w hSw; (try dsimp only at hSw); go_simp; try with_reducible rfl)
  try simp only [Act.put, List.setIfInBounds_toArray, List.set_cons_zero, List.set_cons_succ]
  refine tTake (i := 7) (v := ?_) rfl (by kernel_rfl) (by kernel_rfl) (by kernel_rfl) (by kernel_rfl) (fun _ _ _ h => h) hHeld (by rfl) ?_ ?_
  rotate_left
  · (intro w hSw; (try dsimp only at hSw); go_simp; try with_reducible rfl)
  try simp only [Act.put, List.setIfInBounds_toArray, List.set_cons_zero, List.set_cons_succ]
  refine tStep (i := 2) rfl (by kernel_rfl) (fun K hK => ?_)
  go_simp
  go_at_call 44
  refine (HC1.out _ (Below.drew (Below.refl W0.heap.size W0))).mono ?_
  rintro e W1 ⟨A1, c1, rfl, hc1, hR1, hb1⟩
  have hB1 : Below W0.heap.size W0 W1 := ((Below.drew (Below.refl W0.heap.size W0))).trans (hb1.mono ((Below.drew (Below.refl W0.heap.size W0))).size)
  have hP1 := H1.below hB1 (by omega)
  have hHeld1 : (fun W : World => W.cell? ⟨bp, 1, none⟩ = some (.slice AK kn cK) ∧ W.cell? ⟨bp, 2, none⟩ = some (.slice AF fn cF) ∧ W.cell? ⟨bp, 3, none⟩ = some (.slice AU un cU)) W1 := ⟨hP1.cell 1, hP1.cell 2, hP1.cell 3⟩
  refine hK.out _ _ (fun _ => hHeld1) ?_
  clear hK K hHeld
  have hHeld := hHeld1
  clear hHeld1
  try simp only [Act.put, List.setIfInBounds_toArray, List.set_cons_zero, List.set_cons_succ]
  refine tTake (i := 9) (v := ?_) rfl (by kernel_rfl) (by kernel_rfl) (by kernel_rfl) (by kernel_rfl) (fun _ _ _ h => h) hHeld (by rfl) ?_ ?_
  rotate_left
  · (intro w hSw; (try dsimp only at hSw); go_simp; try with_reducible rfl)
  try simp only [Act.put, List.setIfInBounds_toArray, List.set_cons_zero, List.set_cons_succ]
  refine tStep (i := 5) rfl (by kernel_rfl) (fun K hK => ?_)
  go_simp
  go_at_call 44
  refine (HC2.out _ hB1).mono ?_
  rintro e W2 ⟨A2, c2, rfl, hc2, hR2, hb2⟩
  have hB2 : Below W0.heap.size W0 W2 := (hB1).trans (hb2.mono (hB1).size)
  have hP2 := H1.below hB2 (by omega)
  have hHeld2 : (fun W : World => W.cell? ⟨bp, 1, none⟩ = some (.slice AK kn cK) ∧ W.cell? ⟨bp, 2, none⟩ = some (.slice AF fn cF) ∧ W.cell? ⟨bp, 3, none⟩ = some (.slice AU un cU)) W2 := ⟨hP2.cell 1, hP2.cell 2, hP2.cell 3⟩
  refine hK.out _ _ (fun _ => hHeld2) ?_
  clear hK K hHeld
  have hHeld := hHeld2
  clear hHeld2
  try simp only [Act.put, List.setIfInBounds_toArray, List.set_cons_zero, List.set_cons_succ]
  refine tStep (i := 8) rfl (by kernel_rfl) (fun K hK => ?_)
  go_simp
  go_at_call 44
  refine (HC3.out _ hB2).mono ?_
  rintro e W3 ⟨A3, c3, rfl, hc3, hR3, hb3⟩
  have hB3 : Below W0.heap.size W0 W3 := (hB2).trans (hb3.mono (hB2).size)
  have hP3 := H1.below hB3 (by omega)
  have hHeld3 : (fun W : World => W.cell? ⟨bp, 1, none⟩ = some (.slice AK kn cK) ∧ W.cell? ⟨bp, 2, none⟩ = some (.slice AF fn cF) ∧ W.cell? ⟨bp, 3, none⟩ = some (.slice AU un cU)) W3 := ⟨hP3.cell 1, hP3.cell 2, hP3.cell 3⟩
  refine hK.out _ _ (fun _ => hHeld3) ?_
  clear hK K hHeld
  have hHeld := hHeld3
  clear hHeld3
  try simp only [Act.put, List.setIfInBounds_toArray, List.set_cons_zero, List.set_cons_succ]
  clear hHeld HC1 HC2 HC3
  have hZ3 := H2.below hB3 (by omega)
  have q := hP3.cell
  have z := hP3.frz
  refine tStep (i := 10) rfl (by kernel_rfl) (fun K hK => ?_)
  go_simp
  refine hK.out _ _ (fun h => absurd h (by decide)) ?_
  clear hK K q z
  have hS1 := hP3.set_ 1 (.slice A1 kn c1)
  try simp only [Act.put, List.setIfInBounds_toArray, List.set_cons_zero, List.set_cons_succ]
  refine tStep (i := 11) rfl (by kernel_rfl) (fun K hK => ?_)
  go_simp
  refine hK.out _ _ (fun h => absurd h (by decide)) ?_
  clear hK K
  try simp only [Act.put, List.setIfInBounds_toArray, List.set_cons_zero, List.set_cons_succ]
  have q := hS1.cell
  have z := hS1.frz
  refine tStep (i := 12) rfl (by kernel_rfl) (fun K hK => ?_)
  go_simp
  refine hK.out _ _ (fun h => absurd h (by decide)) ?_
  clear hK K q z
  have hS2 := hS1.set_ 2 (.slice A2 fn c2)
  try simp only [Act.put, List.setIfInBounds_toArray, List.set_cons_zero, List.set_cons_succ]
  refine tStep (i := 13) rfl (by kernel_rfl) (fun K hK => ?_)
  go_simp
  refine hK.out _ _ (fun h => absurd h (by decide)) ?_
  clear hK K
  try simp only [Act.put, List.setIfInBounds_toArray, List.set_cons_zero, List.set_cons_succ]
  have q := hS2.cell
  have z := hS2.frz
  refine tStep (i := 14) rfl (by kernel_rfl) (fun K hK => ?_)
  go_simp
  refine hK.out _ _ (fun h => absurd h (by decide)) ?_
  clear hK K q z
  have hS3 := hS2.set_ 3 (.slice A3 un c3)
  try simp only [Act.put, List.setIfInBounds_toArray, List.set_cons_zero, List.set_cons_succ]
  refine tDone (by kernel_rfl) ?_ _
  have lZ : bp + 1 ≠ bp := by omega
  have hZ6 := ((hZ3.far (p := ⟨bp, 1, none⟩) lZ (.slice A1 kn c1)).far (p := ⟨bp, 2, none⟩) lZ (.slice A2 fn c2)).far (p := ⟨bp, 3, none⟩) lZ (.slice A3 un c3)
  have hz3 := hB3.size
  have hz1 := hB1.size
  have hz2 := hB2.size
  have hKb : Kb [bp] W3 (((W3.setCell ⟨bp, 1, none⟩ (.slice A1 kn c1)).setCell ⟨bp, 2, none⟩ (.slice A2 fn c2)).setCell ⟨bp, 3, none⟩ (.slice A3 un c3)) := (((Kb.refl [bp] W3).setCell (.inl (by simp)) _).setCell (.inl (by simp)) _).setCell (.inl (by simp)) _
  obtain ⟨W6, hW6⟩ : ∃ x, x = (((W3.setCell ⟨bp, 1, none⟩ (.slice A1 kn c1)).setCell ⟨bp, 2, none⟩ (.slice A2 fn c2)).setCell ⟨bp, 3, none⟩ (.slice A3 un c3)) := ⟨_, rfl⟩
  rw [← hW6] at hS3 hZ6 hKb ⊢
  have q := hS3.cell
  have qz := hZ6.cell
  have zz := hZ6.frz
  clear hW6 hP1 hP2 hP3 hS1 hS2 hZ3 H1 H2
  go_wp2
  have hZ7 := ((((hZ6.set_ 0 (.int .i64 p.crash)).set_ 1 (.slice A1 kn c1)).set_ 2 (.slice A2 fn c2)).set_ 3 (.slice A3 un c3)).set_ 4 (.int .i64 p.room)
  have hk7 : KbP (fun b => b = bp ∨ b = bp + 1) W3 (((((W6.setCell ⟨bp + 1, 0, none⟩ (.int .i64 p.crash)).setCell ⟨bp + 1, 1, none⟩ (.slice A1 kn c1)).setCell ⟨bp + 1, 2, none⟩ (.slice A2 fn c2)).setCell ⟨bp + 1, 3, none⟩ (.slice A3 un c3)).setCell ⟨bp + 1, 4, none⟩ (.int .i64 p.room)) :=
    (((((KbP.of_kb (X := fun b => b = bp ∨ b = bp + 1) hKb (fun b h => by simp only [List.mem_singleton] at h; exact .inl h)).setCell (.inl (.inr rfl)) _).setCell (.inl (.inr rfl)) _).setCell (.inl (.inr rfl)) _).setCell (.inl (.inr rfl)) _).setCell (.inl (.inr rfl)) _
  obtain ⟨W7, hW7⟩ : ∃ x, x = (((((W6.setCell ⟨bp + 1, 0, none⟩ (.int .i64 p.crash)).setCell ⟨bp + 1, 1, none⟩ (.slice A1 kn c1)).setCell ⟨bp + 1, 2, none⟩ (.slice A2 fn c2)).setCell ⟨bp + 1, 3, none⟩ (.slice A3 un c3)).setCell ⟨bp + 1, 4, none⟩ (.int .i64 p.room)) := ⟨_, rfl⟩
  rw [← hW7] at hZ7 hk7 ⊢
  have q7 := hZ7.cell
  have hI : ∀ b, W0.heap.size ≤ b → ¬ (b = bp ∨ b = bp + 1) := fun b h => by omega
  have hlo : ∀ b, W0.heap.size ≤ b → w.heap.size ≤ b := fun b h => by rw [← Hbp.out]; omega
  have f1 : RdP (fun b => W0.heap.size ≤ b) W3 A1 kn (ics p.keep) := ((hR1.kbP (X := fun _ => False) (KbP.of_below hb2) (fun _ _ h => h)).kbP (X := fun _ => False) (KbP.of_below hb3) (fun _ _ h => h)).more (fun b h => h)
  have f2 : RdP (fun b => W0.heap.size ≤ b) W3 A2 fn (ics p.fail) := (hR2.kbP (X := fun _ => False) (KbP.of_below hb3) (fun _ _ h => h)).more (fun b h => Nat.le_trans hz1 h)
  have f3 : RdP (fun b => W0.heap.size ≤ b) W3 A3 un (ics p.full) := hR3.more (fun b h => Nat.le_trans hz2 h)
  have hbf : Below bp w W7 := (hb0.trans (hB3.mono (by omega))).trans ((hk7.below (B := bp) (fun b h => by omega) (by omega)))
  have hP : PlOk (fun b => w.heap.size ≤ b) W7 p A1 c1 A2 c2 A3 c3 := by
    have g1 := (f1.kbP hk7 hI).more hlo
    have g2 := (f2.kbP hk7 hI).more hlo
    have g3 := (f3.kbP hk7 hI).more hlo
    rw [Hkn.out] at g1 hc1
    rw [Hfn.out] at g2 hc2
    rw [Hun.out] at g3 hc3
    exact ⟨g1, g2, g3, hc1, hc2, hc3⟩
  rw [Hbp.out] at hbf
  clear hW7 q qz zz hZ7 hk7 hKb hS3 hZ6
  refine bodyPost_ret (v := plV p A1 c1 A2 c2 A3 c3) ?_ rfl ⟨_, _, _, _, _, _, rfl, hP, hbf⟩
  unfold plV
  rw [← Hkn.out, ← Hfn.out, ← Hun.out]
  simp [results, Try.results31, go_sem, q7]
end Go.Proofs.Ytaanmnplfppdeaa
