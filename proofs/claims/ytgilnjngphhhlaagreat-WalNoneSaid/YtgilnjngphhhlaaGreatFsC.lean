/- Layer 1: a plan in memory of its own: the walk of twin. (Printed by gen_twin.py.) -/
import Derived.Test.YtgilnjngphhhlaaGreatFsB
import Derived.Test.YtgilnjngphhhlaaGreatHeldT
import Derived.Deep.RegionWith
namespace Go.Proofs.YtgilnjngphhhlaaGreat
open Go.RowKit Go.Lec Go.Fsy Go.Op
/-- What twin leaves. -/
def TwinP (w : World) (p : Pl) (e : Ending) (w' : World) : Prop := ∃ AK cK AF cF AU cU, e = .returned (plV p AK cK AF cF AU cU) ∧ PlOk (fun b => w.heap.size ≤ b) w' p AK cK AF cF AU cU ∧ Below w.heap.size w w'
set_option maxRecDepth 100000 in
set_option maxHeartbeats 2000000 in
theorem c_twin (w : World) {I : Nat → Prop} {p : Pl} {AK AF AU : Option Addr} {cK cF cU : Nat} (h : PlOk I w p AK cK AF cF AU cU) (n1 : p.keep.length ≤ 1099511627776) (n2 : p.fail.length ≤ 1099511627776) (n3 : p.full.length ≤ 1099511627776) :
    Calls Tryz.prog 31 #[plV p AK cK AF cF AU cU] w (TwinP w p) := by
  obtain ⟨kn, hkn⟩ : ∃ x, x = p.keep.length := ⟨_, rfl⟩
  obtain ⟨fn, hfn⟩ : ∃ x, x = p.fail.length := ⟨_, rfl⟩
  obtain ⟨un, hun⟩ : ∃ x, x = p.full.length := ⟨_, rfl⟩
  have h1 := h.rk
  have h2 := h.rf
  have h3 := h.ru
  clear h
  unfold plV
  rw [← hkn] at n1 h1 ⊢
  rw [← hfn] at n2 h2 ⊢
  rw [← hun] at n3 h3 ⊢
  obtain ⟨bp, hbp⟩ : ∃ x, x = w.heap.size := ⟨_, rfl⟩
  have H1 := (Bk.new_ w 44 #[.int .i64 p.crash, .slice AK kn cK, .slice AF fn cF, .slice AU un cU, .int .i64 p.room]).alloc (.cells #[.int .i64 0, .slice none 0 0, .slice none 0 0, .slice none 0 0, .int .i64 0] 44)
  have H2 := Bk.new_ (w.alloc (.cells #[.int .i64 p.crash, .slice AK kn cK, .slice AF fn cF, .slice AU un cU, .int .i64 p.room] 44)) 44 #[.int .i64 0, .slice none 0 0, .slice none 0 0, .slice none 0 0, .int .i64 0]
  rw [World.size_alloc] at H2
  have hb0 := ((Below.refl w.heap.size w).alloc (Nat.le_refl _) (.cells #[.int .i64 p.crash, .slice AK kn cK, .slice AF fn cF, .slice AU un cU, .int .i64 p.room] 44)).alloc (by simp) (.cells #[.int .i64 0, .slice none 0 0, .slice none 0 0, .slice none 0 0, .int .i64 0] 44)
  have hz0 : ((w.alloc (.cells #[.int .i64 p.crash, .slice AK kn cK, .slice AF fn cF, .slice AU un cU, .int .i64 p.room] 44)).alloc (.cells #[.int .i64 0, .slice none 0 0, .slice none 0 0, .slice none 0 0, .int .i64 0] 44)).heap.size = bp + 2 := by simp [hbp]
  obtain ⟨W0, hW0⟩ : ∃ x, x = (w.alloc (.cells #[.int .i64 p.crash, .slice AK kn cK, .slice AF fn cF, .slice AU un cU, .int .i64 p.room] 44)).alloc (.cells #[.int .i64 0, .slice none 0 0, .slice none 0 0, .slice none 0 0, .int .i64 0] 44) := ⟨_, rfl⟩
  rw [← hW0] at H1 H2 hb0 hz0
  have HC1 := Lib.hid (fun W (h : Below W0.heap.size W0 W) => c_CloneN W (c := cK) ((h1.rd.below (hb0.trans (h.mono hb0.size)) (Nat.le_refl _)).more (Nat.le_trans hb0.size h.size)) (Nat.le_refl _) n1)
  have HC2 := Lib.hid (fun W (h : Below W0.heap.size W0 W) => c_CloneN W (c := cF) ((h2.rd.below (hb0.trans (h.mono hb0.size)) (Nat.le_refl _)).more (Nat.le_trans hb0.size h.size)) (Nat.le_refl _) n2)
  have HC3 := Lib.hid (fun W (h : Below W0.heap.size W0 W) => c_CloneN W (c := cU) ((h3.rd.below (hb0.trans (h.mono hb0.size)) (Nat.le_refl _)).more (Nat.le_trans hb0.size h.size)) (Nat.le_refl _) n3)
  have Hbp := Lib.hid hbp
  have HW0 := Lib.hid hW0
  have Hkn := Lib.hid hkn
  have Hfn := Lib.hid hfn
  have Hun := Lib.hid hun
  rw [← hbp] at H1 H2 hb0
  clear hW0 h1 h2 h3 n1 n2 n3 hkn hfn hun hbp
  go_enter Tryz.func31, Tryz.ntmps31
  go_wp2
  rw [← Hbp.out, ← HW0.out]
  have hHeld : (fun W : World => W.cell? ⟨bp, 1, none⟩ = some (.slice AK kn cK) ∧ W.cell? ⟨bp, 2, none⟩ = some (.slice AF fn cF) ∧ W.cell? ⟨bp, 3, none⟩ = some (.slice AU un cU)) W0.drew := ⟨H1.cell 1, H1.cell 2, H1.cell 3⟩
  refine wp_region_T (S := fun W : World => W.cell? ⟨bp, 1, none⟩ = some (.slice AK kn cK) ∧ W.cell? ⟨bp, 2, none⟩ = some (.slice AF fn cF) ∧ W.cell? ⟨bp, 3, none⟩ = some (.slice AU un cU)) (m := 10) (by kernel_rfl) ?_
  simp only [List.size_toArray, List.length_cons, List.length_nil, Nat.reduceAdd]
  refine tTake (i := 0) (v := ?_) rfl (by kernel_rfl) (by kernel_rfl) (by kernel_rfl) (by kernel_rfl) (fun _ _ _ h => h) hHeld (by rfl) ?_ ?_
  rotate_left
  · (intro w hSw; (try dsimp only at hSw); go_simp; try with_reducible rfl)
  try simp only [Act.put, List.setIfInBounds_toArray, List.set_cons_zero, List.set_cons_succ]
  refine tTake (i := 1) (v := ?_) rfl (by kernel_rfl) (by kernel_rfl) (by kernel_rfl) (by kernel_rfl) (fun _ _ _ h => h) hHeld (by rfl) ?_ ?_
  rotate_left
  · (intro w hSw; (try dsimp only at hSw); go_simp; try with_reducible rfl)
  try simp only [Act.put, List.setIfInBounds_toArray, List.set_cons_zero, List.set_cons_succ]
  refine tTake (i := 3) (v := ?_) rfl (by kernel_rfl) (by kernel_rfl) (by kernel_rfl) (by kernel_rfl) (fun _ _ _ h => h) hHeld (by rfl) ?_ ?_
  rotate_left
  · (intro w hSw; (try dsimp only at hSw); go_simp; try with_reducible rfl)
  try simp only [Act.put, List.setIfInBounds_toArray, List.set_cons_zero, List.set_cons_succ]
  refine tTake (i := 4) (v := ?_) rfl (by kernel_rfl) (by kernel_rfl) (by kernel_rfl) (by kernel_rfl) (fun _ _ _ h => h) hHeld (by rfl) ?_ ?_
  rotate_left
  · (intro w hSw; (try dsimp only at hSw); go_simp; try with_reducible rfl)
  try simp only [Act.put, List.setIfInBounds_toArray, List.set_cons_zero, List.set_cons_succ]
  refine tTake (i := 6) (v := ?_) rfl (by kernel_rfl) (by kernel_rfl) (by kernel_rfl) (by kernel_rfl) (fun _ _ _ h => h) hHeld (by rfl) ?_ ?_
  rotate_left
  · (intro w hSw; (try dsimp only at hSw); go_simp; try with_reducible rfl)
  try simp only [Act.put, List.setIfInBounds_toArray, List.set_cons_zero, List.set_cons_succ]
  refine tTake (i := 7) (v := ?_) rfl (by kernel_rfl) (by kernel_rfl) (by kernel_rfl) (by kernel_rfl) (fun _ _ _ h => h) hHeld (by rfl) ?_ ?_
  rotate_left
  · (intro w hSw; (try dsimp only at hSw); go_simp; try with_reducible rfl)
  try simp only [Act.put, List.setIfInBounds_toArray, List.set_cons_zero, List.set_cons_succ]
  refine tStep (i := 2) rfl (by kernel_rfl) (fun K hK => ?_)
  go_simp
  go_at_call 44
  refine (HC1.out _ (Below.drew (Below.refl W0.heap.size W0))).mono ?_
  rintro e W1 ⟨A1, c1, rfl, hc1, hR1, hb1⟩
  have hB1 : Below W0.heap.size W0 W1 := ((Below.drew (Below.refl W0.heap.size W0))).trans (hb1.mono ((Below.drew (Below.refl W0.heap.size W0))).size)
  have hP1 := H1.below hB1 (by omega)
  have hHeld1 : (fun W : World => W.cell? ⟨bp, 1, none⟩ = some (.slice AK kn cK) ∧ W.cell? ⟨bp, 2, none⟩ = some (.slice AF fn cF) ∧ W.cell? ⟨bp, 3, none⟩ = some (.slice AU un cU)) W1 := ⟨hP1.cell 1, hP1.cell 2, hP1.cell 3⟩
  refine hK.out _ _ (fun _ => hHeld1) ?_
  clear hK K hHeld
  have hHeld := hHeld1
  clear hHeld1
  try simp only [Act.put, List.setIfInBounds_toArray, List.set_cons_zero, List.set_cons_succ]
  refine tTake (i := 9) (v := ?_) rfl (by kernel_rfl) (by kernel_rfl) (by kernel_rfl) (by kernel_rfl) (fun _ _ _ h => h) hHeld (by rfl) ?_ ?_
  rotate_left
  · (intro w hSw; (try dsimp only at hSw); go_simp; try with_reducible rfl)
  try simp only [Act.put, List.setIfInBounds_toArray, List.set_cons_zero, List.set_cons_succ]
  refine tStep (i := 5) rfl (by kernel_rfl) (fun K hK => ?_)
  go_simp
  go_at_call 44
  refine (HC2.out _ hB1).mono ?_
  rintro e W2 ⟨A2, c2, rfl, hc2, hR2, hb2⟩
  have hB2 : Below W0.heap.size W0 W2 := (hB1).trans (hb2.mono (hB1).size)
  have hP2 := H1.below hB2 (by omega)
  have hHeld2 : (fun W : World => W.cell? ⟨bp, 1, none⟩ = some (.slice AK kn cK) ∧ W.cell? ⟨bp, 2, none⟩ = some (.slice AF fn cF) ∧ W.cell? ⟨bp, 3, none⟩ = some (.slice AU un cU)) W2 := ⟨hP2.cell 1, hP2.cell 2, hP2.cell 3⟩
  refine hK.out _ _ (fun _ => hHeld2) ?_
  clear hK K hHeld
  have hHeld := hHeld2
  clear hHeld2
  try simp only [Act.put, List.setIfInBounds_toArray, List.set_cons_zero, List.set_cons_succ]
  refine tStep (i := 8) rfl (by kernel_rfl) (fun K hK => ?_)
  go_simp
  go_at_call 44
  refine (HC3.out _ hB2).mono ?_
  rintro e W3 ⟨A3, c3, rfl, hc3, hR3, hb3⟩
  have hB3 : Below W0.heap.size W0 W3 := (hB2).trans (hb3.mono (hB2).size)
  have hP3 := H1.below hB3 (by omega)
  have hHeld3 : (fun W : World => W.cell? ⟨bp, 1, none⟩ = some (.slice AK kn cK) ∧ W.cell? ⟨bp, 2, none⟩ = some (.slice AF fn cF) ∧ W.cell? ⟨bp, 3, none⟩ = some (.slice AU un cU)) W3 := ⟨hP3.cell 1, hP3.cell 2, hP3.cell 3⟩
  refine hK.out _ _ (fun _ => hHeld3) ?_
  clear hK K hHeld
  have hHeld := hHeld3
  clear hHeld3
  try simp only [Act.put, List.setIfInBounds_toArray, List.set_cons_zero, List.set_cons_succ]
  clear hHeld HC1 HC2 HC3
  have hZ3 := H2.below hB3 (by omega)
  have q := hP3.cell
  have z := hP3.frz
  refine tStep (i := 10) rfl (by kernel_rfl) (fun K hK => ?_)
  go_simp
  refine hK.out _ _ (fun h => absurd h (by decide)) ?_
  clear hK K q z
  have hS1 := hP3.set_ 1 (.slice A1 kn c1)
  try simp only [Act.put, List.setIfInBounds_toArray, List.set_cons_zero, List.set_cons_succ]
  refine tStep (i := 11) rfl (by kernel_rfl) (fun K hK => ?_)
  go_simp
  refine hK.out _ _ (fun h => absurd h (by decide)) ?_
  clear hK K
  try simp only [Act.put, List.setIfInBounds_toArray, List.set_cons_zero, List.set_cons_succ]
  have q := hS1.cell
  have z := hS1.frz
  refine tStep (i := 12) rfl (by kernel_rfl) (fun K hK => ?_)
  go_simp
  refine hK.out _ _ (fun h => absurd h (by decide)) ?_
  clear hK K q z
  have hS2 := hS1.set_ 2 (.slice A2 fn c2)
  try simp only [Act.put, List.setIfInBounds_toArray, List.set_cons_zero, List.set_cons_succ]
  refine tStep (i := 13) rfl (by kernel_rfl) (fun K hK => ?_)
  go_simp
  refine hK.out _ _ (fun h => absurd h (by decide)) ?_
  clear hK K
  try simp only [Act.put, List.setIfInBounds_toArray, List.set_cons_zero, List.set_cons_succ]
  have q := hS2.cell
  have z := hS2.frz
  refine tStep (i := 14) rfl (by kernel_rfl) (fun K hK => ?_)
  go_simp
  refine hK.out _ _ (fun h => absurd h (by decide)) ?_
  clear hK K q z
  have hS3 := hS2.set_ 3 (.slice A3 un c3)
  try simp only [Act.put, List.setIfInBounds_toArray, List.set_cons_zero, List.set_cons_succ]
  refine tDone (by kernel_rfl) ?_ _
  have lZ : bp + 1 ≠ bp := by omega
  have hZ6 := ((hZ3.far (p := ⟨bp, 1, none⟩) lZ (.slice A1 kn c1)).far (p := ⟨bp, 2, none⟩) lZ (.slice A2 fn c2)).far (p := ⟨bp, 3, none⟩) lZ (.slice A3 un c3)
  have hz3 := hB3.size
  have hz1 := hB1.size
  have hz2 := hB2.size
  have hKb : Kb [bp] W3 (((W3.setCell ⟨bp, 1, none⟩ (.slice A1 kn c1)).setCell ⟨bp, 2, none⟩ (.slice A2 fn c2)).setCell ⟨bp, 3, none⟩ (.slice A3 un c3)) := (((Kb.refl [bp] W3).setCell (.inl (by simp)) _).setCell (.inl (by simp)) _).setCell (.inl (by simp)) _
  obtain ⟨W6, hW6⟩ : ∃ x, x = (((W3.setCell ⟨bp, 1, none⟩ (.slice A1 kn c1)).setCell ⟨bp, 2, none⟩ (.slice A2 fn c2)).setCell ⟨bp, 3, none⟩ (.slice A3 un c3)) := ⟨_, rfl⟩
  rw [← hW6] at hS3 hZ6 hKb ⊢
  have q := hS3.cell
  have qz := hZ6.cell
  have zz := hZ6.frz
  clear hW6 hP1 hP2 hP3 hS1 hS2 hZ3 H1 H2
  go_wp2
  have hZ7 := ((((hZ6.set_ 0 (.int .i64 p.crash)).set_ 1 (.slice A1 kn c1)).set_ 2 (.slice A2 fn c2)).set_ 3 (.slice A3 un c3)).set_ 4 (.int .i64 p.room)
  have hk7 : KbP (fun b => b = bp ∨ b = bp + 1) W3 (((((W6.setCell ⟨bp + 1, 0, none⟩ (.int .i64 p.crash)).setCell ⟨bp + 1, 1, none⟩ (.slice A1 kn c1)).setCell ⟨bp + 1, 2, none⟩ (.slice A2 fn c2)).setCell ⟨bp + 1, 3, none⟩ (.slice A3 un c3)).setCell ⟨bp + 1, 4, none⟩ (.int .i64 p.room)) :=
    (((((KbP.of_kb (X := fun b => b = bp ∨ b = bp + 1) hKb (fun b h => by simp only [List.mem_singleton] at h; exact .inl h)).setCell (.inl (.inr rfl)) _).setCell (.inl (.inr rfl)) _).setCell (.inl (.inr rfl)) _).setCell (.inl (.inr rfl)) _).setCell (.inl (.inr rfl)) _
  obtain ⟨W7, hW7⟩ : ∃ x, x = (((((W6.setCell ⟨bp + 1, 0, none⟩ (.int .i64 p.crash)).setCell ⟨bp + 1, 1, none⟩ (.slice A1 kn c1)).setCell ⟨bp + 1, 2, none⟩ (.slice A2 fn c2)).setCell ⟨bp + 1, 3, none⟩ (.slice A3 un c3)).setCell ⟨bp + 1, 4, none⟩ (.int .i64 p.room)) := ⟨_, rfl⟩
  rw [← hW7] at hZ7 hk7 ⊢
  have q7 := hZ7.cell
  have hI : ∀ b, W0.heap.size ≤ b → ¬ (b = bp ∨ b = bp + 1) := fun b h => by omega
  have hlo : ∀ b, W0.heap.size ≤ b → w.heap.size ≤ b := fun b h => by rw [← Hbp.out]; omega
  have f1 : RdP (fun b => W0.heap.size ≤ b) W3 A1 kn (ics p.keep) := ((hR1.kbP (X := fun _ => False) (KbP.of_below hb2) (fun _ _ h => h)).kbP (X := fun _ => False) (KbP.of_below hb3) (fun _ _ h => h)).more (fun b h => h)
  have f2 : RdP (fun b => W0.heap.size ≤ b) W3 A2 fn (ics p.fail) := (hR2.kbP (X := fun _ => False) (KbP.of_below hb3) (fun _ _ h => h)).more (fun b h => Nat.le_trans hz1 h)
  have f3 : RdP (fun b => W0.heap.size ≤ b) W3 A3 un (ics p.full) := hR3.more (fun b h => Nat.le_trans hz2 h)
  have hbf : Below bp w W7 := (hb0.trans (hB3.mono (by omega))).trans ((hk7.below (B := bp) (fun b h => by omega) (by omega)))
  have hP : PlOk (fun b => w.heap.size ≤ b) W7 p A1 c1 A2 c2 A3 c3 := by
    have g1 := (f1.kbP hk7 hI).more hlo
    have g2 := (f2.kbP hk7 hI).more hlo
    have g3 := (f3.kbP hk7 hI).more hlo
    rw [Hkn.out] at g1 hc1
    rw [Hfn.out] at g2 hc2
    rw [Hun.out] at g3 hc3
    exact ⟨g1, g2, g3, hc1, hc2, hc3⟩
  rw [Hbp.out] at hbf
  clear hW7 q qz zz hZ7 hk7 hKb hS3 hZ6
  refine bodyPost_ret (v := plV p A1 c1 A2 c2 A3 c3) ?_ rfl ⟨_, _, _, _, _, _, rfl, hP, hbf⟩
  unfold plV
  rw [← Hkn.out, ← Hfn.out, ← Hun.out]
  simp [results, Tryz.results31, go_sem, q7]
end Go.Proofs.YtgilnjngphhhlaaGreat
/- Layer 1: New, and what tells numbers alone: the walks. -/
namespace Go.Proofs.YtgilnjngphhhlaaGreat
open Go.RowKit Go.Lec Go.Fsy Go.Op
/-- What New answers: a file system in new memory. -/
def NewP (w : World) (s : St) (e : Ending) (w' : World) : Prop :=
  ∃ fb X I, e = .returned (ptrV fb) ∧ FsP X I w' fb s ∧ (∀ b, X b → w.heap.size ≤ b) ∧ (∀ b, I b → w.heap.size ≤ b) ∧ Below w.heap.size w w'
set_option maxRecDepth 40000 in
set_option maxHeartbeats 1600000 in
theorem c_FsNew (w : World) {I : Nat → Prop} {p : Pl} {AK AF AU : Option Addr} {cK cF cU : Nat} (h : PlOk I w p AK cK AF cF AU cU) (n1 : p.keep.length ≤ 1099511627776) (n2 : p.fail.length ≤ 1099511627776) (n3 : p.full.length ≤ 1099511627776) :
    Calls Tryz.prog 16 #[plV p AK cK AF cF AU cU] w (NewP w (new p)) := by
  have hmm := @run_makeMap Tryz.prog
  have hb0 := (Below.refl w.heap.size w).alloc (Nat.le_refl _) (.cells #[.int .i64 p.crash, .slice AK p.keep.length cK, .slice AF p.fail.length cF, .slice AU p.full.length cU, .int .i64 p.room] 44)
  have h0 : PlOk (fun _ => True) (w.alloc (.cells #[.int .i64 p.crash, .slice AK p.keep.length cK, .slice AF p.fail.length cF, .slice AU p.full.length cU, .int .i64 p.room] 44)) p AK cK AF cF AU cU :=
    ⟨(h.rk.kbP (X := fun _ => False) (KbP.of_below hb0) (fun _ _ h => h)).more (fun _ _ => trivial), (h.rf.kbP (X := fun _ => False) (KbP.of_below hb0) (fun _ _ h => h)).more (fun _ _ => trivial), (h.ru.kbP (X := fun _ => False) (KbP.of_below hb0) (fun _ _ h => h)).more (fun _ _ => trivial), h.nk, h.nf, h.nu⟩
  have HT := Lib.hid (c_twin _ h0 n1 n2 n3)
  clear h h0 n1 n2 n3
  unfold plV at HT ⊢
  go_enter Tryz.func16, Tryz.ntmps16
  go_wp2_with (first | (go_at_call 31; (with_reducible refine HT.out.mono ?_); rintro e w1 ⟨A1, c1, A2, c2, A3, c3, rfl, hP, hb1⟩; unfold plV))
  have hz : w.heap.size < w1.heap.size := by have := hb1.size; simp at this; omega
  have hlie : ∀ b, (w.alloc (.cells #[.int .i64 p.crash, .slice AK p.keep.length cK, .slice AF p.fail.length cF, .slice AU p.full.length cU, .int .i64 p.room] 44)).heap.size ≤ b → w.heap.size ≤ b := fun b h => by simp at h; omega
  have hbw := hb0.trans (hb1.mono hb0.size)
  have M1 := World.ownsMap_made (H := Unit) w1 Tryz.prog 9 ptrR
  have M2 := World.ownsMap_made (H := Unit) (w1.alloc (.map #[] 0)) Tryz.prog 9 ptrR
  rw [World.size_alloc] at M2
  have hB2 := (((Below.refl w1.heap.size w1).alloc (Nat.le_refl _) (.map #[] 0)).alloc (by simp) (.map #[] 0)).alloc (by simp; omega) (.cells (fsCs (new p) ⟨A1, c1, A2, c2, A3, c3, w1.heap.size, w1.heap.size + 1, .map [], .map [], .slice none 0 0, fun _ => 0, fun _ => .slice none 0 0⟩) 74)
  have HB := Bk.new_ ((w1.alloc (.map #[] 0)).alloc (.map #[] 0)) 74 (fsCs (new p) ⟨A1, c1, A2, c2, A3, c3, w1.heap.size, w1.heap.size + 1, .map [], .map [], .slice none 0 0, fun _ => 0, fun _ => .slice none 0 0⟩)
  rw [World.size_alloc, World.size_alloc] at HB
  have hf : KbP (fun _ => False) w1 (((w1.alloc (.map #[] 0)).alloc (.map #[] 0)).alloc (.cells (fsCs (new p) ⟨A1, c1, A2, c2, A3, c3, w1.heap.size, w1.heap.size + 1, .map [], .map [], .slice none 0 0, fun _ => 0, fun _ => .slice none 0 0⟩) 74)) := KbP.of_below hB2
  go_ret
  refine ⟨w1.heap.size + 1 + 1, fun b => b = w1.heap.size ∨ b = w1.heap.size + 1 ∨ b = w1.heap.size + 1 + 1, fun b => w.heap.size ≤ b ∧ b < w1.heap.size, rfl, ⟨⟨A1, c1, A2, c2, A3, c3, w1.heap.size, w1.heap.size + 1, .map [], .map [], .slice none 0 0, fun _ => 0, fun _ => .slice none 0 0⟩, ?_⟩, fun b hb => by omega, fun b hb => hb.1, hbw.trans (hB2.mono (by omega))⟩
  have lie : ∀ {A : Option Addr} {l : List Int}, RdP (fun b => (w.alloc (.cells #[.int .i64 p.crash, .slice AK p.keep.length cK, .slice AF p.fail.length cF, .slice AU p.full.length cU, .int .i64 p.room] 44)).heap.size ≤ b) w1 A l.length (ics l) → RdP (fun b => w.heap.size ≤ b ∧ b < w1.heap.size) (((w1.alloc (.map #[] 0)).alloc (.map #[] 0)).alloc (.cells (fsCs (new p) ⟨A1, c1, A2, c2, A3, c3, w1.heap.size, w1.heap.size + 1, .map [], .map [], .slice none 0 0, fun _ => 0, fun _ => .slice none 0 0⟩) 74)) A l.length (ics l) := fun h => by
    have h1 : RdP (fun b => w.heap.size ≤ b ∧ b < w1.heap.size) w1 _ _ _ := ⟨h.rd, fun hn q e => ⟨hlie _ (h.lie hn q e), h.lt hn q e⟩⟩
    exact h1.kbP hf (fun _ _ h => h)
  have hal : ∀ i, ¬ alive (new p) i := by
    rintro i (⟨n, h⟩ | ⟨n, h⟩ | ⟨m, h, _⟩) <;> cases h
  exact ⟨HB, lie hP.rk, lie hP.rf, lie hP.ru, hP.nk, hP.nf, hP.nu, (M1.alloc _).alloc _, M2.alloc _, Rep.nil _, Rep.nil _, OwnK.nil_ _ _ _ _,
    fun i h => absurd h (hal i), fun i j h => absurd h (hal i), fun i j g h => absurd h (hal i), (by show w1.heap.size ≠ w1.heap.size + 1; omega),
    .inr (.inr rfl), .inl rfl, .inr (.inl rfl), (fun g h => by cases h), (fun b h1 h2 => by omega), (fun b h => by simp; omega)⟩
end Go.Proofs.YtgilnjngphhhlaaGreat
/- Layer 1: a move is done to a directory; a change to a file: the walks. -/
namespace Go.Fsy
open Go.Maps Go.Lec
theorem bkGrown {w w' : World} {b : Nat} {t : TypeId} {cs : Array Value} {x : Option Nat} (h : Bk w b t cs) (hg : w.grownBy w' x) (hb : x ≠ some b) : Bk w' b t cs := (hg.block b h.lt (fun e => hb e.symm)).trans h
theorem cell_grown_far {w w' : World} {b : Nat} {p : Addr} (h : w.grownBy w' (some b)) (hp : p.block < w.heap.size) (hne : p.block ≠ b) : w'.cell? p = w.cell? p :=
  World.cell?_of_block (h.block _ hp (fun e => hne (Option.some.inj e)))
theorem strNe {n : Bs} (h : n ≠ []) : (n.isEmpty) = false := by cases n with | nil => exact absurd rfl h | cons a l => rfl
end Go.Fsy
namespace Go.Proofs.YtgilnjngphhhlaaGreat
open Go.RowKit Go.Lec Go.Fsy Go.Op Go.Maps
theorem keyS : Keyed Tryz.prog 9 := string_keyed Tryz.underlying9
theorem zeroP (w : World) : (zeroValue 85).run Tryz.prog w = .ok (.pointer none) w := by kernel_rfl
theorem hkeyS {n : Bs} (h : n.length ≤ 4294967296) : keyOf Tryz.prog 9 (.string ⟨n.toArray⟩) = some (strL n) := by
  have := WideMaps.keyOf_string_mk (P := Tryz.prog) Tryz.underlying9 (s := ⟨n.toArray⟩) (by unfold maxLen; simp [ByteArray.size]; omega)
  simpa [strL] using this
/-- A look-up, with 'ok'. -/
theorem look_ok {w : World} {b k : Nat} {D : DataW Unit} {fid : Nat → Nat} {l : Dir} (hm : w.ownsMap Tryz.prog 9 ptrR b k D) (hr : Rep fid D l) {n : Bs} (hn : n.length ≤ 4294967296) :
    (Instr.lookup 66 (.map (some b)) (.string ⟨n.toArray⟩) true).run Tryz.prog w = .ok (match node l n with | none => .tuple #[.pointer none, .bool false] | some i => .tuple #[ptrV (fid i), .bool true]) w := by
  obtain ⟨v, ps, hrun, hv⟩ := hm.look_ok keyS Tryz.underlying66 (zeroP w) (zd := .nil) (zp := []) rfl (hkeyS hn)
  rw [hrun, hr.has]
  cases hnd : node l n with
  | none =>
    have h0 : D.atKey (strL n) .nil = .nil := atKey_of_not_has (by rw [hr.has, hnd]; rfl) _
    rw [h0] at hv
    rw [ptrR_nil hv]
    rfl
  | some i =>
    rw [hr.at_ n i hnd] at hv
    rw [ptrR_inv hv]
    rfl
theorem look {w : World} {b k : Nat} {D : DataW Unit} {fid : Nat → Nat} {l : Dir} (hm : w.ownsMap Tryz.prog 9 ptrR b k D) (hr : Rep fid D l) {n : Bs} {i : Nat} (hn : n.length ≤ 4294967296) (hi : node l n = some i) :
    (Instr.lookup 66 (.map (some b)) (.string ⟨n.toArray⟩) false).run Tryz.prog w = .ok (ptrV (fid i)) w := by
  obtain ⟨v, ps, hrun, hv⟩ := hm.lookup keyS Tryz.underlying66 (zeroP w) (zd := .nil) (zp := []) rfl (hkeyS hn)
  rw [hr.at_ n i hi] at hv
  rw [hrun, ptrR_inv hv]
  rfl
/-- What a move does to a directory's map. -/
def LayP (w : World) (b : Nat) (fid : Nat → Nat) (l : Dir) (e : Ending) (w' : World) : Prop :=
  e = .returned (.tuple #[]) ∧ (∃ D, w'.ownsMap Tryz.prog 9 ptrR b l.length D ∧ Rep fid D l) ∧ KbP (fun k => k = b) w w'
set_option maxRecDepth 40000 in
set_option maxHeartbeats 1600000 in
theorem c_mvLay (w : World) {b : Nat} {D : DataW Unit} {fid : Nat → Nat} {l : Dir} (m : Mv) (hm : w.ownsMap Tryz.prog 9 ptrR b l.length D) (hr : Rep fid D l) (hl : (l.map (·.1)).Nodup) {N : Nat} (ho : m.okIn N) (hs : m.short) (hn : l.length ≤ 1099511627776) :
    Calls Tryz.prog 47 #[.agg (mvCs fid m).toArray, .map (some b)] w (LayP w b fid (moved l m)) := by
  have hbl := hm.lt
  cases m with
  | made n i =>
    have h1 := strNe ho.1
    have hP := (Bk.new_ w 99 #[svl [], svl n, ptrV (fid i)]).cell
    have hm1 := hm.alloc (.cells #[svl [], svl n, ptrV (fid i)] 99)
    have hb1 := (Below.refl w.heap.size w).alloc (Nat.le_refl _) (.cells #[svl [], svl n, ptrV (fid i)] 99)
    have HD := Lib.hid (hr.put hl n i)
    have Hl := Lib.hid hn
    have hk := hkeyS (n := n) hs
    unfold mvCs svl ptrV at *
    go_enter Tryz.func47, Tryz.ntmps47
    go_wp2_with (first | (at_mapUpdate; refine wpList_mapUpdate_own _ rfl _ _ _ 66 rfl 9 85 keyS Tryz.underlying66 ptrR b l.length D rfl hm1 (by have := Hl.out; unfold maxLen; omega) _ _ _ rfl rfl hk _ [] rfl ?_; intro w2 hm2 hg2))
    go_end0
    exact ⟨rfl, ⟨_, HD.out.size ▸ own_tight hm2, HD.out⟩, (KbP.of_below hb1).grown hg2 (fun g e => by cases e; exact .inl rfl)⟩
  | ren a c i =>
    have h1 := strNe ho.1
    have h2 := strNe ho.2.1
    have hP := (Bk.new_ w 99 #[svl a, svl c, ptrV (fid i)]).cell
    have hm1 := hm.alloc (.cells #[svl a, svl c, ptrV (fid i)] 99)
    have hb1 := (Below.refl w.heap.size w).alloc (Nat.le_refl _) (.cells #[svl a, svl c, ptrV (fid i)] 99)
    have hl1 : ((without l a).map (·.1)).Nodup := hl.sublist ((without_sub l a).map _)
    have HD := Lib.hid ((hr.del hl a).put hl1 c i)
    have Hl := Lib.hid hn
    have hk := hkeyS (n := a) hs.1
    have hk2 := hkeyS (n := c) hs.2
    have hz : b ≠ w.heap.size := by omega
    unfold mvCs svl ptrV at *
    go_enter Tryz.func47, Tryz.ntmps47
    go_wp2_with (first
      | (at_delete; refine wpList_delete_own _ rfl _ _ 66 9 rfl 85 keyS Tryz.underlying66 ptrR b l.length D rfl hm1 _ _ rfl hk ?_; intro w2 hm2 ht2; have hg2 := ht2.grown; have hP2 : ∀ j, w2.cell? ⟨w.heap.size, j, none⟩ = _ := fun j => (cell_grown_far hg2 (by simp) (by simpa using Ne.symm hz)).trans (hP j))
      | (at_mapUpdate; refine wpList_mapUpdate_own _ rfl _ _ _ 66 rfl 9 85 keyS Tryz.underlying66 ptrR b l.length _ rfl hm2 (by have := Hl.out; unfold maxLen; omega) _ _ _ rfl rfl hk2 _ [] rfl ?_; intro w3 hm3 hg3))
    go_end0
    exact ⟨rfl, ⟨_, HD.out.size ▸ own_tight hm3, HD.out⟩, ((KbP.of_below hb1).grown hg2 (fun g e => by cases e; exact .inl rfl)).grown hg3 (fun g e => by cases e; exact .inl rfl)⟩
  | rem a =>
    have h1 := strNe ho
    have hP := (Bk.new_ w 99 #[svl a, svl [], .pointer none]).cell
    have hm1 := hm.alloc (.cells #[svl a, svl [], .pointer none] 99)
    have hb1 := (Below.refl w.heap.size w).alloc (Nat.le_refl _) (.cells #[svl a, svl [], .pointer none] 99)
    have HD := Lib.hid (hr.del hl a)
    have Hl := Lib.hid hn
    have hk := hkeyS (n := a) hs
    have hz : b ≠ w.heap.size := by omega
    unfold mvCs svl at *
    go_enter Tryz.func47, Tryz.ntmps47
    go_wp2_with (first
      | (at_delete; refine wpList_delete_own _ rfl _ _ 66 9 rfl 85 keyS Tryz.underlying66 ptrR b l.length D rfl hm1 _ _ rfl hk ?_; intro w2 hm2 ht2; have hg2 := ht2.grown; have hP2 : ∀ j, w2.cell? ⟨w.heap.size, j, none⟩ = _ := fun j => (cell_grown_far hg2 (by simp) (by simpa using Ne.symm hz)).trans (hP j)))
    go_end0
    exact ⟨rfl, ⟨_, HD.out.size ▸ own_tight hm2, HD.out⟩, (KbP.of_below hb1).grown hg2 (fun g e => by cases e; exact .inl rfl)⟩
end Go.Proofs.YtgilnjngphhhlaaGreat
/- Layer 1: a change to a file: the walk of do. -/
namespace Go.Lec
theorem ownsRow_setCell_far {w : World} {B : Nat} {e : TypeId} {v : Value} {xs : List Value} {a : Addr} (h : Own w B e v xs) (ha : v.ownBlock ≠ some a.block) (u : Value) : Own (w.setCell a u) B e v xs := OwnK.far h ha u
end Go.Lec
namespace Go.Proofs.YtgilnjngphhhlaaGreat
open Go.RowKit Go.Lec Go.Fsy Go.Op Go.Maps
theorem ahead_cutLay (n : Nat) (k : Int) (w : World) : (nilAhead (n + 1) 92 (.agg #[.int .i64 k]) "lectern/fs.lay").run Tryz.prog w = .ok (some false) w := by kernel_rfl
theorem method_cutLay (n : Nat) (k : Int) (w : World) : (method (n + 1) 92 (.agg #[.int .i64 k]) "lectern/fs.lay").run Tryz.prog w = .ok (136, .agg #[.int .i64 k]) w := by kernel_rfl
theorem ahead_addLay (n : Nat) (v : Value) (w : World) : (nilAhead (n + 1) 95 (.agg #[v]) "lectern/fs.lay").run Tryz.prog w = .ok (some false) w := by kernel_rfl
theorem method_addLay (n : Nat) (v : Value) (w : World) : (method (n + 1) 95 (.agg #[v]) "lectern/fs.lay").run Tryz.prog w = .ok (138, .agg #[v]) w := by kernel_rfl
theorem method_cutPart (n : Nat) (k : Int) (w : World) : (method (n + 1) 92 (.agg #[.int .i64 k]) "lectern/fs.part").run Tryz.prog w = .ok (137, .agg #[.int .i64 k]) w := by kernel_rfl
theorem method_addPart (n : Nat) (v : Value) (w : World) : (method (n + 1) 95 (.agg #[v]) "lectern/fs.part").run Tryz.prog w = .ok (139, .agg #[v]) w := by kernel_rfl
theorem slcK : SlK Tryz.prog 87 108 .nilIface 16 1 := ⟨Tryz.underlying87, info_parts infoC, rfl, by decide⟩
/-- What a change leaves of a file. -/
def DoP (X I : Nat → Prop) (w : World) (fb : Nat) (lv : Value) (nd : Nd) (e : Ending) (w' : World) : Prop :=
  e = .returned (.tuple #[]) ∧ ∃ lv', FileOk (fun b => X b ∨ lv'.ownBlock = some b) (fun b => I b ∨ (w.heap.size ≤ b ∧ b < w'.heap.size ∧ lv'.ownBlock ≠ some b)) w' fb lv' nd ∧ (lv'.ownBlock = lv.ownBlock ∨ ∃ g, lv'.ownBlock = some g ∧ w.heap.size ≤ g) ∧ KbP (fun b => b = fb ∨ lv.ownBlock = some b) w w'
theorem do_end {w W6 w7 : World} {X I : Nat → Prop} {fb c1 c5 c7 n5 : Nat} {lv v : Value} {nd : Nd} {A1 _A3 A5 A7 : Option Addr} {vs : List Value} {c : Ch} {u3 : Value} (hxf : X fb) (hxl : ∀ g, lv.ownBlock = some g → X g) (hI : ∀ b, I b → ¬ X b)
    (hIl : ∀ b, I b → b < w.heap.size) (lfb : fb < w.heap.size) (_hl : ∀ g, lv.ownBlock = some g → g < w.heap.size)
    (hR1 : RdP I w A1 nd.safe.length (bcs nd.safe)) (hc1 : nd.safe.length ≤ c1) (hV : ChVs I w vs nd.chg) (hv : ChV I w v c)
    (hk6 : KbP (fun b => b = fb ∨ lv.ownBlock = some b) w W6) (ho6 : Lec.Own W6 0 108 (.slice A5 n5 c5) (vs ++ [v])) (hat : (Value.slice A5 n5 c5).ownBlock = lv.ownBlock ∨ ∃ g, (Value.slice A5 n5 c5).ownBlock = some g ∧ w.heap.size ≤ g)
    (hB7 : Bk w7 fb 89 #[.slice A1 nd.safe.length c1, .slice A5 n5 c5, u3]) (hb7 : Below W6.heap.size W6 w7)
    (hR7 : RdP (fun b => W6.heap.size ≤ b ∨ I b) w7 A7 (Nd.mk nd.safe (nd.chg ++ [c])).data.length (bcs (Nd.mk nd.safe (nd.chg ++ [c])).data)) (hc7 : (Nd.mk nd.safe (nd.chg ++ [c])).data.length ≤ c7) :
    DoP X I w fb lv ⟨nd.safe, nd.chg ++ [c]⟩ (.returned (.tuple #[])) (w7.setCell ⟨fb, 2, none⟩ (.slice A7 (Nd.mk nd.safe (nd.chg ++ [c])).data.length c7)) := by
  have hk8 : KbP (fun b => b = fb ∨ lv.ownBlock = some b) w (w7.setCell ⟨fb, 2, none⟩ (.slice A7 (Nd.mk nd.safe (nd.chg ++ [c])).data.length c7)) := (hk6.after hb7).setCell (.inl (.inl rfl)) _
  have hk78 : KbP (fun b => b = fb) w7 (w7.setCell ⟨fb, 2, none⟩ (.slice A7 (Nd.mk nd.safe (nd.chg ++ [c])).data.length c7)) := (KbP.refl (fun b => b = fb) w7).setCell (p := ⟨fb, 2, none⟩) (.inl rfl) _
  have hIk : ∀ b, I b → ¬ (b = fb ∨ lv.ownBlock = some b) := fun b hb e => hI b hb (e.elim (fun e => e ▸ hxf) (fun e => hxl b e))
  have h5 : ∀ b, (Value.slice A5 n5 c5).ownBlock = some b → X b ∨ (w.heap.size ≤ b) := fun b hb => by
    rcases hat with h | ⟨g, h, hg⟩
    · exact .inl (hxl b (h.symm.trans hb))
    · rw [h] at hb; cases hb; exact .inr hg
  have hnI : ∀ b, I b → (Value.slice A5 n5 c5).ownBlock ≠ some b := fun b hb e => by
    rcases h5 b e with h | h
    · exact hI b hb h
    · have := hIl b hb; omega
  have ho7 : Lec.Own w7 0 108 (.slice A5 n5 c5) (vs ++ [v]) := ho6.below hb7 (Nat.le_refl _)
  have hne7 : (Value.slice A5 n5 c5).ownBlock ≠ some fb := own_bkK ho7 hB7 (by decide)
  have hB8 := hB7.set_ 2 (.slice A7 (Nd.mk nd.safe (nd.chg ++ [c])).data.length c7)
  have hsz : w.heap.size ≤ w7.heap.size := Nat.le_trans hk6.size hb7.size
  refine ⟨rfl, .slice A5 n5 c5, ⟨⟨A1, c1, A7, c7, vs ++ [v], hB8, ?_, hc1, ?_, hc7, ?_, ?_⟩, .inl hxf, fun g hg => .inr hg⟩, hat, hk8⟩
  · exact (hR1.kbP hk8 hIk).more (fun b hb => .inl hb)
  · refine (RdP.kbP (I := fun b => (W6.heap.size ≤ b ∧ b < w7.heap.size) ∨ I b) ⟨hR7.rd, fun hn p hp => ?_⟩ hk78 ?_).more ?_
    · rcases hR7.lie hn p hp with h | h
      · exact .inl ⟨h, hR7.lt hn p hp⟩
      · exact .inr h
    · rintro b (h | h) rfl
      · have := hk6.size; omega
      · exact hIk b h (.inl rfl)
    · rintro b (h | h)
      · refine .inr ⟨Nat.le_trans hk6.size h.1, by simpa using h.2, fun e => ?_⟩
        have h9 := (World.ownsRow.lt ho6 b e).2
        omega
      · exact .inl h
  · exact ownsRow_setCell_far (a := ⟨fb, 2, none⟩) ho7 hne7 _
  · have := ChVs.snoc hV hv
    exact ⟨this.1, fun k u d hu hd => ((this.2 k u d hu hd).kbP hk8 hIk).more (fun b hb => .inl hb)⟩
set_option maxRecDepth 100000 in
set_option maxHeartbeats 1600000 in
theorem c_fileDo_cut (w : World) {X I : Nat → Prop} {fb k : Nat} {lv : Value} {nd : Nd} (h : FileOk X I w fb lv nd) (hI : ∀ b, I b → ¬ X b) (hIl : ∀ b, I b → b < w.heap.size) (hk : k ≤ nd.data.length) (hd : nd.data.length ≤ 268435456) (hn : nd.chg.length ≤ 1073741824) :
    Calls Tryz.prog 39 #[.pointer (some ⟨fb, 0, none⟩), .iface 92 (.agg #[.int .i64 (k : Int)])] w (DoP X I w fb lv ⟨nd.safe, nd.chg ++ [.cut k]⟩) := by
  obtain ⟨A1, c1, A3, c3, vs, hB, hR1, hc1, hR3, hc3, hO, hV⟩ := h.ex
  have hvl : vs.length = nd.chg.length := hV.1
  have hfx := h.xf
  have q := hB.cell
  have z := hB.frz
  have lfb := hB.lt
  have hne := own_bkK hO hB (by decide)
  have hl := fun g hg => (World.ownsRow.lt hO g hg).2
  have hO' : OwnK w 0 108 1 lv nd.chg.length vs := by have := hO; unfold Lec.Own at this; rw [hvl] at this; exact this
  go_enter Tryz.func39, Tryz.ntmps39
  go_wp2_with (at_builtin; go_loud ((refine wpList_appK_new (m := 1) rfl _ _ rfl slcK (by decide) rfl hO' (Below.refl 0 w) (Nat.zero_le _) rfl (news := [.iface 92 (.agg #[.int .i64 (k : Int)])]) rfl (by intro u hu; rw [List.mem_singleton.1 hu]; rfl) (by omega) ?_); intro v5 w5 ho5 hb5 hg5 hat5 _; obtain ⟨A5, c5, rfl, hc5⟩ := ho5.shape; have hB5 := bkGrown hB hg5 hne; have q5 := hB5.cell; have z5 := hB5.frz))
  have ho5' : Lec.Own w5 0 108 (.slice A5 (nd.chg.length + 1) c5) (vs ++ [.iface 92 (.agg #[.int .i64 (k : Int)])]) := by unfold Lec.Own; rw [List.length_append, hvl]; exact ho5
  have hB6 := hB5.set_ 1 (.slice A5 (nd.chg.length + 1) c5)
  have ho6 := ownsRow_setCell_far (a := ⟨fb, 1, none⟩) ho5' (own_bkK ho5' hB5 (by decide)) (.slice A5 (nd.chg.length + 1) c5)
  have hk6 : KbP (fun b => b = fb ∨ lv.ownBlock = some b) w (w5.setCell ⟨fb, 1, none⟩ (.slice A5 (nd.chg.length + 1) c5)) := ((KbP.refl _ _).grown hg5 (fun g e => .inl (.inr e))).setCell (.inl (.inl rfl)) _
  obtain ⟨W6, hW6⟩ : ∃ x, x = w5.setCell ⟨fb, 1, none⟩ (.slice A5 (nd.chg.length + 1) c5) := ⟨_, rfl⟩
  rw [← hW6] at hB6 ho6 hk6 ⊢
  have hIk : ∀ b, I b → ¬ (b = fb ∨ lv.ownBlock = some b) := fun b hb e => hI b hb (e.elim (fun e => e ▸ hfx) (fun e => h.xl b e))
  have hR36 := hR3.kbP hk6 hIk
  have q6 := hB6.cell
  have z6 := hB6.frz
  have HC := Lib.hid (fun W (hb : Below W6.heap.size W6 W) => c_cutLay W (c := c3) (k := k) ((hR36.rd.below hb (Nat.le_refl _)).more hb.size) hc3 hk (by omega))
  have Hat := Lib.hid (show (Value.slice A5 (nd.chg.length + 1) c5).ownBlock = lv.ownBlock ∨ ∃ g, (Value.slice A5 (nd.chg.length + 1) c5).ownBlock = some g ∧ w.heap.size ≤ g from hat5)
  clear hW6 q5 z5 q z hg5 hb5 ho5 hat5 ho5'
  have hna := fun n w => ahead_cutLay n (k : Int) w
  have hme := fun n w => method_cutLay n (k : Int) w
  go_region_with (go_at_call 136; refine (HC.out _ (Below.drew (Below.refl _ _))).mono ?_; rintro e w7 ⟨A7, c7, rfl, hc7, hR7, hb7⟩; have hB7 := hB6.drew.below hb7 hB6.lt; have q7 := hB7.cell; have z7 := hB7.frz)
  all_goals
    have hde : (Nd.mk nd.safe (nd.chg ++ [.cut k])).data = nd.data.take k := dataOf_snoc _ _ _
    have hdl : (Nd.mk nd.safe (nd.chg ++ [.cut k])).data.length = k := by rw [hde, List.length_take]; omega
    have := do_end (c7 := c7) (_A3 := A3) (A7 := A7) (c := .cut k) hfx h.xl hI hIl lfb hl hR1 hc1 hV (show ChV I w (.iface 92 (.agg #[.int .i64 (k : Int)])) (.cut k) from rfl) hk6 ho6 Hat.out hB7 ((Below.drew (Below.refl W6.heap.size W6)).trans hb7) (by rw [hdl, hde]; exact hR7.more (fun b hb => .inl hb)) (by rw [hdl]; exact hc7)
    rw [hdl] at this
    go_end0
    exact this
set_option maxRecDepth 100000 in
set_option maxHeartbeats 1600000 in
theorem c_fileDo_add (w : World) {X I : Nat → Prop} {fb d : Nat} {B : Option Addr} {b : Bs} {lv : Value} {nd : Nd} (h : FileOk X I w fb lv nd) (hI : ∀ b, I b → ¬ X b) (hIl : ∀ b, I b → b < w.heap.size) (hb : RdP I w B b.length (bcs b)) (hbd : b.length ≤ d) (hd : nd.data.length + b.length ≤ 268435456) (hn : nd.chg.length ≤ 1073741824) :
    Calls Tryz.prog 39 #[.pointer (some ⟨fb, 0, none⟩), .iface 95 (.agg #[.slice B b.length d])] w (DoP X I w fb lv ⟨nd.safe, nd.chg ++ [.add b]⟩) := by
  obtain ⟨A1, c1, A3, c3, vs, hB, hR1, hc1, hR3, hc3, hO, hV⟩ := h.ex
  have hvl : vs.length = nd.chg.length := hV.1
  have hfx := h.xf
  have q := hB.cell
  have z := hB.frz
  have lfb := hB.lt
  have hne := own_bkK hO hB (by decide)
  have hl := fun g hg => (World.ownsRow.lt hO g hg).2
  have hO' : OwnK w 0 108 1 lv nd.chg.length vs := by have := hO; unfold Lec.Own at this; rw [hvl] at this; exact this
  go_enter Tryz.func39, Tryz.ntmps39
  go_wp2_with (at_builtin; go_loud ((refine wpList_appK_new (m := 1) rfl _ _ rfl slcK (by decide) rfl hO' (Below.refl 0 w) (Nat.zero_le _) rfl (news := [.iface 95 (.agg #[.slice B b.length d])]) rfl (by intro u hu; rw [List.mem_singleton.1 hu]; rfl) (by omega) ?_); intro v5 w5 ho5 hb5 hg5 hat5 _; obtain ⟨A5, c5, rfl, hc5⟩ := ho5.shape; have hB5 := bkGrown hB hg5 hne; have q5 := hB5.cell; have z5 := hB5.frz))
  have ho5' : Lec.Own w5 0 108 (.slice A5 (nd.chg.length + 1) c5) (vs ++ [.iface 95 (.agg #[.slice B b.length d])]) := by unfold Lec.Own; rw [List.length_append, hvl]; exact ho5
  have hB6 := hB5.set_ 1 (.slice A5 (nd.chg.length + 1) c5)
  have ho6 := ownsRow_setCell_far (a := ⟨fb, 1, none⟩) ho5' (own_bkK ho5' hB5 (by decide)) (.slice A5 (nd.chg.length + 1) c5)
  have hk6 : KbP (fun b => b = fb ∨ lv.ownBlock = some b) w (w5.setCell ⟨fb, 1, none⟩ (.slice A5 (nd.chg.length + 1) c5)) := ((KbP.refl _ _).grown hg5 (fun g e => .inl (.inr e))).setCell (.inl (.inl rfl)) _
  obtain ⟨W6, hW6⟩ : ∃ x, x = w5.setCell ⟨fb, 1, none⟩ (.slice A5 (nd.chg.length + 1) c5) := ⟨_, rfl⟩
  rw [← hW6] at hB6 ho6 hk6 ⊢
  have hIk : ∀ b, I b → ¬ (b = fb ∨ lv.ownBlock = some b) := fun b hb e => hI b hb (e.elim (fun e => e ▸ hfx) (fun e => h.xl b e))
  have hR36 := hR3.kbP hk6 hIk
  have q6 := hB6.cell
  have z6 := hB6.frz
  have hRb6 := hb.kbP hk6 hIk
  have HC := Lib.hid (fun W (hw : Below W6.heap.size W6 W) => c_addedLay W (c := c3) (d := d) ((hR36.rd.below hw (Nat.le_refl _)).more hw.size) hc3 ((hRb6.rd.below hw (Nat.le_refl _)).more hw.size) (by omega))
  have Hat := Lib.hid (show (Value.slice A5 (nd.chg.length + 1) c5).ownBlock = lv.ownBlock ∨ ∃ g, (Value.slice A5 (nd.chg.length + 1) c5).ownBlock = some g ∧ w.heap.size ≤ g from hat5)
  clear hW6 q5 z5 q z hg5 hb5 ho5 hat5 ho5'
  have hna := fun n w => ahead_addLay n (.slice B b.length d) w
  have hme := fun n w => method_addLay n (.slice B b.length d) w
  go_region_with (go_at_call 138; refine (HC.out _ (Below.drew (Below.refl _ _))).mono ?_; rintro e w7 ⟨v7, rfl, A7, c7, rfl, hc7, hR7, hN7, hb7⟩; have hB7 := hB6.drew.below hb7 hB6.lt; have q7 := hB7.cell; have z7 := hB7.frz)
  all_goals
    have hde : (Nd.mk nd.safe (nd.chg ++ [.add b])).data = nd.data ++ b := dataOf_snoc _ _ _
    have hdl : (Nd.mk nd.safe (nd.chg ++ [.add b])).data.length = nd.data.length + b.length := by rw [hde, List.length_append]
    have := do_end (c7 := c7) (_A3 := A3) (A7 := A7) (c := .add b) hfx h.xl hI hIl lfb hl hR1 hc1 hV (show ChV I w (.iface 95 (.agg #[.slice B b.length d])) (.add b) from ⟨B, d, rfl, hb, hbd⟩) hk6 ho6 Hat.out hB7 ((Below.drew (Below.refl W6.heap.size W6)).trans hb7) (by rw [hdl, hde]; exact ⟨hR7, fun h0 p hp => (hN7 h0 p hp).elim (fun e => .inr (hR3.lie e.2 p e.1)) (fun e => .inl e)⟩) (by rw [hdl]; exact hc7)
    rw [hdl] at this
    go_end0
    exact this
end Go.Proofs.YtgilnjngphhhlaaGreat
/- Layer 1: a file of a file system is changed: what holds of the whole. -/
namespace Go.Fsy
theorem ndAt_set {l : List Nd} {i : Nat} (h : i < l.length) (n : Nd) : ndAt (l.set i n) i = n := by simp [ndAt, List.getD_eq_getElem?_getD, h]
theorem ndAt_other {l : List Nd} {i j : Nat} (h : i ≠ j) (n : Nd) : ndAt (l.set i n) j = ndAt l j := by simp [ndAt, List.getD_eq_getElem?_getD, h]
theorem alive_lt {s : St} {N i : Nat} (h : Inv s N) (hi : alive s i) : i < s.nodes.length := by
  rcases hi with ⟨n, hn⟩ | ⟨n, hn⟩ | ⟨m, hm, hd⟩
  · exact (h.dir.2 _ hn).2.2
  · exact (h.safe.2 _ hn).2.2
  · have := (h.mvs m hm).1
    cases m with
    | made a j => cases hd; exact this.2
    | ren a b j => cases hd; exact this.2.2
    | rem a => cases hd
end Go.Fsy
namespace Go.Proofs.YtgilnjngphhhlaaGreat
open Go.RowKit Go.Lec Go.Fsy Go.Op Go.Maps
theorem FileOk.own {X I : Nat → Prop} {w : World} {fb : Nat} {lv : Value} {nd : Nd} (h : FileOk X I w fb lv nd) : ∃ vs, Lec.Own w 0 108 lv vs := by
  obtain ⟨A1, c1, A3, c3, vs, h1, h2, h3, h4, h5, h6, h7⟩ := h.ex
  exact ⟨vs, h6⟩
theorem FileOk.bk {X I : Nat → Prop} {w : World} {fb : Nat} {lv : Value} {nd : Nd} (h : FileOk X I w fb lv nd) : ∃ cs, Bk w fb 89 cs := by
  obtain ⟨A1, c1, A3, c3, vs, h1, h2, h3, h4, h5, h6, h7⟩ := h.ex
  exact ⟨_, h1⟩
/-- What a change of one file's blocks leaves alone. -/
structure OneF (X I : Nat → Prop) (w : World) (fb : Nat) (s : St) (G : Geo) (i : Nat) (Y : Nat → Prop) : Prop where
  fb : ¬ Y fb
  dm : ¬ Y G.dm
  sm : ¬ Y G.sm
  mv : ∀ g, G.mv.ownBlock = some g → ¬ Y g
  fid : ∀ j, alive s j → j ≠ i → ¬ Y (G.fid j)
  lv : ∀ j g, alive s j → j ≠ i → (G.lv j).ownBlock = some g → ¬ Y g
  im : ∀ b, I b → ¬ Y b
theorem FsG.one {X I : Nat → Prop} {w : World} {fb : Nat} {s : St} {G : Geo} {i : Nat} (h : FsG X I w fb s G) (hi : alive s i) : OneF X I w fb s G i (fun b => b = G.fid i ∨ (G.lv i).ownBlock = some b) := by
  have hf := h.files i hi
  obtain ⟨vs, hO⟩ := hf.own
  obtain ⟨cs, hB⟩ := hf.bk
  refine ⟨?_, ?_, ?_, ?_, ?_, ?_, ?_⟩
  · rintro (e | e)
    · exact bk_ne h.bk hB (by decide) e
    · exact own_bkK hO h.bk (by decide) e
  · rintro (e | e)
    · exact bk_map hB h.dmap e.symm
    · exact own_map hO h.dmap e
  · rintro (e | e)
    · exact bk_map hB h.smap e.symm
    · exact own_map hO h.smap e
  · rintro g hg (e | e)
    · exact own_bkK h.mvs hB (by decide) (by rw [← e]; exact hg)
    · exact own_own h.mvs hO (by decide) g hg e
  · rintro j hj hji (e | e)
    · exact hji (h.inj j i hj hi e)
    · obtain ⟨cs2, hB2⟩ := (h.files j hj).bk
      exact own_bkK hO hB2 (by decide) e
  · rintro j g hj hji hg (e | e)
    · obtain ⟨vs2, hO2⟩ := (h.files j hj).own
      exact own_bkK hO2 hB (by decide) (by rw [← e]; exact hg)
    · exact hji (h.injl j i g hj hi hg e)
  · rintro b hb (e | e)
    · exact h.xi b hb (e ▸ hf.xf)
    · exact h.xi b hb (hf.xl b e)
/-- A file has changed: the file system has. -/
theorem fs_setNdG {X I : Nat → Prop} {w w' : World} {fb : Nat} {s : St} {G : Geo} {i : Nat} {nd : Nd} {lv' : Value} (h : FsG X I w fb s G) (hi : alive s i) (hlen : i < s.nodes.length)
    (hf : FileOk (fun b => X b ∨ lv'.ownBlock = some b) (fun b => I b ∨ (w.heap.size ≤ b ∧ b < w'.heap.size ∧ lv'.ownBlock ≠ some b)) w' (G.fid i) lv' nd)
    (hat : lv'.ownBlock = (G.lv i).ownBlock ∨ ∀ g, lv'.ownBlock = some g → w.heap.size ≤ g) (hk : KbP (fun b => b = G.fid i ∨ (G.lv i).ownBlock = some b) w w') :
    ∃ X' I' lv, FsG X' I' w' fb (setNd s i nd) { G with lv := lv } ∧ Grow X I w X' I' w' := by
  have h1 := h.one hi
  have hl : ∀ g, lv'.ownBlock = some g → X g ∨ w.heap.size ≤ g := fun g hg => by
    rcases hat with e | e
    · exact .inl ((h.files i hi).xl g (e ▸ hg))
    · exact .inr (e g hg)
  refine ⟨fun b => X b ∨ lv'.ownBlock = some b, fun b => I b ∨ (w.heap.size ≤ b ∧ b < w'.heap.size ∧ lv'.ownBlock ≠ some b), fun j => if j = i then lv' else G.lv j, ?_, ⟨fun b hb => hb.elim .inl (hl b), fun b hb => hb.imp_right (fun e => e.1), hk.more (fun b hb => hb.elim (fun e => e ▸ (h.files i hi).xf) (fun e => (h.files i hi).xl b e))⟩⟩
  have hnew : ∀ j g, alive s j → j ≠ i → (G.lv j).ownBlock = some g → lv'.ownBlock ≠ some g := fun j g hj hji hg e => by
    rcases hat with e' | e'
    · exact hji (h.injl j i g hj hi hg (e' ▸ e))
    · have := e' g e
      obtain ⟨vs2, hO2⟩ := (h.files j hj).own
      have := (World.ownsRow.lt hO2 g hg).2
      omega
  refine ⟨h.bk.kbP hk h1.fb, (h.rk.kbP hk h1.im).more (fun b => .inl), (h.rf.kbP hk h1.im).more (fun b => .inl), (h.ru.kbP hk h1.im).more (fun b => .inl), h.nk, h.nf, h.nu, ownsMap_kbP h.dmap hk h1.dm, ownsMap_kbP h.smap hk h1.sm, h.rep1, h.rep2,
    OwnK.kbP h.mvs hk h1.mv, ?_, h.inj, ?_, h.ne, .inl h.xfb, .inl h.xdm, .inl h.xsm, fun g hg => .inl (h.xmv g hg), ?_, ?_⟩
  · intro j hj
    by_cases hji : j = i
    · subst hji
      show FileOk _ _ w' (G.fid j) (if j = j then lv' else G.lv j) (ndAt (s.nodes.set j nd) j)
      rw [if_pos rfl, ndAt_set hlen]
      exact hf
    · show FileOk _ _ w' (G.fid j) (if j = i then lv' else G.lv j) (ndAt (s.nodes.set i nd) j)
      rw [if_neg hji, ndAt_other (Ne.symm hji)]
      exact ((h.files j hj).kbP hk (h1.fid j hj hji) (fun g hg => h1.lv j g hj hji hg) h1.im).more (fun b => .inl) (fun b => .inl)
  · intro j k g hj hk' hgj hgk
    change (if j = i then lv' else G.lv j).ownBlock = some g at hgj
    change (if k = i then lv' else G.lv k).ownBlock = some g at hgk
    by_cases hji : j = i
    · by_cases hki : k = i
      · rw [hji, hki]
      · rw [if_pos hji] at hgj; rw [if_neg hki] at hgk
        exact absurd hgj (hnew k g hk' hki hgk)
    · by_cases hki : k = i
      · rw [if_neg hji] at hgj; rw [if_pos hki] at hgk
        exact absurd hgk (hnew j g hj hji hgj)
      · rw [if_neg hji] at hgj; rw [if_neg hki] at hgk
        exact h.injl j k g hj hk' hgj hgk
  · rintro b (hb | hb) (hx | hx)
    · exact h.xi b hb hx
    · rcases hl b hx with e | e
      · exact h.xi b hb e
      · have := h.lt b (.inr hb); omega
    · have := h.lt b (.inl hx); omega
    · exact hb.2.2 hx
  · rintro b ((hb | hb) | (hb | hb))
    · exact Nat.lt_of_lt_of_le (h.lt b (.inl hb)) hk.size
    · obtain ⟨vs2, hO2⟩ := hf.own
      exact (World.ownsRow.lt hO2 b hb).2
    · exact Nat.lt_of_lt_of_le (h.lt b (.inr hb)) hk.size
    · exact hb.2.1
theorem fs_setNd {X I : Nat → Prop} {w w' : World} {fb : Nat} {s : St} {G : Geo} {i : Nat} {nd : Nd} {lv' : Value} (h : FsG X I w fb s G) (hi : alive s i) (hlen : i < s.nodes.length)
    (hf : FileOk (fun b => X b ∨ lv'.ownBlock = some b) (fun b => I b ∨ (w.heap.size ≤ b ∧ b < w'.heap.size ∧ lv'.ownBlock ≠ some b)) w' (G.fid i) lv' nd)
    (hat : lv'.ownBlock = (G.lv i).ownBlock ∨ ∀ g, lv'.ownBlock = some g → w.heap.size ≤ g) (hk : KbP (fun b => b = G.fid i ∨ (G.lv i).ownBlock = some b) w w') :
    ∃ X' I', FsP X' I' w' fb (setNd s i nd) ∧ Grow X I w X' I' w' := by
  obtain ⟨X', I', lv, hG, hg⟩ := fs_setNdG h hi hlen hf hat hk
  exact ⟨X', I', ⟨_, hG⟩, hg⟩
end Go.Proofs.YtgilnjngphhhlaaGreat
