/- Layer 1: a file is copied: the walk of Clone's closure. -/
import Derived.Test.YtaanmnplfppdeaaGreatFsX1
import Derived.Test.YtaanmnplfppdeaaGreatFsRd
import Derived.Test.YtaanmnplfppdeaaGreatPtrMap
import Derived.Test.YtaanmnplfppdeaaGreatHeldT
namespace Go.Lec
open Go.RowKit Go.Fsy
theorem plainB.kbP {X : Nat → Prop} {w w' : World} {b : Nat} (h : plainB w b) (hk : KbP X w w') (hX : ¬ X b) : plainB w' b := by
  obtain ⟨cs, t, hb⟩ := h
  exact ⟨cs, t, (hk.block b (Array.getElem?_eq_some_iff.1 hb).1 hX).trans hb⟩
theorem plainB.lt {w : World} {b : Nat} (h : plainB w b) : b < w.heap.size := by
  obtain ⟨cs, t, hb⟩ := h
  exact (Array.getElem?_eq_some_iff.1 hb).1
theorem plainB.ne {w : World} {b m : Nat} {L : List (Nat × Value)} (h : plainB w b) (hm : KmP w m L) : b ≠ m := by
  rintro rfl
  obtain ⟨cs, t, hb⟩ := h
  obtain ⟨es, clock, hc, _⟩ := hm
  rw [hb] at hc; cases hc
theorem Bk.plain {w : World} {b : Nat} {t : TypeId} {cs : Array Value} (h : Bk w b t cs) : plainB w b := ⟨cs, t, h⟩
theorem valP_snoc {L : List (Nat × Value)} {x : Nat} {v : Value} (h : valP L x = none) : valP (L ++ [(x, v)]) x = some v := by
  unfold valP at h ⊢
  rw [Option.map_eq_none_iff] at h
  rw [List.find?_append, h]
  simp
end Go.Lec
namespace Go.Proofs.YtaanmnplfppdeaaGreat
open Go.RowKit Go.Lec Go.Fsy Go.Op Go.Maps
set_option maxRecDepth 40000 in
theorem c_CloneC (w : World) {A : Option Addr} {n c : Nat} {vs : List Value} (hr : Rd w w.heap.size A n vs) (h1 : ∀ u ∈ vs, u.oneCell' = true) (hn : n ≤ 1099511627776) :
    Calls Tryz.prog 63 #[.slice A n c] w fun e w' => ∃ v, e = .returned v ∧ Lec.Own w' w.heap.size 113 v vs ∧ Below w.heap.size w w' := by
  have hk := Lib.run_eql_slice_nil (P := Tryz.prog) w 80 113 A n c 0 0 Tryz.underlying80
  have Hln := Lib.hid hr.1
  go_enter Tryz.func63, Tryz.ntmps63
  cases A with
  | none =>
    have h0 : n = 0 := by
      rcases Nat.eq_zero_or_pos n with h | h
      · exact h
      · obtain ⟨b, o, e, _⟩ := hr.2 h; cases e
    subst h0
    obtain rfl : vs = [] := List.eq_nil_of_length_eq_zero Hln.out
    go_wp2
    go_ret
    exact ⟨_, rfl, Lec.Own.nil_ _ _ _, Below.refl _ _⟩
  | some a =>
    go_wp2_with (first
      | (at_builtin; (refine wpList_app_rd (m := n) rfl _ _ rfl slc rfl (Lec.Own.lit w [] (Nat.le_refl _) (by simp)) rfl (hr.alloc (Nat.le_refl _) _) h1 (by simp; omega) (by decide) (by simp) ?_); intro v2 w2 ho2 hb2 hg2))
    rw [List.nil_append] at ho2
    obtain ⟨A2, c2, rfl, hc2⟩ := ho2.shape
    go_ret
    exact ⟨_, rfl, ho2, ((Below.refl _ _).alloc (Nat.le_refl _) _).trans hb2⟩
set_option maxRecDepth 40000 in
theorem c_copied_nil (w : World) (sb : Nat) : Calls Tryz.prog 62 #[.pointer none, .pointer (some ⟨sb, 0, none⟩)] w fun e w' => e = .returned (.pointer none) ∧ w = w' := by
  go_enter Tryz.func62, Tryz.ntmps62
  go_wp2
  go_ret
  exact ⟨rfl, rfl⟩
/-- What a copy is. -/
def CopyP (I : Nat → Prop) (W : World) (x mb : Nat) (L : List (Nat × Value)) (nd : Nd) (e : Ending) (w' : World) : Prop :=
  ∃ nb lv', e = .returned (ptrV nb) ∧ KmP w' mb (L ++ [(x, ptrV nb)]) ∧ W.heap.size ≤ nb ∧ nb < w'.heap.size ∧ (∀ g, lv'.ownBlock = some g → W.heap.size ≤ g ∧ g < w'.heap.size ∧ g ≠ nb) ∧
    FileOk (fun b => b = nb ∨ lv'.ownBlock = some b) (fun b => I b ∨ (W.heap.size ≤ b ∧ b < w'.heap.size ∧ b ≠ nb ∧ lv'.ownBlock ≠ some b)) w' nb lv' nd ∧ KbP (fun b => b = mb) W w'
set_option maxRecDepth 40000 in
set_option maxHeartbeats 800000 in
theorem c_copied_old (w : World) {sb mb x b : Nat} {L : List (Nat × Value)} (hsb : Bk w sb 110 #[.map (some mb)]) (hx : plainB w x) (hL : ∀ p ∈ L, plainB w p.1) (hm : KmP w mb L) (hv : valP L x = some (ptrV b)) :
    Calls Tryz.prog 62 #[ptrV x, .pointer (some ⟨sb, 0, none⟩)] w fun e w' => e = .returned (ptrV b) ∧ w' = w := by
  obtain ⟨j, hj, _, hjs, _⟩ := info_parts infoF
  have hlk := run_lookup_ptr (P := Tryz.prog) (t := 110) (k := 83) (e := 83) (te := 82) Tryz.underlying110 Tryz.underlying83 hj (by omega) (zeroP w) hm hx hL
  rw [hv] at hlk
  have q := hsb.cell 0
  unfold ptrV at *
  clear hm hL hx hsb hv
  go_enter Tryz.func62, Tryz.ntmps62
  go_wp2
  go_ret
  exact ⟨rfl, rfl⟩
set_option maxRecDepth 100000 in
set_option maxHeartbeats 1600000 in
theorem c_copied_new (w : World) {X I : Nat → Prop} {sb mb x N : Nat} {lv : Value} {nd : Nd} {L : List (Nat × Value)} (hsb : Bk w sb 110 #[.map (some mb)]) (hx : plainB w x) (hL : ∀ p ∈ L, plainB w p.1) (hm : KmP w mb L) (hv : valP L x = none)
    (hF : FileOk X I w x lv nd) (hI : ∀ b, I b → b ≠ mb) (hIl : ∀ b, I b → b < w.heap.size) (hxm : x ≠ mb) (n1 : nd.safe.length ≤ 268435456) (n2 : nd.data.length ≤ 268435456) (n3 : nd.chg.length ≤ 1099511627776) :
    Calls Tryz.prog 62 #[ptrV x, .pointer (some ⟨sb, 0, none⟩)] w (CopyP I w x mb L nd) := by
  obtain ⟨j, hj, _, hjs, _⟩ := info_parts infoF
  have hlk := run_lookup_ptr (P := Tryz.prog) (t := 110) (k := 83) (e := 83) (te := 82) Tryz.underlying110 Tryz.underlying83 hj (by omega) (zeroP w) hm hx hL
  rw [hv] at hlk
  obtain ⟨A1, c1, A3, c3, vs, hB, hR1, hc1, hR3, hc3, hO, hCh⟩ := hF.ex
  obtain ⟨Al, cl, rfl, hcl⟩ := hO.shape
  have hvl : vs.length = nd.chg.length := hCh.1
  have hv1 : ∀ u ∈ vs, u.oneCell' = true := by
    intro u hu
    obtain ⟨k, hk, rfl⟩ := List.getElem_of_mem hu
    exact (hCh.2 k _ (nd.chg[k]'(by omega)) (List.getElem?_eq_getElem hk) (List.getElem?_eq_getElem (by omega))).one
  have hq0 := hsb.cell 0
  have q := hB.cell
  have hlx := hB.lt
  have hls := hsb.lt
  have C1 := Lib.hid (fun (W : World) (hb : Below w.heap.size w W) => c_CloneB W (c := c1) (RdP.below hR1 hb).rd (Nat.le_refl _) (show nd.safe.length ≤ 1099511627776 by omega))
  have C2 := Lib.hid (fun (W : World) (hb : Below w.heap.size w W) => c_CloneC W (A := Al) (n := vs.length) (c := cl) (((Lec.Own.rd hO).below hb (Nat.le_refl _)).more hb.size) hv1 (by omega))
  have C3 := Lib.hid (fun (W : World) (hb : Below w.heap.size w W) => c_CloneB W (c := c3) (RdP.below hR3 hb).rd (Nat.le_refl _) (show nd.data.length ≤ 1099511627776 by omega))
  obtain ⟨z1, hz1⟩ : ∃ z, z = nd.safe.length := ⟨_, rfl⟩
  obtain ⟨z3, hz3⟩ : ∃ z, z = nd.data.length := ⟨_, rfl⟩
  obtain ⟨zl, hzl⟩ : ∃ z, z = vs.length := ⟨_, rfl⟩
  rw [← hz1] at C1
  rw [← hz1, ← hz3] at q
  rw [← hz3] at C3
  rw [← hzl] at C2 q
  have Hz1 := Lib.hid hz1
  have Hz3 := Lib.hid hz3
  have Hzl := Lib.hid hzl
  have Hm := Lib.hid hm
  have Hx := Lib.hid hx
  have HL := Lib.hid hL
  have Hv := Lib.hid hv
  have HCh := Lib.hid hCh
  have HI := Lib.hid hI
  have HIl := Lib.hid hIl
  unfold ptrV at *
  clear hz1 hz3 hzl hm hL hx hv hO hCh hR1 hR3 hB hF hv1 hc1 hc3 hcl hvl n1 n2 n3 hI hIl
  have hHeld : (fun W : World => W.cell? ⟨sb, 0, none⟩ = some (.map (some mb)) ∧ W.cell? ⟨x, 0, none⟩ = some (.slice A1 z1 c1) ∧ W.cell? ⟨x, 1, none⟩ = some (.slice Al zl cl) ∧ W.cell? ⟨x, 2, none⟩ = some (.slice A3 z3 c3)) w.drew := ⟨hq0, q 0, q 1, q 2⟩
  go_enter Tryz.func62, Tryz.ntmps62
  go_wp2
  refine wp_region_T (S := fun W : World => W.cell? ⟨sb, 0, none⟩ = some (.map (some mb)) ∧ W.cell? ⟨x, 0, none⟩ = some (.slice A1 z1 c1) ∧ W.cell? ⟨x, 1, none⟩ = some (.slice Al zl cl) ∧ W.cell? ⟨x, 2, none⟩ = some (.slice A3 z3 c3)) (m := 19) (by kernel_rfl) ?_
  simp only [List.size_toArray, List.length_cons, List.length_nil, Nat.reduceAdd]
  refine tTake (i := 0) (v := ?_) rfl (by kernel_rfl) (by kernel_rfl) (by kernel_rfl) (by kernel_rfl) (fun _ _ _ h => h) hHeld (by rfl) ?_ ?_
  rotate_left
  · (intro w hSw; (try dsimp only at hSw); go_simp; try with_reducible rfl)
  try simp only [Act.put, List.setIfInBounds_toArray, List.set_cons_zero, List.set_cons_succ]
  refine tTake (i := 1) (v := ?_) rfl (by kernel_rfl) (by kernel_rfl) (by kernel_rfl) (by kernel_rfl) (fun _ _ _ h => h) hHeld (by rfl) ?_ ?_
  rotate_left
  · (intro w hSw; (try dsimp only at hSw); go_simp; try with_reducible rfl)
  try simp only [Act.put, List.setIfInBounds_toArray, List.set_cons_zero, List.set_cons_succ]
  refine tTake (i := 2) (v := ?_) rfl (by kernel_rfl) (by kernel_rfl) (by kernel_rfl) (by kernel_rfl) (fun _ _ _ h => h) hHeld (by rfl) ?_ ?_
  rotate_left
  · (intro w hSw; (try dsimp only at hSw); go_simp; try with_reducible rfl)
  try simp only [Act.put, List.setIfInBounds_toArray, List.set_cons_zero, List.set_cons_succ]
  refine tTake (i := 3) (v := ?_) rfl (by kernel_rfl) (by kernel_rfl) (by kernel_rfl) (by kernel_rfl) (fun _ _ _ h => h) hHeld (by rfl) ?_ ?_
  rotate_left
  · (intro w hSw; (try dsimp only at hSw); go_simp; try with_reducible rfl)
  try simp only [Act.put, List.setIfInBounds_toArray, List.set_cons_zero, List.set_cons_succ]
  refine tTake (i := 4) (v := ?_) rfl (by kernel_rfl) (by kernel_rfl) (by kernel_rfl) (by kernel_rfl) (fun _ _ _ h => h) hHeld (by rfl) ?_ ?_
  rotate_left
  · (intro w hSw; (try dsimp only at hSw); go_simp; try with_reducible rfl)
  try simp only [Act.put, List.setIfInBounds_toArray, List.set_cons_zero, List.set_cons_succ]
  refine tTake (i := 5) (v := ?_) rfl (by kernel_rfl) (by kernel_rfl) (by kernel_rfl) (by kernel_rfl) (fun _ _ _ h => h) hHeld (by rfl) ?_ ?_
  rotate_left
  · (intro w hSw; (try dsimp only at hSw); go_simp; try with_reducible rfl)
  try simp only [Act.put, List.setIfInBounds_toArray, List.set_cons_zero, List.set_cons_succ]
  refine tTake (i := 7) (v := ?_) rfl (by kernel_rfl) (by kernel_rfl) (by kernel_rfl) (by kernel_rfl) (fun _ _ _ h => h) hHeld (by rfl) ?_ ?_
  rotate_left
  · (intro w hSw; (try dsimp only at hSw); go_simp; try with_reducible rfl)
  try simp only [Act.put, List.setIfInBounds_toArray, List.set_cons_zero, List.set_cons_succ]
  refine tTake (i := 8) (v := ?_) rfl (by kernel_rfl) (by kernel_rfl) (by kernel_rfl) (by kernel_rfl) (fun _ _ _ h => h) hHeld (by rfl) ?_ ?_
  rotate_left
  · (intro w hSw; (try dsimp only at hSw); go_simp; try with_reducible rfl)
  try simp only [Act.put, List.setIfInBounds_toArray, List.set_cons_zero, List.set_cons_succ]
  refine tTake (i := 9) (v := ?_) rfl (by kernel_rfl) (by kernel_rfl) (by kernel_rfl) (by kernel_rfl) (fun _ _ _ h => h) hHeld (by rfl) ?_ ?_
  rotate_left
  · (intro w hSw; (try dsimp only at hSw); go_simp; try with_reducible rfl)
  try simp only [Act.put, List.setIfInBounds_toArray, List.set_cons_zero, List.set_cons_succ]
  refine tTake (i := 10) (v := ?_) rfl (by kernel_rfl) (by kernel_rfl) (by kernel_rfl) (by kernel_rfl) (fun _ _ _ h => h) hHeld (by rfl) ?_ ?_
  rotate_left
  · (intro w hSw; (try dsimp only at hSw); go_simp; try with_reducible rfl)
  try simp only [Act.put, List.setIfInBounds_toArray, List.set_cons_zero, List.set_cons_succ]
  refine tTake (i := 12) (v := ?_) rfl (by kernel_rfl) (by kernel_rfl) (by kernel_rfl) (by kernel_rfl) (fun _ _ _ h => h) hHeld (by rfl) ?_ ?_
  rotate_left
  · (intro w hSw; (try dsimp only at hSw); go_simp; try with_reducible rfl)
  try simp only [Act.put, List.setIfInBounds_toArray, List.set_cons_zero, List.set_cons_succ]
  refine tTake (i := 13) (v := ?_) rfl (by kernel_rfl) (by kernel_rfl) (by kernel_rfl) (by kernel_rfl) (fun _ _ _ h => h) hHeld (by rfl) ?_ ?_
  rotate_left
  · (intro w hSw; (try dsimp only at hSw); go_simp; try with_reducible rfl)
  try simp only [Act.put, List.setIfInBounds_toArray, List.set_cons_zero, List.set_cons_succ]
  refine tTake (i := 14) (v := ?_) rfl (by kernel_rfl) (by kernel_rfl) (by kernel_rfl) (by kernel_rfl) (fun _ _ _ h => h) hHeld (by rfl) ?_ ?_
  rotate_left
  · (intro w hSw; (try dsimp only at hSw); go_simp; try with_reducible rfl)
  try simp only [Act.put, List.setIfInBounds_toArray, List.set_cons_zero, List.set_cons_succ]
  refine tTake (i := 15) (v := ?_) rfl (by kernel_rfl) (by kernel_rfl) (by kernel_rfl) (by kernel_rfl) (fun _ _ _ h => h) hHeld (by rfl) ?_ ?_
  rotate_left
  · (intro w hSw; (try dsimp only at hSw); go_simp; try with_reducible rfl)
  try simp only [Act.put, List.setIfInBounds_toArray, List.set_cons_zero, List.set_cons_succ]
  refine tStep (i := 6) rfl (by kernel_rfl) (fun K hK => ?_)
  go_simp
  go_at_call 35
  refine (C1.out _ (Below.refl _ _).drew).mono ?_
  rintro e w1 ⟨A1', c1', rfl, hc1', hR1', hb1⟩
  have hb01 : Below w.heap.size w w1 := (Below.refl _ _).drew.trans hb1
  have hHeldN : (fun W : World => W.cell? ⟨sb, 0, none⟩ = some (.map (some mb)) ∧ W.cell? ⟨x, 0, none⟩ = some (.slice A1 z1 c1) ∧ W.cell? ⟨x, 1, none⟩ = some (.slice Al zl cl) ∧ W.cell? ⟨x, 2, none⟩ = some (.slice A3 z3 c3)) _ := ⟨(hb01.cell (p := ⟨sb, 0, none⟩) hls).trans hq0, (hb01.cell (p := ⟨x, 0, none⟩) hlx).trans (q 0), (hb01.cell (p := ⟨x, 1, none⟩) hlx).trans (q 1), (hb01.cell (p := ⟨x, 2, none⟩) hlx).trans (q 2)⟩
  refine hK.out _ _ (fun _ => hHeldN) ?_
  clear hK K hHeld
  have hHeld := hHeldN
  clear hHeldN
  try simp only [Act.put, List.setIfInBounds_toArray, List.set_cons_zero, List.set_cons_succ]
  refine tStep (i := 11) rfl (by kernel_rfl) (fun K hK => ?_)
  go_simp
  go_at_call 63
  refine (C2.out _ hb01).mono ?_
  rintro e w2 ⟨lv', rfl, hO2, hb2⟩
  obtain ⟨Al', cl', rfl, hcl'⟩ := hO2.shape
  have hs01 := hb01.size
  have hb02 : Below w.heap.size w w2 := hb01.trans (hb2.mono hs01)
  have hHeldN : (fun W : World => W.cell? ⟨sb, 0, none⟩ = some (.map (some mb)) ∧ W.cell? ⟨x, 0, none⟩ = some (.slice A1 z1 c1) ∧ W.cell? ⟨x, 1, none⟩ = some (.slice Al zl cl) ∧ W.cell? ⟨x, 2, none⟩ = some (.slice A3 z3 c3)) _ := ⟨(hb02.cell (p := ⟨sb, 0, none⟩) hls).trans hq0, (hb02.cell (p := ⟨x, 0, none⟩) hlx).trans (q 0), (hb02.cell (p := ⟨x, 1, none⟩) hlx).trans (q 1), (hb02.cell (p := ⟨x, 2, none⟩) hlx).trans (q 2)⟩
  refine hK.out _ _ (fun _ => hHeldN) ?_
  clear hK K hHeld
  have hHeld := hHeldN
  clear hHeldN
  try simp only [Act.put, List.setIfInBounds_toArray, List.set_cons_zero, List.set_cons_succ]
  refine tStep (i := 16) rfl (by kernel_rfl) (fun K hK => ?_)
  go_simp
  go_at_call 35
  refine (C3.out _ hb02).mono ?_
  rintro e w3 ⟨A3', c3', rfl, hc3', hR3', hb3⟩
  have hs02 := hb02.size
  have hb03 : Below w.heap.size w w3 := hb02.trans (hb3.mono hs02)
  have hHeldN : (fun W : World => W.cell? ⟨sb, 0, none⟩ = some (.map (some mb)) ∧ W.cell? ⟨x, 0, none⟩ = some (.slice A1 z1 c1) ∧ W.cell? ⟨x, 1, none⟩ = some (.slice Al zl cl) ∧ W.cell? ⟨x, 2, none⟩ = some (.slice A3 z3 c3)) _ := ⟨(hb03.cell (p := ⟨sb, 0, none⟩) hls).trans hq0, (hb03.cell (p := ⟨x, 0, none⟩) hlx).trans (q 0), (hb03.cell (p := ⟨x, 1, none⟩) hlx).trans (q 1), (hb03.cell (p := ⟨x, 2, none⟩) hlx).trans (q 2)⟩
  refine hK.out _ _ (fun _ => hHeldN) ?_
  clear hK K hHeld
  have hHeld := hHeldN
  clear hHeldN
  try simp only [Act.put, List.setIfInBounds_toArray, List.set_cons_zero, List.set_cons_succ]
  refine tTake (i := 17) (v := ?_) rfl (by kernel_rfl) (by kernel_rfl) (by kernel_rfl) (by kernel_rfl) (fun _ _ _ h => h) hHeld (by rfl) ?_ ?_
  rotate_left
  · (intro w hSw; (try dsimp only at hSw); go_simp; try with_reducible rfl)
  try simp only [Act.put, List.setIfInBounds_toArray, List.set_cons_zero, List.set_cons_succ]
  refine tStep (i := 18) rfl (by kernel_rfl) (fun K hK => ?_)
  go_simp
  have hs3 : w.heap.size ≤ w3.heap.size := hb03.size
  have hs12 := hb2.size
  have hs23 := hb3.size
  have B4 := Bk.new_ w3 82 #[.slice A1' z1 c1', .slice Al' vs.length cl', .slice A3' z3 c3']
  have hb04 : Below w.heap.size w (w3.alloc (.cells #[.slice A1' z1 c1', .slice Al' vs.length cl', .slice A3' z3 c3'] 82)) := hb03.alloc hs3 _
  have hHeldN : (fun W : World => W.cell? ⟨sb, 0, none⟩ = some (.map (some mb)) ∧ W.cell? ⟨x, 0, none⟩ = some (.slice A1 z1 c1) ∧ W.cell? ⟨x, 1, none⟩ = some (.slice Al zl cl) ∧ W.cell? ⟨x, 2, none⟩ = some (.slice A3 z3 c3)) _ := ⟨(hb04.cell (p := ⟨sb, 0, none⟩) hls).trans hq0, (hb04.cell (p := ⟨x, 0, none⟩) hlx).trans (q 0), (hb04.cell (p := ⟨x, 1, none⟩) hlx).trans (q 1), (hb04.cell (p := ⟨x, 2, none⟩) hlx).trans (q 2)⟩
  refine hK.out _ _ (fun _ => hHeldN) ?_
  clear hK K hHeld
  have hHeld := hHeldN
  clear hHeldN
  try simp only [Act.put, List.setIfInBounds_toArray, List.set_cons_zero, List.set_cons_succ]
  have hk04 : KbP (fun _ => False) w (w3.alloc (.cells #[.slice A1' z1 c1', .slice Al' vs.length cl', .slice A3' z3 c3'] 82)) := KbP.of_below hb04
  have hz4 : (w3.alloc (.cells #[.slice A1' z1 c1', .slice Al' vs.length cl', .slice A3' z3 c3'] 82)).heap.size = w3.heap.size + 1 := by simp
  obtain ⟨w4, hw4⟩ : ∃ W, W = w3.alloc (.cells #[.slice A1' z1 c1', .slice Al' vs.length cl', .slice A3' z3 c3'] 82) := ⟨_, rfl⟩
  rw [← hw4] at B4 hb04 hk04 hz4 hHeld ⊢
  obtain ⟨w5, hst, hm5, hk5⟩ := run_store_ptr (P := Tryz.prog) (t := 110) (k := 83) (e := 83) (te := 82) (w := w4) (v := .pointer (some ⟨w3.heap.size, 0, none⟩)) Tryz.underlying110 Tryz.underlying83 hj (by omega) (Hm.out.kbP hk04 (fun h => h)) (Hx.out.kbP hk04 (fun h => h)) (fun p hp => (HL.out p hp).kbP hk04 (fun h => h)) Hv.out
  have Hb34 := Lib.hid (show Below w3.heap.size w3 w4 from hw4 ▸ (Below.refl _ _).alloc (Nat.le_refl _) _)
  clear hw4
  refine tStep (i := 19) rfl (by kernel_rfl) (fun K hK => ?_)
  go_simp
  refine hK.out _ _ (fun h => absurd h (by decide)) ?_
  clear hK K
  try simp only [Act.put, List.setIfInBounds_toArray, List.set_cons_zero, List.set_cons_succ]
  refine tDone (by kernel_rfl) ?_ _
  have hsbm : sb ≠ mb := hsb.plain.ne Hm.out
  have q5 : w5.cell? ⟨sb, 0, none⟩ = some (.map (some mb)) := (hsb.below hb04 hls).kbP hk5 hsbm |>.cell 0
  have hlk5 := run_lookup_ptr (P := Tryz.prog) (t := 110) (k := 83) (e := 83) (te := 82) (w := w5) Tryz.underlying110 Tryz.underlying83 hj (by omega) (zeroP w5) hm5 ((Hx.out.kbP hk04 (fun h => h)).kbP hk5 hxm) (fun p hp => by
    rcases List.mem_append.1 hp with hp | hp
    · exact ((HL.out p hp).kbP hk04 (fun h => h)).kbP hk5 ((HL.out p hp).ne Hm.out)
    · rw [List.mem_singleton] at hp; subst hp; exact (Hx.out.kbP hk04 (fun h => h)).kbP hk5 hxm)
  rw [valP_snoc Hv.out, Option.getD_some] at hlk5
  have Hm5 := Lib.hid hm5
  have Hk5 := Lib.hid hk5
  clear hm5 hk5 hlk hst hHeld q hq0
  go_wp2
  go_ret
  have hmb : mb < w.heap.size := Hm.out.lt
  have k45 := Hk5.out
  have e1 : RdP (fun b => w.heap.size ≤ b) w1 A1' nd.safe.length (bcs nd.safe) := by rw [← Hz1.out]; exact hR1'.more (fun b h => h)
  have e3 : RdP (fun b => w2.heap.size ≤ b) w3 A3' nd.data.length (bcs nd.data) := by rw [← Hz3.out]; exact hR3'
  have hOs := World.ownsRow.lt hO2
  have hm4 : KbP (fun b => b = mb) w w5 := (hk04.more (fun _ h => h.elim)).trans k45 (fun b e => .inl e)
  have hs5 := k45.size
  refine ⟨w3.heap.size, .slice Al' vs.length cl', rfl, Hm5.out, hs3, by omega, fun g hg => by have := hOs g hg; omega, ⟨⟨A1', c1', A3', c3', vs, ?_, ?_, by rw [← Hz1.out]; exact hc1', ?_, by rw [← Hz3.out]; exact hc3', ?_, ?_⟩, .inl rfl, fun g hg => .inr hg⟩, hm4⟩
  · have := B4.kbP k45 (by omega)
    rw [Hz1.out, Hz3.out] at this
    exact this
  · have f1 : RdP (fun b => I b ∨ (w.heap.size ≤ b ∧ b < w5.heap.size ∧ b ≠ w3.heap.size ∧ (Value.slice Al' vs.length cl').ownBlock ≠ some b)) w1 A1' nd.safe.length (bcs nd.safe) := ⟨e1.rd, fun hn p hp => .inr ⟨e1.lie hn p hp, by have := e1.lt hn p hp; omega, by have := e1.lt hn p hp; omega, fun e => by have := hOs _ e; have := e1.lt hn p hp; omega⟩⟩
    refine RdP.kbP (RdP.below (RdP.below (RdP.below f1 hb2) hb3) Hb34.out) k45 ?_
    rintro b (hb | hb) e
    · exact HI.out b hb e
    · omega
  · have f3 : RdP (fun b => I b ∨ (w.heap.size ≤ b ∧ b < w5.heap.size ∧ b ≠ w3.heap.size ∧ (Value.slice Al' vs.length cl').ownBlock ≠ some b)) w3 A3' nd.data.length (bcs nd.data) := ⟨e3.rd, fun hn p hp => .inr ⟨by have := e3.lie hn p hp; omega, by have := e3.lt hn p hp; omega, by have := e3.lt hn p hp; omega, fun e => by have := hOs _ e; have := e3.lie hn p hp; omega⟩⟩
    refine RdP.kbP (RdP.below f3 Hb34.out) k45 ?_
    rintro b (hb | hb) e
    · exact HI.out b hb e
    · omega
  · have o3 := (hO2.below hb3 (Nat.le_refl _)).below Hb34.out (Nat.le_refl _)
    exact (OwnK.kbP o3 k45 (fun g hg e => by have := hOs g hg; omega)).mono (Nat.zero_le _)
  · exact ⟨HCh.out.1, fun k v c hk hc => ((HCh.out.2 k v c hk hc).kbP hm4 (fun b hb e => HI.out b hb e)).more (fun b => .inl)⟩
end Go.Proofs.YtaanmnplfppdeaaGreat
/- Layer 1: a clone that is being made: what holds of it. -/
namespace Go.Fsy
open Go.RowKit Go.Maps Go.Lec
/-- A map that reads as a directory but for what is still to come. -/
structure Part (fid : Nat → Nat) (D : DataW Unit) (l rem : Dir) : Prop where
  map : Tidy D
  size : Maps.size D + rem.length = l.length
  has : ∀ n, Maps.has D (strL n) = ((node l n).isSome && (node rem n).isNone)
  at_ : ∀ n i, node l n = some i → node rem n = none → ∀ z, D.atKey (strL n) z = .lit (.int .i64 (fid i))
theorem Part.start (fid : Nat → Nat) (l : Dir) : Part fid (.map []) l l :=
  ⟨tidy_empty, by show 0 + l.length = l.length; omega, fun n => by cases h : node l n <;> simp [] <;> rfl, fun n i h1 h2 => by rw [h1] at h2; cases h2⟩
theorem Part.put {fid : Nat → Nat} {D : DataW Unit} {l rem : Dir} {n : Bs} {i : Nat} (h : Part fid D l rem) (hr : (rem.map (·.1)).Nodup) (h1 : node rem n = some i) (h2 : node l n = some i) : Part fid (D.put (strL n) (.lit (.int .i64 (fid i)))) l (without rem n) := by
  have hn : Maps.has D (strL n) = false := by rw [h.has, h1]; simp
  refine ⟨h.map.put (strL_key n) _, ?_, fun m => ?_, fun m j hm hr' z => ?_⟩
  · have e1 := size_put (k := strL n) h.map (.lit (.int .i64 (fid i)))
    have e2 := len_without hr n
    have e3 := h.size
    rw [hn] at e1
    rw [h1] at e2
    simp at e1 e2
    omega
  · by_cases hm : m = n
    · subst hm
      rw [has_put_same h.map.isMap (strL_key m), node_without_same, h2]; rfl
    · rw [has_put_other (strL_ne hm), h.has, node_without_other hm]
  · by_cases hmn : m = n
    · subst hmn
      rw [h2] at hm; cases hm
      rw [atKey_put_same h.map.isMap (strL_key m)]
    · rw [node_without_other hmn] at hr'
      rw [atKey_put_other (strL_ne hmn), h.at_ m j hm hr']
theorem Part.done {fid : Nat → Nat} {D : DataW Unit} {l : Dir} (h : Part fid D l []) : Rep fid D l :=
  ⟨h.map, by have := h.size; simpa using this, fun n => by rw [h.has]; simp [node], fun n i hn z => h.at_ n i hn rfl z⟩
theorem Part.fids {f g : Nat → Nat} {D : DataW Unit} {l rem : Dir} (h : Part f D l rem) (he : ∀ n i, node l n = some i → node rem n = none → f i = g i) : Part g D l rem :=
  ⟨h.map, h.size, h.has, fun n i h1 h2 z => by rw [h.at_ n i h1 h2, he n i h1 h2]⟩
theorem flat_congr {α β : Type} {f g : α → List β} : ∀ (l : List α), (∀ m ∈ l, f m = g m) → l.flatMap f = l.flatMap g
  | [], _ => rfl
  | a :: l, h => by rw [List.flatMap_cons, List.flatMap_cons, h a List.mem_cons_self, flat_congr l (fun m hm => h m (List.mem_cons_of_mem _ hm))]
theorem mvCs_same {f g : Nat → Nat} {m : Mv} (h : ∀ i, m.nd = some i → f i = g i) : mvCs f m = mvCs g m := by
  cases m with
  | made a i => simp [mvCs, h i rfl]
  | ren a b i => simp [mvCs, h i rfl]
  | rem a => rfl
theorem valP_map {f : Nat → Nat} {g : Nat → Value} {i : Nat} : ∀ (l : List Nat), (∀ j ∈ l, f j = f i → j = i) → valP (l.map fun j => (f j, g j)) (f i) = if i ∈ l then some (g i) else none
  | [], _ => rfl
  | j :: l, h => by
    unfold valP
    rw [List.map_cons, List.find?_cons]
    by_cases hj : f j = f i
    · have hji := h j List.mem_cons_self hj
      subst hji
      simp
    · have : ((f j, g j).1 == f i) = false := by rw [beq_eq_false_iff_ne]; exact hj
      rw [this]
      have ih := valP_map l (fun k hk => h k (List.mem_cons_of_mem _ hk)) (f := f) (g := g) (i := i)
      unfold valP at ih
      simp only
      rw [ih]
      have hne : i ≠ j := fun e => hj (by rw [e])
      simp [hne]
theorem grown_kb {w w' : World} {m : Nat} (h : KbP (fun b => b = m) w w') : w.grownBy w' (some m) := ⟨h.os, h.tape, h.output, h.size, fun k hk hne => h.block k hk (fun e => hne (by rw [e]))⟩
end Go.Fsy
namespace Go.Proofs.YtaanmnplfppdeaaGreat
open Go.RowKit Go.Lec Go.Fsy Go.Op Go.Maps
/-- A clone that is being made: cb of the file system s that lies as G says, read from I; mb is the map of what was copied, in sb's cell. -/
structure ClG (I : Nat → Prop) (w : World) (s : St) (G : Geo) (mb sb cb : Nat) (X' I' : Nat → Prop) (W : World) (Gc : Geo) (rem1 rem2 : Dir) (k : Nat) (done : List Nat) : Prop where
  bk : Bk W cb 73 (fsCs s Gc)
  rk : RdP I' W Gc.AK s.pl.keep.length (ics s.pl.keep)
  rf : RdP I' W Gc.AF s.pl.fail.length (ics s.pl.fail)
  ru : RdP I' W Gc.AU s.pl.full.length (ics s.pl.full)
  nk : s.pl.keep.length ≤ Gc.cK
  nf : s.pl.fail.length ≤ Gc.cF
  nu : s.pl.full.length ≤ Gc.cU
  dmap : W.ownsMap Tryz.prog 9 ptrR Gc.dm (Maps.size Gc.D1) Gc.D1
  smap : W.ownsMap Tryz.prog 9 ptrR Gc.sm (Maps.size Gc.D2) Gc.D2
  p1 : Part Gc.fid Gc.D1 s.dir rem1
  p2 : Part Gc.fid Gc.D2 s.safe rem2
  mvs : OwnK W 0 116 3 Gc.mv k ((s.mvs.take k).flatMap (mvCs Gc.fid))
  sbk : Bk W sb 110 #[.map (some mb)]
  km : KmP W mb (done.map fun i => (G.fid i, ptrV (Gc.fid i)))
  al : ∀ i ∈ done, alive s i
  c1 : ∀ n i, node s.dir n = some i → node rem1 n = none → i ∈ done
  c2 : ∀ n i, node s.safe n = some i → node rem2 n = none → i ∈ done
  c3 : ∀ m ∈ s.mvs.take k, ∀ i, m.nd = some i → i ∈ done
  files : ∀ i ∈ done, FileOk X' I' W (Gc.fid i) (Gc.lv i) (ndAt s.nodes i)
  inj : ∀ i ∈ done, ∀ j ∈ done, Gc.fid i = Gc.fid j → i = j
  injl : ∀ i ∈ done, ∀ j ∈ done, ∀ g, (Gc.lv i).ownBlock = some g → (Gc.lv j).ownBlock = some g → i = j
  ne : Gc.dm ≠ Gc.sm
  xcb : X' cb
  xdm : X' Gc.dm
  xsm : X' Gc.sm
  xmv : ∀ g, Gc.mv.ownBlock = some g → X' g
  xi : ∀ b, I' b → ¬ X' b
  lt : ∀ b, X' b ∨ I' b → b < W.heap.size
  xlow : ∀ b, X' b → w.heap.size ≤ b
  ilow : ∀ b, I' b → I b ∨ w.heap.size ≤ b
  iin : ∀ b, I b → I' b
  mx : ¬ X' mb
  mi : ¬ I' mb
  mlow : w.heap.size ≤ mb
  sx : ¬ X' sb
  slow : w.heap.size ≤ sb
  bl : Below w.heap.size w W
section
variable {X I X' I' : Nat → Prop} {w W W' : World} {s : St} {G Gc : Geo} {mb sb cb k fb : Nat} {rem1 rem2 : Dir} {done : List Nat}
theorem ClG.kbP {Y : Nat → Prop} (h : ClG I w s G mb sb cb X' I' W Gc rem1 rem2 k done) (hk : KbP Y W W') (hX : ∀ b, X' b → ¬ Y b) (hI : ∀ b, I' b → ¬ Y b) (hm : ¬ Y mb) (hs : ¬ Y sb) (hl : ∀ b, Y b → w.heap.size ≤ b) : ClG I w s G mb sb cb X' I' W' Gc rem1 rem2 k done :=
  ⟨h.bk.kbP hk (hX _ h.xcb), h.rk.kbP hk hI, h.rf.kbP hk hI, h.ru.kbP hk hI, h.nk, h.nf, h.nu, ownsMap_kbP h.dmap hk (hX _ h.xdm), ownsMap_kbP h.smap hk (hX _ h.xsm), h.p1, h.p2, OwnK.kbP h.mvs hk (fun g hg => hX _ (h.xmv g hg)), h.sbk.kbP hk hs, h.km.kbP hk hm, h.al, h.c1, h.c2, h.c3,
   fun i hi => (h.files i hi).kbP hk (hX _ (h.files i hi).xf) (fun g hg => hX _ ((h.files i hi).xl g hg)) hI, h.inj, h.injl, h.ne, h.xcb, h.xdm, h.xsm, h.xmv, h.xi, fun b hb => Nat.lt_of_lt_of_le (h.lt b hb) hk.size, h.xlow, h.ilow, h.iin, h.mx, h.mi, h.mlow, h.sx, h.slow, h.bl.trans (hk.below hl h.bl.size)⟩
theorem ClG.below (h : ClG I w s G mb sb cb X' I' W Gc rem1 rem2 k done) (hb : Below W.heap.size W W') : ClG I w s G mb sb cb X' I' W' Gc rem1 rem2 k done :=
  h.kbP (Y := fun _ => False) (KbP.of_below hb) (fun _ _ h => h) (fun _ _ h => h) (fun h => h) (fun h => h) (fun _ h => h.elim)
/-- The beginning: a new file system, told whether it is dead and how many operations there were. -/
theorem ClG.start {X0 I0 : Nat → Prop} (hG : FsG X0 I0 W cb { Fsy.new s.pl with died := s.died, cnt := s.cnt } Gc) (hx : ∀ b, X0 b → w.heap.size ≤ b) (hi0 : ∀ b, I0 b → w.heap.size ≤ b) (hI : ∀ b, I b → b < w.heap.size) (hb : Below w.heap.size w W)
    (hmb : KmP W mb []) (hsb : Bk W sb 110 #[.map (some mb)]) (hm1 : ¬ X0 mb) (hm2 : ¬ I0 mb) (hm3 : w.heap.size ≤ mb) (hs1 : ¬ X0 sb) (hs3 : w.heap.size ≤ sb) : ClG I w s G mb sb cb X0 (fun b => I b ∨ I0 b) W Gc s.dir s.safe 0 [] := by
  have hp : ∀ {D : DataW Unit} (l : Dir), Rep Gc.fid D [] → Part Gc.fid D l l := fun {D} l hr => ⟨hr.map, by rw [hr.size]; simp, fun n => by rw [hr.has]; cases h : node l n <;> simp [node], fun n i h1 h2 => by rw [h1] at h2; cases h2⟩
  refine ⟨hG.bk, hG.rk.more (fun b => .inr), hG.rf.more (fun b => .inr), hG.ru.more (fun b => .inr), hG.nk, hG.nf, hG.nu, own_tight hG.dmap, own_tight hG.smap, hp s.dir hG.rep1, hp s.safe hG.rep2, (by rw [List.take_zero]; exact hG.mvs), hsb, hmb, (fun i hi => by cases hi), (fun n i h1 h2 => by rw [h1] at h2; cases h2), (fun n i h1 h2 => by rw [h1] at h2; cases h2), (fun m hm => by simp at hm), (fun i hi => by cases hi), (fun i hi => by cases hi), (fun i hi => by cases hi), hG.ne, hG.xfb, hG.xdm, hG.xsm, hG.xmv, ?_, ?_, hx, ?_, fun b => .inl, hm1, ?_, hm3, hs1, hs3, hb⟩
  · rintro b (h | h) hxb
    · have := hI b h; have := hx b hxb; omega
    · exact hG.xi b h hxb
  · rintro b (h | h | h)
    · exact hG.lt b (.inl h)
    · have := hI b h; have := hb.size; omega
    · exact hG.lt b (.inr h)
  · rintro b (h | h)
    · exact .inl h
    · exact .inr (hi0 b h)
  · rintro (h | h)
    · have := hI _ h; omega
    · exact hm2 h
/-- What the closure leaves. -/
def CpP (I : Nat → Prop) (w : World) (s : St) (G : Geo) (mb sb cb : Nat) (X' I' : Nat → Prop) (W : World) (Gc : Geo) (rem1 rem2 : Dir) (k : Nat) (i : Nat) (e : Ending) (W' : World) : Prop :=
  ∃ X'' I'' Gc' done', e = .returned (ptrV (Gc'.fid i)) ∧ ClG I w s G mb sb cb X'' I'' W' Gc' rem1 rem2 k done' ∧ i ∈ done' ∧ Gc'.dm = Gc.dm ∧ Gc'.sm = Gc.sm ∧ Gc'.mv = Gc.mv ∧ Gc'.D1 = Gc.D1 ∧ Gc'.D2 = Gc.D2 ∧ KbP (fun b => b = mb) W W' ∧ (∀ b, X'' b → X' b ∨ W.heap.size ≤ b) ∧ (∀ b, I'' b → I' b ∨ W.heap.size ≤ b)
theorem c_cp {N i : Nat} (hS : FsG X I w fb s G) (hi : Fsy.Inv s N) (hN : N ≤ 1048576) (h : ClG I w s G mb sb cb X' I' W Gc rem1 rem2 k done) (hal : alive s i) :
    Calls Tryz.prog 62 #[ptrV (G.fid i), .pointer (some ⟨sb, 0, none⟩)] W (CpP I w s G mb sb cb X' I' W Gc rem1 rem2 k i) := by
  have hW := hS.below h.bl
  have hF := hW.files i hal
  obtain ⟨cs, hB⟩ := hF.bk
  have hvp := valP_map (f := G.fid) (g := fun j => ptrV (Gc.fid j)) (i := i) done (fun j hj e => hS.inj j i (h.al j hj) hal e)
  have hL : ∀ p ∈ done.map (fun i => (G.fid i, ptrV (Gc.fid i))), plainB W p.1 := by
    intro p hp
    obtain ⟨j, hj, rfl⟩ := List.mem_map.1 hp
    obtain ⟨cs', hB'⟩ := (hW.files j (h.al j hj)).bk
    exact hB'.plain
  by_cases hd : i ∈ done
  · rw [if_pos hd] at hvp
    refine (c_copied_old W h.sbk hB.plain hL h.km hvp).mono ?_
    rintro e W' ⟨rfl, rfl⟩
    exact ⟨X', I', Gc, done, rfl, h, hd, rfl, rfl, rfl, rfl, rfl, KbP.refl _ _, fun b hb => .inl hb, fun b hb => .inl hb⟩
  · rw [if_neg hd] at hvp
    have hsz := hi.size i
    have hch := (hi.nd i).2
    have hsf := fits_head (hi.nd i).1
    have hImb : ∀ b, I b → b ≠ mb := fun b hb e => h.mi (e ▸ h.iin b hb)
    refine (c_copied_new W (N := N) h.sbk hB.plain hL h.km hvp hF hImb (fun b hb => h.lt b (.inr (h.iin b hb))) (hB.plain.ne h.km) hsf hsz (by omega)).mono ?_
    rintro e W' ⟨nb, lv', rfl, hkm, hnb1, hnb2, hlv, hfl, hk⟩
    have hXl : ∀ b, X' b → b < W.heap.size := fun b hb => h.lt b (.inl hb)
    have hIl : ∀ b, I' b → b < W.heap.size := fun b hb => h.lt b (.inr hb)
    have hXm : ∀ b, X' b → ¬ b = mb := fun b hb e => h.mx (e ▸ hb)
    have hIm : ∀ b, I' b → ¬ b = mb := fun b hb e => h.mi (e ▸ hb)
    have hml := h.km.lt
    have hws := h.bl.size
    have hsbm : sb ≠ mb := h.sbk.plain.ne h.km
    have hsl := h.sbk.lt
    have hne : ∀ j ∈ done, j ≠ i := fun j hj e => hd (e ▸ hj)
    have ef : ∀ j ∈ done, (if j = i then nb else Gc.fid j) = Gc.fid j := fun j hj => if_neg (hne j hj)
    have el : ∀ j ∈ done, (if j = i then lv' else Gc.lv j) = Gc.lv j := fun j hj => if_neg (hne j hj)
    have hold : ∀ j ∈ done, FileOk (fun b => X' b ∨ b = nb ∨ lv'.ownBlock = some b) (fun b => I' b ∨ (W.heap.size ≤ b ∧ b < W'.heap.size ∧ b ≠ nb ∧ lv'.ownBlock ≠ some b)) W' (Gc.fid j) (Gc.lv j) (ndAt s.nodes j) := fun j hj =>
      ((h.files j hj).kbP hk (hXm _ (h.files j hj).xf) (fun g hg => hXm _ ((h.files j hj).xl g hg)) hIm).more (fun b => .inl) (fun b => .inl)
    refine ⟨fun b => X' b ∨ b = nb ∨ lv'.ownBlock = some b, fun b => I' b ∨ (W.heap.size ≤ b ∧ b < W'.heap.size ∧ b ≠ nb ∧ lv'.ownBlock ≠ some b), { Gc with fid := fun j => if j = i then nb else Gc.fid j, lv := fun j => if j = i then lv' else Gc.lv j }, done ++ [i], ?_, ?_, by simp, rfl, rfl, rfl, rfl, rfl, hk, ?_, ?_⟩
    · show _ = Ending.returned (ptrV (if i = i then nb else Gc.fid i)); rw [if_pos rfl]
    · refine ⟨h.bk.kbP hk (hXm _ h.xcb), (h.rk.kbP hk hIm).more (fun b => .inl), (h.rf.kbP hk hIm).more (fun b => .inl), (h.ru.kbP hk hIm).more (fun b => .inl), h.nk, h.nf, h.nu, ownsMap_kbP h.dmap hk (hXm _ h.xdm), ownsMap_kbP h.smap hk (hXm _ h.xsm), h.p1.fids (fun n j h1 h2 => (ef j (h.c1 n j h1 h2)).symm), h.p2.fids (fun n j h1 h2 => (ef j (h.c2 n j h1 h2)).symm), ?_, h.sbk.kbP hk hsbm, ?_, ?_,
        fun n j h1 h2 => List.mem_append_left _ (h.c1 n j h1 h2), fun n j h1 h2 => List.mem_append_left _ (h.c2 n j h1 h2), fun m hm j hj => List.mem_append_left _ (h.c3 m hm j hj), ?_, ?_, ?_, h.ne, .inl h.xcb, .inl h.xdm, .inl h.xsm, fun g hg => .inl (h.xmv g hg), ?_, ?_, ?_, ?_, fun b hb => .inl (h.iin b hb), ?_, ?_, h.mlow, ?_, h.slow, h.bl.trans (hk.below (fun b e => by rw [e]; exact h.mlow) hws)⟩
      · have e : (s.mvs.take k).flatMap (mvCs (fun j => if j = i then nb else Gc.fid j)) = (s.mvs.take k).flatMap (mvCs Gc.fid) := flat_congr _ (fun m hm => mvCs_same (fun j hj => ef j (h.c3 m hm j hj)))
        show OwnK W' 0 _ 3 Gc.mv k ((s.mvs.take k).flatMap (mvCs (fun j => if j = i then nb else Gc.fid j)))
        rw [e]
        exact OwnK.kbP h.mvs hk (fun g hg => hXm _ (h.xmv g hg))
      · have e : (done ++ [i]).map (fun j => (G.fid j, ptrV (if j = i then nb else Gc.fid j))) = done.map (fun j => (G.fid j, ptrV (Gc.fid j))) ++ [(G.fid i, ptrV nb)] := by
          rw [List.map_append, List.map_cons, List.map_nil, if_pos rfl]
          congr 1
          exact List.map_congr_left (fun j hj => by rw [ef j hj])
        show KmP W' mb ((done ++ [i]).map (fun j => (G.fid j, ptrV (if j = i then nb else Gc.fid j))))
        rw [e]; exact hkm
      · intro j hj
        rcases List.mem_append.1 hj with hj | hj
        · exact h.al j hj
        · rw [List.mem_singleton] at hj; subst hj; exact hal
      · intro j hj
        show FileOk _ _ W' (if j = i then nb else Gc.fid j) (if j = i then lv' else Gc.lv j) _
        rcases List.mem_append.1 hj with hj | hj
        · rw [ef j hj, el j hj]; exact hold j hj
        · rw [List.mem_singleton] at hj; subst hj
          rw [if_pos rfl, if_pos rfl]
          exact hfl.more (fun b => .inr) (fun b hb => hb.imp_left (h.iin b))
      · intro j hj l hl he
        change (if j = i then nb else Gc.fid j) = (if l = i then nb else Gc.fid l) at he
        rcases List.mem_append.1 hj with hj | hj
        · rw [ef j hj] at he
          have := hXl _ (h.files j hj).xf
          rcases List.mem_append.1 hl with hl | hl
          · rw [ef l hl] at he; exact h.inj j hj l hl he
          · rw [List.mem_singleton] at hl; subst hl; rw [if_pos rfl] at he; omega
        · rw [List.mem_singleton] at hj; subst hj
          rw [if_pos rfl] at he
          rcases List.mem_append.1 hl with hl | hl
          · rw [ef l hl] at he
            have := hXl _ (h.files l hl).xf
            omega
          · rw [List.mem_singleton] at hl; exact hl.symm
      · intro j hj l hl g hg1 hg2
        change (if j = i then lv' else Gc.lv j).ownBlock = some g at hg1
        change (if l = i then lv' else Gc.lv l).ownBlock = some g at hg2
        rcases List.mem_append.1 hj with hj | hj
        · rw [el j hj] at hg1
          have := hXl _ ((h.files j hj).xl g hg1)
          rcases List.mem_append.1 hl with hl | hl
          · rw [el l hl] at hg2; exact h.injl j hj l hl g hg1 hg2
          · rw [List.mem_singleton] at hl; subst hl; rw [if_pos rfl] at hg2; have := hlv g hg2; omega
        · rw [List.mem_singleton] at hj; subst hj
          rw [if_pos rfl] at hg1
          have := hlv g hg1
          rcases List.mem_append.1 hl with hl | hl
          · rw [el l hl] at hg2
            have := hXl _ ((h.files l hl).xl g hg2)
            omega
          · rw [List.mem_singleton] at hl; exact hl.symm
      · rintro b (hb | hb) (hx | hx | hx)
        · exact h.xi b hb hx
        · have := hIl b hb; omega
        · have := hIl b hb; have := hlv b hx; omega
        · have := hXl b hx; omega
        · exact hb.2.2.1 hx
        · exact hb.2.2.2 hx
      · have hs2 := hk.size
        rintro b ((hb | hb | hb) | (hb | hb))
        · have := hXl b hb; omega
        · omega
        · have := hlv b hb; omega
        · have := hIl b hb; omega
        · omega
      · rintro b (hb | hb | hb)
        · exact h.xlow b hb
        · omega
        · have := hlv b hb; omega
      · rintro b (hb | hb)
        · exact h.ilow b hb
        · exact .inr (by omega)
      · rintro (hx | hx | hx)
        · exact h.mx hx
        · omega
        · have := hlv _ hx; omega
      · rintro (hx | hx)
        · exact h.mi hx
        · omega
      · rintro (hx | hx | hx)
        · exact h.sx hx
        · omega
        · have := hlv _ hx; omega
    · rintro b (hb | hb | hb)
      · exact .inl hb
      · exact .inr (by omega)
      · have := hlv b hb; exact .inr (by omega)
    · rintro b (hb | hb)
      · exact .inl hb
      · exact .inr hb.1
/-- What all the others are, beside one map of the clone's. -/
theorem ClG.off (h : ClG I w s G mb sb cb X' I' W Gc rem1 rem2 k done) {b n : Nat} {D : DataW Unit} (hm : W.ownsMap Tryz.prog 9 ptrR b n D) :
    cb ≠ b ∧ sb ≠ b ∧ (∀ g, Gc.mv.ownBlock = some g → g ≠ b) ∧ ∀ i ∈ done, Gc.fid i ≠ b ∧ ∀ g, (Gc.lv i).ownBlock = some g → g ≠ b :=
  ⟨bk_map h.bk hm, bk_map h.sbk hm, fun g hg e => own_map h.mvs hm (e ▸ hg), fun i hi => by
    obtain ⟨cs, hB⟩ := (h.files i hi).bk
    obtain ⟨vs, hO⟩ := (h.files i hi).own
    exact ⟨bk_map hB hm, fun g hg e => own_map hO hm (e ▸ hg)⟩⟩
theorem ClG.putDir {n : Bs} {i : Nat} (h : ClG I w s G mb sb cb X' I' W Gc rem1 rem2 k done) (hr : (rem1.map (·.1)).Nodup) (h1 : node rem1 n = some i) (h2 : node s.dir n = some i) (hd : i ∈ done) {m : Nat} (hm : W'.ownsMap Tryz.prog 9 ptrR Gc.dm m (Gc.D1.put (strL n) (.lit (.int .i64 (Gc.fid i))))) (hk : KbP (fun b => b = Gc.dm) W W') :
    ClG I w s G mb sb cb X' I' W' { Gc with D1 := Gc.D1.put (strL n) (.lit (.int .i64 (Gc.fid i))) } (without rem1 n) rem2 k done := by
  have hI : ∀ b, I' b → ¬ b = Gc.dm := fun b hb e => h.xi b hb (e ▸ h.xdm)
  obtain ⟨o1, o2, o3, o4⟩ := h.off h.dmap
  refine ⟨h.bk.kbP hk o1, h.rk.kbP hk hI, h.rf.kbP hk hI, h.ru.kbP hk hI, h.nk, h.nf, h.nu, own_tight hm, ownsMap_kbP h.smap hk (Ne.symm h.ne), h.p1.put hr h1 h2, h.p2, OwnK.kbP h.mvs hk o3, h.sbk.kbP hk o2, h.km.kbP hk (fun e => h.mx (e ▸ h.xdm)), h.al, ?_, h.c2, h.c3,
   fun i hi => (h.files i hi).kbP hk (o4 i hi).1 (o4 i hi).2 hI, h.inj, h.injl, h.ne, h.xcb, h.xdm, h.xsm, h.xmv, h.xi, fun b hb => Nat.lt_of_lt_of_le (h.lt b hb) hk.size, h.xlow, h.ilow, h.iin, h.mx, h.mi, h.mlow, h.sx, h.slow, h.bl.trans (hk.below (fun b e => by rw [e]; exact h.xlow _ h.xdm) h.bl.size)⟩
  intro a j ha hr'
  by_cases e : a = n
  · subst e; rw [h2] at ha; cases ha; exact hd
  · rw [node_without_other e] at hr'; exact h.c1 a j ha hr'
theorem ClG.putSafe {n : Bs} {i : Nat} (h : ClG I w s G mb sb cb X' I' W Gc rem1 rem2 k done) (hr : (rem2.map (·.1)).Nodup) (h1 : node rem2 n = some i) (h2 : node s.safe n = some i) (hd : i ∈ done) {m : Nat} (hm : W'.ownsMap Tryz.prog 9 ptrR Gc.sm m (Gc.D2.put (strL n) (.lit (.int .i64 (Gc.fid i))))) (hk : KbP (fun b => b = Gc.sm) W W') :
    ClG I w s G mb sb cb X' I' W' { Gc with D2 := Gc.D2.put (strL n) (.lit (.int .i64 (Gc.fid i))) } rem1 (without rem2 n) k done := by
  have hI : ∀ b, I' b → ¬ b = Gc.sm := fun b hb e => h.xi b hb (e ▸ h.xsm)
  obtain ⟨o1, o2, o3, o4⟩ := h.off h.smap
  refine ⟨h.bk.kbP hk o1, h.rk.kbP hk hI, h.rf.kbP hk hI, h.ru.kbP hk hI, h.nk, h.nf, h.nu, ownsMap_kbP h.dmap hk h.ne, own_tight hm, h.p1, h.p2.put hr h1 h2, OwnK.kbP h.mvs hk o3, h.sbk.kbP hk o2, h.km.kbP hk (fun e => h.mx (e ▸ h.xsm)), h.al, h.c1, ?_, h.c3,
   fun i hi => (h.files i hi).kbP hk (o4 i hi).1 (o4 i hi).2 hI, h.inj, h.injl, h.ne, h.xcb, h.xdm, h.xsm, h.xmv, h.xi, fun b hb => Nat.lt_of_lt_of_le (h.lt b hb) hk.size, h.xlow, h.ilow, h.iin, h.mx, h.mi, h.mlow, h.sx, h.slow, h.bl.trans (hk.below (fun b e => by rw [e]; exact h.xlow _ h.xsm) h.bl.size)⟩
  intro a j ha hr'
  by_cases e : a = n
  · subst e; rw [h2] at ha; cases ha; exact hd
  · rw [node_without_other e] at hr'; exact h.c2 a j ha hr'
/-- A move is noted. -/
theorem ClG.addMv {v : Value} (h : ClG I w s G mb sb cb X' I' W Gc rem1 rem2 k done) (hk : k < s.mvs.length) (hd : ∀ i, (s.mvs[k]).nd = some i → i ∈ done) (ho : OwnK W' 0 116 3 v (k + 1) ((s.mvs.take k).flatMap (mvCs Gc.fid) ++ mvCs Gc.fid s.mvs[k])) (hat : v.ownBlock = Gc.mv.ownBlock ∨ ∃ g, v.ownBlock = some g ∧ W.heap.size ≤ g)
    (hkb : KbP (fun b => b = cb ∨ Gc.mv.ownBlock = some b) W W') (hb : Bk W' cb 73 (fsCs s { Gc with mv := v })) : ClG I w s G mb sb cb (fun b => X' b ∨ v.ownBlock = some b) I' W' { Gc with mv := v } rem1 rem2 (k + 1) done := by
  have hYX : ∀ b, (b = cb ∨ Gc.mv.ownBlock = some b) → X' b := by
    rintro b (rfl | hb)
    · exact h.xcb
    · exact h.xmv b hb
  have hI : ∀ b, I' b → ¬ (b = cb ∨ Gc.mv.ownBlock = some b) := fun b hb e => h.xi b hb (hYX b e)
  have hv : ∀ b, v.ownBlock = some b → X' b ∨ W.heap.size ≤ b := fun b hb => by
    rcases hat with e | ⟨g, e, hg⟩
    · exact .inl (h.xmv b (e ▸ hb))
    · rw [e] at hb; cases hb; exact .inr hg
  obtain ⟨o1, o2, o3, o4⟩ := h.off h.dmap
  obtain ⟨u1, u2, u3, u4⟩ := h.off h.smap
  have hws := h.bl.size
  have hml := h.km.lt
  have hsl := h.sbk.lt
  refine ⟨hb, h.rk.kbP hkb hI, h.rf.kbP hkb hI, h.ru.kbP hkb hI, h.nk, h.nf, h.nu, ownsMap_kbP h.dmap hkb ?_, ownsMap_kbP h.smap hkb ?_, h.p1, h.p2, ?_, h.sbk.kbP hkb (fun e => h.sx (hYX _ e)), h.km.kbP hkb (fun e => h.mx (hYX _ e)), h.al, h.c1, h.c2, ?_,
   fun i hi => ?_, h.inj, h.injl, h.ne, .inl h.xcb, .inl h.xdm, .inl h.xsm, fun g hg => .inr hg, ?_, ?_, ?_, h.ilow, h.iin, ?_, h.mi, h.mlow, ?_, h.slow, h.bl.trans (hkb.below (fun b e => h.xlow b (hYX b e)) hws)⟩
  · rintro (e | e)
    · exact o1 e.symm
    · exact o3 _ e rfl
  · rintro (e | e)
    · exact u1 e.symm
    · exact u3 _ e rfl
  · rw [List.take_succ_eq_append_getElem hk, List.flatMap_append]
    simpa using ho
  · intro m hm i hi
    rw [List.take_succ_eq_append_getElem hk] at hm
    rcases List.mem_append.1 hm with hm | hm
    · exact h.c3 m hm i hi
    · rw [List.mem_singleton] at hm; subst hm; exact hd i hi
  · obtain ⟨cs, hB⟩ := (h.files i hi).bk
    obtain ⟨vs, hO⟩ := (h.files i hi).own
    refine ((h.files i hi).kbP hkb ?_ ?_ hI).more (fun b => .inl) (fun b hb => hb)
    · rintro (e | e)
      · exact bk_ne h.bk hB (by decide) e.symm
      · exact own_bkK h.mvs hB (by decide) e
    · rintro g hg (e | e)
      · exact own_bkK hO h.bk (by decide) (e ▸ hg)
      · exact own_own h.mvs hO (by decide) g e hg
  · rintro b hb (hx | hx)
    · exact h.xi b hb hx
    · rcases hv b hx with e | e
      · exact h.xi b hb e
      · have := h.lt b (.inr hb); omega
  · rintro b ((hb' | hb') | hb')
    · exact Nat.lt_of_lt_of_le (h.lt b (.inl hb')) hkb.size
    · exact (World.ownsRow.lt ho b hb').2
    · exact Nat.lt_of_lt_of_le (h.lt b (.inr hb')) hkb.size
  · rintro b (hb' | hb')
    · exact h.xlow b hb'
    · rcases hv b hb' with e | e
      · exact h.xlow b e
      · omega
  · rintro (e | e)
    · exact h.mx e
    · rcases hv _ e with e | e
      · exact h.mx e
      · omega
  · rintro (e | e)
    · exact h.sx e
    · rcases hv _ e with e | e
      · exact h.sx e
      · omega
theorem ClG.fin (h : ClG I w s G mb sb cb X' I' W Gc [] [] s.mvs.length done) {N : Nat} (hi : Fsy.Inv s N) : FsG X' I' W cb s Gc := by
  have hal : ∀ i, alive s i → i ∈ done := by
    rintro i (⟨n, hn⟩ | ⟨n, hn⟩ | ⟨m, hm, hd⟩)
    · exact h.c1 n i (node_of_mem hi.dir.1 hn) rfl
    · exact h.c2 n i (node_of_mem hi.safe.1 hn) rfl
    · exact h.c3 m (by rw [List.take_length]; exact hm) i hd
  have e1 := h.p1.size
  have e2 := h.p2.size
  rw [List.length_nil, Nat.add_zero] at e1 e2
  have hm := h.mvs
  rw [List.take_length] at hm
  exact ⟨h.bk, h.rk, h.rf, h.ru, h.nk, h.nf, h.nu, e1 ▸ h.dmap, e2 ▸ h.smap, h.p1.done, h.p2.done, hm, fun i hi' => h.files i (hal i hi'), fun i j hi' hj => h.inj i (hal i hi') j (hal j hj), fun i j g hi' hj => h.injl i (hal i hi') j (hal j hj) g, h.ne, h.xcb, h.xdm, h.xsm, h.xmv, h.xi, h.lt⟩
end
end Go.Proofs.YtaanmnplfppdeaaGreat
/- Layer 1: a clone: the walk of Clone. -/
namespace Go.Proofs.YtaanmnplfppdeaaGreat
open Go.RowKit Go.Lec Go.Fsy Go.Op Go.Maps
/-- Where a file lies, if there is one. -/
def pO (f : Nat → Nat) (o : Option Nat) : Option Addr := o.map fun i => ⟨f i, 0, none⟩
theorem mvCs_form (m : Mv) : ∃ x0 x1 : ByteArray, ∀ f, mvCs f m = [.string x0, .string x1, .pointer (pO f m.nd)] := by
  cases m <;> exact ⟨_, _, fun f => rfl⟩
theorem c_cpO {X I X' I' : Nat → Prop} {w W : World} {s : St} {G Gc : Geo} {mb sb cb k fb N : Nat} {rem1 rem2 : Dir} {done : List Nat} (o : Option Nat) (hS : FsG X I w fb s G) (hi : Fsy.Inv s N) (hN : N ≤ 1048576) (h : ClG I w s G mb sb cb X' I' W Gc rem1 rem2 k done) (ho : ∀ i, o = some i → alive s i) :
    Calls Tryz.prog 62 #[.pointer (pO G.fid o), .pointer (some ⟨sb, 0, none⟩)] W fun e W' => ∃ X'' I'' Gc' done', e = .returned (.pointer (pO Gc'.fid o)) ∧ ClG I w s G mb sb cb X'' I'' W' Gc' rem1 rem2 k done' ∧ (∀ i, o = some i → i ∈ done') ∧ Gc'.mv = Gc.mv ∧ KbP (fun b => b = mb) W W' := by
  cases o with
  | none =>
    refine (c_copied_nil W sb).mono ?_
    rintro e W' ⟨rfl, rfl⟩
    exact ⟨X', I', Gc, done, rfl, h, (fun i hi => by cases hi), rfl, KbP.refl _ _⟩
  | some i =>
    refine (c_cp hS hi hN h (ho i rfl)).mono ?_
    rintro e W' ⟨X'', I'', Gc', done', rfl, hC, hin, _, _, e3, _, _, hk, _, _⟩
    exact ⟨X'', I'', Gc', done', rfl, hC, (fun j hj => by cases hj; exact hin), e3, hk⟩
theorem ranges_drew {H : Type} {w : World} {P : Program} {k : TypeId} {R : Value → Option (DataW H × List MemPlace)} {b r n : Nat} {D : DataW H} {left : Lit → Bool} {cnt : Nat} (h : w.ranges P k R b r n D left cnt) : w.drew.ranges P k R b r n D left cnt := h
/-- What Clone answers: another file system, in new memory but for bytes that nobody turns. -/
def CloneP (I : Nat → Prop) (w : World) (s : St) (e : Ending) (w' : World) : Prop :=
  ∃ cb X' I', e = .returned (ptrV cb) ∧ FsP X' I' w' cb s ∧ (∀ b, X' b → w.heap.size ≤ b) ∧ (∀ b, I' b → I b ∨ w.heap.size ≤ b) ∧ Below w.heap.size w w'
theorem moveCells {w : World} {G : Geo} {s : St} (hm : OwnK w 0 116 3 G.mv s.mvs.length (s.mvs.flatMap (mvCs G.fid))) {k : Nat} (hk : k < s.mvs.length) :
    ∃ b o c, G.mv = .slice (some ⟨b, o, none⟩) s.mvs.length c ∧ b < w.heap.size ∧ ∀ j, j < 3 → w.cell? ⟨b, o + k * 3 + j, none⟩ = (mvCs G.fid s.mvs[k])[j]? := by
  obtain ⟨A, c, hv, _⟩ := hm.shape
  rw [hv] at hm
  have hr := OwnK.rd hm
  obtain ⟨b, o, e, hb, hc⟩ := hr.2 (by omega)
  refine ⟨b, o, c, by rw [hv, e], hb, fun j hj => ?_⟩
  have hx := mvsAt G.fid s.mvs k j hk hj
  have hl := mvCs_len G.fid s.mvs[k]
  have hu : (mvCs G.fid s.mvs[k])[j]? = some ((mvCs G.fid s.mvs[k])[j]'(by omega)) := List.getElem?_eq_getElem (by omega)
  rw [hu] at hx ⊢
  have := hc _ _ hx
  rw [← Nat.add_assoc] at this
  exact this
set_option maxRecDepth 100000 in
set_option maxHeartbeats 4000000 in
theorem c_Clone (w : World) {X I : Nat → Prop} {fb N : Nat} {s : St} (h : FsP X I w fb s) (hi : Fsy.Inv s N) (hN : N ≤ 1048575) (hp : s.pl.ok) :
    Calls Tryz.prog 28 #[ptrV fb] w (CloneP I w s) := by
  obtain ⟨G, hG⟩ := h
  have q := hG.bk.cell
  have H0 := Lib.hid (c_is w fb (q 0))
  have HNew := Lib.hid (c_FsNew w (I := I) (p := s.pl) ⟨hG.rk, hG.rf, hG.ru, hG.nk, hG.nf, hG.nu⟩ hp.1 hp.2.1 hp.2.2.1)
  unfold NewP at HNew
  have HG := Lib.hid hG
  have hmm := @run_makeMap Tryz.prog
  have hmf : ∀ (fn : Fn) (first cap : Array Value) (w : World), (Instr.makeFunc fn first cap).run Tryz.prog w = .ok (.func fn first cap) w := fun _ _ _ _ => rfl
  have hlt := hG.bk.lt
  have HIl := Lib.hid (show ∀ b, I b → b < w.heap.size from fun b hb => hG.lt b (.inr hb))
  unfold fsCs at q
  clear hG
  unfold plV ptrV at *
  go_enter Tryz.func28, Tryz.ntmps28
  go_wp2_with (first | (go_at_call 32; refine H0.out.mono ?_; rintro e w0 ⟨rfl, rfl⟩) | (go_at_call 24; refine HNew.out.mono ?_; rintro e w1 ⟨cb, X0, I0, rfl, ⟨G0, hG0⟩, hx0, hi0, hb1⟩; have q0 := hG0.bk.cell; have z0 := hG0.bk.frz; unfold fsCs at q0; have c7 : w1.cell? ⟨fb, 7, none⟩ = some (.bool s.died) := (hb1.cell (p := ⟨fb, 7, none⟩) hlt).trans (q 7)))
  have hcb : w0.heap.size ≤ cb := hx0 cb hG0.xfb
  have hfc : fb ≠ cb := by omega
  have hbfb : Bk w1 fb 73 (fsCs s G) := HG.out.bk.below hb1 hlt
  have c6 : (w1.setCell ⟨cb, 7, none⟩ (.bool s.died)).drew.cell? ⟨fb, 6, none⟩ = some (.int .i64 (s.cnt : Int)) := ((hbfb.far (p := ⟨cb, 7, none⟩) hfc (.bool s.died)).drew).cell 6
  have b7 := (hG0.bk.set_ 7 (.bool s.died)).drew
  have hHeld : (fun _ : World => True) (w1.setCell ⟨cb, 7, none⟩ (.bool s.died)).drew := trivial
  refine wp_region_held (S := fun _ : World => True) (by kernel_rfl) ?_
  simp only [List.size_toArray, List.length_cons, List.length_nil, Nat.reduceAdd]
  refine heldTake (i := 0) (v := ?_) rfl (by kernel_rfl) (by kernel_rfl) (by kernel_rfl) (fun _ _ _ h => h) hHeld (by rfl) ?_ ?_
  rotate_left
  · (intro w hSw; (try dsimp only at hSw); go_simp; try with_reducible rfl)
  try simp only [Act.put, List.setIfInBounds_toArray, List.set_cons_zero, List.set_cons_succ]
  refine heldTake (i := 1) (v := ?_) rfl (by kernel_rfl) (by kernel_rfl) (by kernel_rfl) (fun _ _ _ h => h) hHeld (by rfl) ?_ ?_
  rotate_left
  · (intro w hSw; (try dsimp only at hSw); go_simp; try with_reducible rfl)
  try simp only [Act.put, List.setIfInBounds_toArray, List.set_cons_zero, List.set_cons_succ]
  refine heldTake (i := 2) (v := ?_) rfl (by kernel_rfl) (by kernel_rfl) (by kernel_rfl) (fun _ _ _ h => h) hHeld (by rfl) ?_ ?_
  rotate_left
  · (intro w hSw; (try dsimp only at hSw); go_simp; try with_reducible rfl)
  try simp only [Act.put, List.setIfInBounds_toArray, List.set_cons_zero, List.set_cons_succ]
  refine heldTake (i := 3) (v := ?_) rfl (by kernel_rfl) (by kernel_rfl) (by kernel_rfl) (fun _ _ _ h => h) hHeld (by rfl) ?_ ?_
  rotate_left
  · (intro w hSw; (try dsimp only at hSw); go_simp; try with_reducible rfl)
  try simp only [Act.put, List.setIfInBounds_toArray, List.set_cons_zero, List.set_cons_succ]
  refine heldTake (i := 4) (v := ?_) rfl (by kernel_rfl) (by kernel_rfl) (by kernel_rfl) (fun _ _ _ h => h) hHeld (by rfl) ?_ ?_
  rotate_left
  · (intro w hSw; (try dsimp only at hSw); go_simp; try with_reducible rfl)
  try simp only [Act.put, List.setIfInBounds_toArray, List.set_cons_zero, List.set_cons_succ]
  refine heldTake (i := 5) (v := ?_) rfl (by kernel_rfl) (by kernel_rfl) (by kernel_rfl) (fun _ _ _ h => h) hHeld (by rfl) ?_ ?_
  rotate_left
  · (intro w hSw; (try dsimp only at hSw); go_simp; try with_reducible rfl)
  try simp only [Act.put, List.setIfInBounds_toArray, List.set_cons_zero, List.set_cons_succ]
  refine heldStep (i := 6) rfl (by kernel_rfl) (fun K hK => ?_)
  go_simp
  go_at_call 42
  refine (c_aLoad _ fb 6 (s.cnt : Int) c6).mono ?_
  rintro e w3 ⟨rfl, rfl⟩
  refine hK.out _ _ (trivial) (fun hHeld => ?_)
  clear hK K
  try simp only [Act.put, List.setIfInBounds_toArray, List.set_cons_zero, List.set_cons_succ]
  refine heldStep (i := 7) rfl (by kernel_rfl) (fun K hK => ?_)
  go_simp
  go_at_call 38
  refine (c_aStore _ cb 6 0 (s.cnt : Int) (b7.cell 6) (b7.frz 6)).mono ?_
  rintro e w3 ⟨rfl, rfl⟩
  refine hK.out _ _ (trivial) (fun hHeld => ?_)
  clear hK K
  try simp only [Act.put, List.setIfInBounds_toArray, List.set_cons_zero, List.set_cons_succ]
  refine wpAnyH_done (by kernel_rfl) ?_ _
  have hG2 : FsG X0 I0 ((w1.setCell ⟨cb, 7, none⟩ (.bool s.died)).setCell ⟨cb, 6, none⟩ (.int .i64 (s.cnt : Int))) cb { Fsy.new s.pl with died := s.died, cnt := s.cnt } G0 :=
    hG0.turnFb (((KbP.refl (fun b => b = cb) w1).setCell (p := ⟨cb, 7, none⟩) (.inl rfl) _).setCell (p := ⟨cb, 6, none⟩) (.inl rfl) _) s.died s.cnt ((hG0.bk.set_ 7 (.bool s.died)).set_ 6 (.int .i64 (s.cnt : Int)))
  have hbw2 : Below w0.heap.size w0 (((((w1.setCell ⟨cb, 7, none⟩ (.bool s.died)).setCell ⟨cb, 6, none⟩ (.int .i64 (s.cnt : Int))).alloc (.map #[] 0)).alloc (.cells #[.map (some w1.heap.size)] 110)).drew) := ((((hb1.setCell (p := ⟨cb, 7, none⟩) hcb _).setCell (p := ⟨cb, 6, none⟩) hcb _).alloc (by have := hb1.size; simp; omega) _).alloc (by have := hb1.size; simp; omega) _).drew
  have hbw3 : Below w1.heap.size ((w1.setCell ⟨cb, 7, none⟩ (.bool s.died)).setCell ⟨cb, 6, none⟩ (.int .i64 (s.cnt : Int))) (((((w1.setCell ⟨cb, 7, none⟩ (.bool s.died)).setCell ⟨cb, 6, none⟩ (.int .i64 (s.cnt : Int))).alloc (.map #[] 0)).alloc (.cells #[.map (some w1.heap.size)] 110)).drew) := ((((Below.refl w1.heap.size _).alloc (by simp) _).alloc (by simp) _).drew)
  have hKm : KmP (((((w1.setCell ⟨cb, 7, none⟩ (.bool s.died)).setCell ⟨cb, 6, none⟩ (.int .i64 (s.cnt : Int))).alloc (.map #[] 0)).alloc (.cells #[.map (some w1.heap.size)] 110)).drew) w1.heap.size [] := by
    have h1 := KmP.new_ ((w1.setCell ⟨cb, 7, none⟩ (.bool s.died)).setCell ⟨cb, 6, none⟩ (.int .i64 (s.cnt : Int)))
    simp only [World.size_setCell] at h1
    exact KmP.kbP (X := fun _ => False) h1 (((KbP.refl _ _).alloc _).drew) (fun h => h)
  have hSb : Bk (((((w1.setCell ⟨cb, 7, none⟩ (.bool s.died)).setCell ⟨cb, 6, none⟩ (.int .i64 (s.cnt : Int))).alloc (.map #[] 0)).alloc (.cells #[.map (some w1.heap.size)] 110)).drew) (w1.heap.size + 1) 110 #[.map (some w1.heap.size)] := by
    have h1 := Bk.new_ (((w1.setCell ⟨cb, 7, none⟩ (.bool s.died)).setCell ⟨cb, 6, none⟩ (.int .i64 (s.cnt : Int))).alloc (.map #[] 0)) 110 #[.map (some w1.heap.size)]
    simp only [World.size_setCell, World.size_alloc] at h1
    exact h1.drew
  have hl0 := hG0.lt
  have hC : ClG I w0 s G w1.heap.size (w1.heap.size + 1) cb X0 (fun b => I b ∨ I0 b) (((((w1.setCell ⟨cb, 7, none⟩ (.bool s.died)).setCell ⟨cb, 6, none⟩ (.int .i64 (s.cnt : Int))).alloc (.map #[] 0)).alloc (.cells #[.map (some w1.heap.size)] 110)).drew) G0 s.dir s.safe 0 [] :=
    ClG.start (hG2.below (by simpa using hbw3)) hx0 hi0 HIl.out hbw2 hKm hSb (fun h => by have := hl0 _ (.inl h); omega) (fun h => by have := hl0 _ (.inr h); omega) hb1.size (fun h => by have := hl0 _ (.inl h); omega) (by have := hb1.size; omega)
  have hGr := HG.out.below hbw2
  have hmp := hGr.dmap
  have c8 : (((((w1.setCell ⟨cb, 7, none⟩ (.bool s.died)).setCell ⟨cb, 6, none⟩ (.int .i64 (s.cnt : Int))).alloc (.map #[] 0)).alloc (.cells #[.map (some w1.heap.size)] 110)).drew).cell? ⟨fb, 8, none⟩ = some (.map (some G.dm)) := hGr.bk.cell 8
  have HC := Lib.hid hC
  clear hC hGr hSb hKm hbw3 hbw2 hG2 hG0 hHeld b7 c6 c7 q0 z0
  go_wp2_with (at_range; refine wpList_range_own _ rfl _ 70 rfl 9 83 keyS Tryz.underlying70 ptrR G.dm s.dir.length G.D1 rfl hmp ?_; intro wr0 hrg0 hg0 hs0)
  have hr0 : (((((w1.setCell ⟨cb, 7, none⟩ (.bool s.died)).setCell ⟨cb, 6, none⟩ (.int .i64 (s.cnt : Int))).alloc (.map #[] 0)).alloc (.cells #[.map (some w1.heap.size)] 110)).drew).heap.size = w1.heap.size + 1 + 1 := by simp
  rw [hr0] at hrg0
  have hC0 := HC.out
  have hnX : ¬ X0 (w1.heap.size + 1 + 1) := fun h => by have := hl0 _ (.inl h); omega
  have hnI : ¬ (I (w1.heap.size + 1 + 1) ∨ I0 (w1.heap.size + 1 + 1)) := by
    rintro (h | h)
    · have := HIl.out _ h; have := hb1.size; omega
    · have := hl0 _ (.inr h); omega
  have hC1 : ClG I w0 s G w1.heap.size (w1.heap.size + 1) cb X0 (fun b => I b ∨ I0 b) wr0 G0 s.dir s.safe 0 [] := hC0.kbP (Y := fun _ => False) (KbP.of_grown hg0 (fun g e => by cases e)) (fun _ _ h => h) (fun _ _ h => h) (fun h => h) (fun h => h) (fun _ h => h.elim)
  have hml := hb1.size
  have Hst := Lib.hid (ToCome.start HG.out.rep1 hi.dir.1)
  have Hst2 := Lib.hid (ToCome.start HG.out.rep2 hi.safe.1)
  have HC1 := Lib.hid hC1
  obtain ⟨mb, hmb⟩ : ∃ x, x = w1.heap.size := ⟨_, rfl⟩
  rw [← hmb] at hrg0 hnX hnI HC1 hml
  have Hrg0 := Lib.hid hrg0
  have HI := Lib.hid hi
  rw [← hmb]
  clear hrg0 hg0 hs0 hr0 hC0 hC1 HC hmp c8 hl0 hmb hb1 hx0 hi0 q hi
  have HnX := Lib.hid hnX
  have HnI := Lib.hid hnI
  clear hnX hnI

  go_loopw [] (fun wr => ∃ (left : Lit → Bool) (cnt : Nat) (rem : Dir) (X' I' : Nat → Prop) (Gc : Geo) (done : List Nat), wr.ranges Tryz.prog 9 ptrR G.dm (mb + 1 + 1) s.dir.length G.D1 left cnt ∧ ToCome s.dir rem left ∧ ClG I w0 s G mb (mb + 1) cb X' I' wr Gc rem s.safe 0 done ∧ ¬ X' (mb + 1 + 1) ∧ ¬ I' (mb + 1 + 1)) (fun wr => wr.rangeLeft G.dm (mb + 1 + 1))
  case atStart => exact ⟨_, _, s.dir, X0, _, G0, [], Hrg0.out, Hst.out, HC1.out, HnX.out, HnI.out⟩
  case round =>
    obtain ⟨left, cnt, rem, X', I', Gc, done, hrg, hlf, hC, hxr, hir⟩ := hrel
    go_wp2_with (first | (at_next; refine wpList_next_ranges _ rfl _ rfl 9 keyS ptrR Value.string mkP (fun key kl hk => by obtain ⟨x, hx, _⟩ := keyS_inv key kl hk; exact ⟨x, hx⟩) ptrR_mk G.dm (mb + 1 + 1) s.dir.length G.D1 _ _ rfl hrg ?_ ?_))
    rotate_left
    · intro x c kl y1 y2 w2 cnt2 hk hlk hv hat hrg2 hlt hg2 hs2 hen
      obtain ⟨x', hx, hkl⟩ := keyS_inv _ _ hk
      cases hx
      subst hkl
      obtain ⟨i, hi1, hi2, rfl⟩ := hlf.entry (y := (y1, y2)) HG.out.rep1 hlk hv hat
      have hal : alive s i := by have := node_some hi2; exact .inl ⟨_, this⟩
      have hrl := hrg2.lt
      have hC2 := (hC.kbP (Y := fun b => b = (mb + 1 + 1)) (KbP.of_grown hg2 (fun g e => by cases e; rfl)) (fun b hb e => hxr (e ▸ hb)) (fun b hb e => hir (e ▸ hb)) (by omega) (by omega) (fun b e => by omega)).below (Below.refl _ _).drew
      have HCP := Lib.hid (c_cp HG.out HI.out (by omega) hC2 hal)
      unfold CpP ptrV at HCP
      have hHeld : (fun W : World => W.cell? ⟨cb, 8, none⟩ = some (.map (some Gc.dm))) w2.drew := hC2.bk.cell 8
      have Hlf := Lib.hid (hlf.take x.data.toList)
      have Hnd := Lib.hid hlf.nd
      have Hrg := Lib.hid hrg
      have Hrg2 := Lib.hid (ranges_drew hrg2)
      have Hlt := Lib.hid hlt
      have Hxr := Lib.hid hxr
      have Hir := Lib.hid hir
      have Hhk := Lib.hid hk
      have hdl : G.dm < w0.heap.size := HG.out.dmap.lt
      clear hrg hrg2 hlf hC hC2 hlk hat hv hxr hir hlt hg2 hs2 hk
      unfold mkP at hen ⊢
      go_wp2
      refine wp_region_T (S := fun W : World => W.cell? ⟨cb, 8, none⟩ = some (.map (some Gc.dm))) (m := 8) (by kernel_rfl) ?_
      simp only [List.size_toArray, List.length_cons, List.length_nil, Nat.reduceAdd]
      refine tTake (i := 0) (v := ?_) rfl (by kernel_rfl) (by kernel_rfl) (by kernel_rfl) (by kernel_rfl) (fun _ _ _ h => h) hHeld (by rfl) ?_ ?_
      rotate_left
      · (intro w hSw; (try dsimp only at hSw); go_simp; try with_reducible rfl)
      try simp only [Act.put, List.setIfInBounds_toArray, List.set_cons_zero, List.set_cons_succ]
      refine tTake (i := 1) (v := ?_) rfl (by kernel_rfl) (by kernel_rfl) (by kernel_rfl) (by kernel_rfl) (fun _ _ _ h => h) hHeld (by rfl) ?_ ?_
      rotate_left
      · (intro w hSw; (try dsimp only at hSw); go_simp; try with_reducible rfl)
      try simp only [Act.put, List.setIfInBounds_toArray, List.set_cons_zero, List.set_cons_succ]
      refine tTake (i := 2) (v := ?_) rfl (by kernel_rfl) (by kernel_rfl) (by kernel_rfl) (by kernel_rfl) (fun _ _ _ h => h) hHeld (by rfl) ?_ ?_
      rotate_left
      · (intro w hSw; (try dsimp only at hSw); go_simp; try with_reducible rfl)
      try simp only [Act.put, List.setIfInBounds_toArray, List.set_cons_zero, List.set_cons_succ]
      refine tTake (i := 3) (v := ?_) rfl (by kernel_rfl) (by kernel_rfl) (by kernel_rfl) (by kernel_rfl) (fun _ _ _ h => h) hHeld (by rfl) ?_ ?_
      rotate_left
      · (intro w hSw; (try dsimp only at hSw); go_simp; try with_reducible rfl)
      try simp only [Act.put, List.setIfInBounds_toArray, List.set_cons_zero, List.set_cons_succ]
      refine tTake (i := 4) (v := ?_) rfl (by kernel_rfl) (by kernel_rfl) (by kernel_rfl) (by kernel_rfl) (fun _ _ _ h => h) hHeld (by rfl) ?_ ?_
      rotate_left
      · (intro w hSw; (try dsimp only at hSw); go_simp; try with_reducible rfl)
      try simp only [Act.put, List.setIfInBounds_toArray, List.set_cons_zero, List.set_cons_succ]
      refine tTake (i := 5) (v := ?_) rfl (by kernel_rfl) (by kernel_rfl) (by kernel_rfl) (by kernel_rfl) (fun _ _ _ h => h) hHeld (by rfl) ?_ ?_
      rotate_left
      · (intro w hSw; (try dsimp only at hSw); go_simp; try with_reducible rfl)
      try simp only [Act.put, List.setIfInBounds_toArray, List.set_cons_zero, List.set_cons_succ]
      refine tTake (i := 6) (v := ?_) rfl (by kernel_rfl) (by kernel_rfl) (by kernel_rfl) (by kernel_rfl) (fun _ _ _ h => h) hHeld (by rfl) ?_ ?_
      rotate_left
      · (intro w hSw; (try dsimp only at hSw); go_simp; try with_reducible rfl)
      try simp only [Act.put, List.setIfInBounds_toArray, List.set_cons_zero, List.set_cons_succ]
      refine tStep (i := 7) rfl (by kernel_rfl) (fun K hK => ?_)
      go_simp
      go_at_call 62
      refine HCP.out.mono ?_
      rintro e w5 ⟨X'', I'', Gc', done', rfl, hC5, hin, e1, e2, e3, e4, e5, hk5, hgx, hgi⟩
      have hHeldN : (fun W : World => W.cell? ⟨cb, 8, none⟩ = some (.map (some Gc.dm))) _ := (by rw [← e1]; exact hC5.bk.cell 8 : w5.cell? ⟨cb, 8, none⟩ = some (.map (some Gc.dm)))
      refine hK.out _ _ (fun _ => hHeldN) ?_
      clear hK K hHeld
      have hHeld := hHeldN
      clear hHeldN
      try simp only [Act.put, List.setIfInBounds_toArray, List.set_cons_zero, List.set_cons_succ]
      obtain ⟨w6, hst, hm6, hg6⟩ := hC5.dmap.update keyS Tryz.underlying70 (by have := hC5.p1.size; have := HI.out.nDir; have := HI.out.nSafe; unfold maxLen; omega) Hhk.out (val := .pointer (some ⟨Gc'.fid i, 0, none⟩)) (d := .lit (.int .i64 (Gc'.fid i))) (ps := []) rfl
      have hstE := hst
      rw [e1] at hstE
      clear hst
      refine tStep (i := 8) rfl (by kernel_rfl) (fun K hK => ?_)
      go_simp
      refine hK.out _ _ (fun h => absurd h (by decide)) ?_
      clear hK K
      try simp only [Act.put, List.setIfInBounds_toArray, List.set_cons_zero, List.set_cons_succ]
      refine tDone (by kernel_rfl) ?_ _
      clear hstE hHeld
      have hk6 : KbP (fun b => b = Gc'.dm) w5 w6 := KbP.of_grown hg6 (fun g e => by cases e; rfl)
      have hC6 := hC5.putDir Hnd.out hi1 hi2 hin hm6 hk6
      have hx6 : ¬ X'' ((mb + 1 + 1)) := fun h => (hgx _ h).elim Hxr.out (fun h => by have h2 : w2.heap.size ≤ (mb + 1 + 1) := h; omega)
      have hi6 : ¬ I'' ((mb + 1 + 1)) := fun h => (hgi _ h).elim Hir.out (fun h => by have h2 : w2.heap.size ≤ (mb + 1 + 1) := h; omega)
      have hrg6 := (Hrg2.out.kept (grown_kb hk5) (fun e => by have e' : G.dm = mb := Option.some.inj e; omega) (fun e => by have e' : (mb + 1 + 1) = mb := Option.some.inj e; omega)).kept hg6 (fun e => by have e' : G.dm = Gc'.dm := Option.some.inj e; have := hC5.xlow _ hC5.xdm; omega) (fun e => by have e' : (mb + 1 + 1) = Gc'.dm := Option.some.inj e; exact hx6 (e' ▸ hC5.xdm))
      clear e1 e2 e3 e4 e5
      have Hfin := Lib.hid (And.intro hrg6 (And.intro hC6 (And.intro hx6 hi6)))
      clear hrg6 hC6 hx6 hi6 hk6 hm6 hg6 hC5 hk5 hgx hgi
      go_wp2
      go_roundw
      case rel => exact ⟨_, cnt2, without rem x.data.toList, X'', I'', _, done', Hfin.out.1, Hlf.out, Hfin.out.2.1, Hfin.out.2.2.1, Hfin.out.2.2.2⟩
      case measure => rw [Hfin.out.1.left_eq, Hrg.out.left_eq]; exact Hlt.out
    · intro hc0 hl0
      have hre := hlf.done hl0
      subst hre
      have hGr := HG.out.below hC.bl
      have hmp := hGr.smap
      have c9 : wr.cell? ⟨fb, 9, none⟩ = some (.map (some G.sm)) := hGr.bk.cell 9
      have hlC := hC.lt
      have hmr : mb + 1 < wr.heap.size := hC.sbk.lt
      have hwr := hC.bl.size
      have HC := Lib.hid hC
      clear hrg hlf hC hxr hir hc0 hl0 hGr
      go_wp2_with (at_range; refine wpList_range_own _ rfl _ 70 rfl 9 83 keyS Tryz.underlying70 ptrR G.sm s.safe.length G.D2 rfl hmp ?_; intro wr1 hrg1 hg1 hs1)
      go_frame
      have hC1 := HC.out.kbP (Y := fun _ => False) (KbP.of_grown hg1 (fun g e => by cases e)) (fun _ _ h => h) (fun _ _ h => h) (fun h => h) (fun h => h) (fun _ h => h.elim)
      have hnX : ¬ X' wr.heap.size := fun h => Nat.lt_irrefl _ (hlC _ (.inl h))
      have hnI : ¬ I' wr.heap.size := fun h => Nat.lt_irrefl _ (hlC _ (.inr h))
      obtain ⟨r1, hr1⟩ : ∃ x, x = wr.heap.size := ⟨_, rfl⟩
      rw [← hr1] at hrg1 hnX hnI hmr hwr ⊢
      have Hrg1 := Lib.hid hrg1
      have HC1 := Lib.hid hC1
      have HnX1 := Lib.hid hnX
      have HnI1 := Lib.hid hnI
      clear hrg1 hg1 hs1 hC1 hnX hnI hr1 hlC hmp c9 HC
      go_loopw [] (fun wr => ∃ (left : Lit → Bool) (cnt : Nat) (rem : Dir) (X' I' : Nat → Prop) (Gc : Geo) (done : List Nat), wr.ranges Tryz.prog 9 ptrR G.sm r1 s.safe.length G.D2 left cnt ∧ ToCome s.safe rem left ∧ ClG I w0 s G mb (mb + 1) cb X' I' wr Gc [] rem 0 done ∧ ¬ X' r1 ∧ ¬ I' r1) (fun wr => wr.rangeLeft G.sm r1)
      case atStart => exact ⟨_, _, s.safe, X', I', Gc, done, Hrg1.out, Hst2.out, HC1.out, HnX1.out, HnI1.out⟩
      case round =>
        clear HC1 HnX1 HnI1 Hrg1
        obtain ⟨left, cnt, rem, X', I', Gc, done, hrg, hlf, hC, hxr, hir⟩ := hrel
        go_wp2_with (first | (at_next; refine wpList_next_ranges _ rfl _ rfl 9 keyS ptrR Value.string mkP (fun key kl hk => by obtain ⟨x, hx, _⟩ := keyS_inv key kl hk; exact ⟨x, hx⟩) ptrR_mk G.sm r1 s.safe.length G.D2 _ _ rfl hrg ?_ ?_))
        rotate_left
        · intro x c kl y1 y2 w2 cnt2 hk hlk hv hat hrg2 hlt hg2 hs2 hen
          obtain ⟨x', hx, hkl⟩ := keyS_inv _ _ hk
          cases hx
          subst hkl
          obtain ⟨i, hi1, hi2, rfl⟩ := hlf.entry (y := (y1, y2)) HG.out.rep2 hlk hv hat
          have hal : alive s i := by have := node_some hi2; exact .inr (.inl ⟨_, this⟩)
          have hrl := hrg2.lt
          have hC2 := (hC.kbP (Y := fun b => b = r1) (KbP.of_grown hg2 (fun g e => by cases e; rfl)) (fun b hb e => hxr (e ▸ hb)) (fun b hb e => hir (e ▸ hb)) (by omega) (by omega) (fun b e => by omega)).below (Below.refl _ _).drew
          have HCP := Lib.hid (c_cp HG.out HI.out (by omega) hC2 hal)
          unfold CpP ptrV at HCP
          have hHeld : (fun W : World => W.cell? ⟨cb, 9, none⟩ = some (.map (some Gc.sm))) w2.drew := hC2.bk.cell 9
          have Hlf := Lib.hid (hlf.take x.data.toList)
          have Hnd := Lib.hid hlf.nd
          have Hrg := Lib.hid hrg
          have Hrg2 := Lib.hid (ranges_drew hrg2)
          have Hlt := Lib.hid hlt
          have Hxr := Lib.hid hxr
          have Hir := Lib.hid hir
          have Hhk := Lib.hid hk
          have hdl : G.sm < w0.heap.size := HG.out.smap.lt
          clear hrg hrg2 hlf hC hC2 hlk hat hv hxr hir hlt hg2 hs2 hk
          unfold mkP at hen ⊢
          go_wp2
          refine wp_region_T (S := fun W : World => W.cell? ⟨cb, 9, none⟩ = some (.map (some Gc.sm))) (m := 8) (by kernel_rfl) ?_
          simp only [List.size_toArray, List.length_cons, List.length_nil, Nat.reduceAdd]
          refine tTake (i := 0) (v := ?_) rfl (by kernel_rfl) (by kernel_rfl) (by kernel_rfl) (by kernel_rfl) (fun _ _ _ h => h) hHeld (by rfl) ?_ ?_
          rotate_left
          · (intro w hSw; (try dsimp only at hSw); go_simp; try with_reducible rfl)
          try simp only [Act.put, List.setIfInBounds_toArray, List.set_cons_zero, List.set_cons_succ]
          refine tTake (i := 1) (v := ?_) rfl (by kernel_rfl) (by kernel_rfl) (by kernel_rfl) (by kernel_rfl) (fun _ _ _ h => h) hHeld (by rfl) ?_ ?_
          rotate_left
          · (intro w hSw; (try dsimp only at hSw); go_simp; try with_reducible rfl)
          try simp only [Act.put, List.setIfInBounds_toArray, List.set_cons_zero, List.set_cons_succ]
          refine tTake (i := 2) (v := ?_) rfl (by kernel_rfl) (by kernel_rfl) (by kernel_rfl) (by kernel_rfl) (fun _ _ _ h => h) hHeld (by rfl) ?_ ?_
          rotate_left
          · (intro w hSw; (try dsimp only at hSw); go_simp; try with_reducible rfl)
          try simp only [Act.put, List.setIfInBounds_toArray, List.set_cons_zero, List.set_cons_succ]
          refine tTake (i := 3) (v := ?_) rfl (by kernel_rfl) (by kernel_rfl) (by kernel_rfl) (by kernel_rfl) (fun _ _ _ h => h) hHeld (by rfl) ?_ ?_
          rotate_left
          · (intro w hSw; (try dsimp only at hSw); go_simp; try with_reducible rfl)
          try simp only [Act.put, List.setIfInBounds_toArray, List.set_cons_zero, List.set_cons_succ]
          refine tTake (i := 4) (v := ?_) rfl (by kernel_rfl) (by kernel_rfl) (by kernel_rfl) (by kernel_rfl) (fun _ _ _ h => h) hHeld (by rfl) ?_ ?_
          rotate_left
          · (intro w hSw; (try dsimp only at hSw); go_simp; try with_reducible rfl)
          try simp only [Act.put, List.setIfInBounds_toArray, List.set_cons_zero, List.set_cons_succ]
          refine tTake (i := 5) (v := ?_) rfl (by kernel_rfl) (by kernel_rfl) (by kernel_rfl) (by kernel_rfl) (fun _ _ _ h => h) hHeld (by rfl) ?_ ?_
          rotate_left
          · (intro w hSw; (try dsimp only at hSw); go_simp; try with_reducible rfl)
          try simp only [Act.put, List.setIfInBounds_toArray, List.set_cons_zero, List.set_cons_succ]
          refine tTake (i := 6) (v := ?_) rfl (by kernel_rfl) (by kernel_rfl) (by kernel_rfl) (by kernel_rfl) (fun _ _ _ h => h) hHeld (by rfl) ?_ ?_
          rotate_left
          · (intro w hSw; (try dsimp only at hSw); go_simp; try with_reducible rfl)
          try simp only [Act.put, List.setIfInBounds_toArray, List.set_cons_zero, List.set_cons_succ]
          refine tStep (i := 7) rfl (by kernel_rfl) (fun K hK => ?_)
          go_simp
          go_at_call 62
          refine HCP.out.mono ?_
          rintro e w5 ⟨X'', I'', Gc', done', rfl, hC5, hin, e1, e2, e3, e4, e5, hk5, hgx, hgi⟩
          have hHeldN : (fun W : World => W.cell? ⟨cb, 9, none⟩ = some (.map (some Gc.sm))) _ := (by rw [← e2]; exact hC5.bk.cell 9 : w5.cell? ⟨cb, 9, none⟩ = some (.map (some Gc.sm)))
          refine hK.out _ _ (fun _ => hHeldN) ?_
          clear hK K hHeld
          have hHeld := hHeldN
          clear hHeldN
          try simp only [Act.put, List.setIfInBounds_toArray, List.set_cons_zero, List.set_cons_succ]
          obtain ⟨w6, hst, hm6, hg6⟩ := hC5.smap.update keyS Tryz.underlying70 (by have := hC5.p2.size; have := HI.out.nDir; have := HI.out.nSafe; unfold maxLen; omega) Hhk.out (val := .pointer (some ⟨Gc'.fid i, 0, none⟩)) (d := .lit (.int .i64 (Gc'.fid i))) (ps := []) rfl
          have hstE := hst
          rw [e2] at hstE
          clear hst
          refine tStep (i := 8) rfl (by kernel_rfl) (fun K hK => ?_)
          go_simp
          refine hK.out _ _ (fun h => absurd h (by decide)) ?_
          clear hK K
          try simp only [Act.put, List.setIfInBounds_toArray, List.set_cons_zero, List.set_cons_succ]
          refine tDone (by kernel_rfl) ?_ _
          clear hstE hHeld
          have hk6 : KbP (fun b => b = Gc'.sm) w5 w6 := KbP.of_grown hg6 (fun g e => by cases e; rfl)
          have hC6 := hC5.putSafe Hnd.out hi1 hi2 hin hm6 hk6
          have hx6 : ¬ X'' (r1) := fun h => (hgx _ h).elim Hxr.out (fun h => by have h2 : w2.heap.size ≤ r1 := h; omega)
          have hi6 : ¬ I'' (r1) := fun h => (hgi _ h).elim Hir.out (fun h => by have h2 : w2.heap.size ≤ r1 := h; omega)
          have hrg6 := (Hrg2.out.kept (grown_kb hk5) (fun e => by have e' : G.sm = mb := Option.some.inj e; omega) (fun e => by have e' : r1 = mb := Option.some.inj e; omega)).kept hg6 (fun e => by have e' : G.sm = Gc'.sm := Option.some.inj e; have := hC5.xlow _ hC5.xsm; omega) (fun e => by have e' : r1 = Gc'.sm := Option.some.inj e; exact hx6 (e' ▸ hC5.xsm))
          clear e1 e2 e3 e4 e5
          have Hfin := Lib.hid (And.intro hrg6 (And.intro hC6 (And.intro hx6 hi6)))
          clear hrg6 hC6 hx6 hi6 hk6 hm6 hg6 hC5 hk5 hgx hgi
          go_wp2
          go_roundw
          case rel => exact ⟨_, cnt2, without rem x.data.toList, X'', I'', _, done', Hfin.out.1, Hlf.out, Hfin.out.2.1, Hfin.out.2.2.1, Hfin.out.2.2.2⟩
          case measure => rw [Hfin.out.1.left_eq, Hrg.out.left_eq]; exact Hlt.out
        · intro hc0 hl0
          have hre := hlf.done hl0
          subst hre
          have hGr := HG.out.below hC.bl
          obtain ⟨Am, cm, hmvE, _⟩ := HG.out.mvs.shape
          have c10 : wr.cell? ⟨fb, 10, none⟩ = some (.slice Am s.mvs.length cm) := by rw [← hmvE]; exact hGr.bk.cell 10
          obtain ⟨ml, hml'⟩ : ∃ x, x = s.mvs.length := ⟨_, rfl⟩
          have Hml := Lib.hid hml'
          have HmvE := Lib.hid hmvE
          have HC := Lib.hid hC
          have hmN := HI.out.nSafe
          rw [← hml'] at c10 hmN
          clear hrg hlf hC hxr hir hc0 hl0 hGr hmvE hml'
          go_wp2
          go_loopw [78] (fun i wr => ∃ (k : Nat) (X' I' : Nat → Prop) (Gc : Geo) (done : List Nat), k ≤ ml ∧ i = .int .i64 (k : Int) ∧ ClG I w0 s G mb (mb + 1) cb X' I' wr Gc [] [] k done) (fun i _ => ml - (intOf i).toNat)
          case atStart => exact ⟨0, X', I', Gc, done, Nat.zero_le _, rfl, HC.out⟩
          case round =>
            clear HC
            obtain ⟨k, X', I', Gc, done, hk, rfl, hC⟩ := hrel
            by_cases hlt : k < ml
            · have hkm : k < s.mvs.length := by have := Hml.out; omega
              obtain ⟨b, o, cm', hE, hbB, hcell⟩ := moveCells (HG.out.below hC.bl).mvs hkm
              have hE2 := HmvE.out.symm.trans hE
              rw [← Hml.out] at hE2
              simp only [Value.slice.injEq] at hE2
              obtain ⟨rfl, -, rfl⟩ := hE2
              obtain ⟨x0, x1, hform⟩ := mvCs_form s.mvs[k]
              rw [hform] at hcell
              have g0 : wr.cell? ⟨b, o + k * 3, none⟩ = some (.string x0) := hcell 0 (by omega)
              have g1 : wr.cell? ⟨b, o + k * 3 + 1, none⟩ = some (.string x1) := hcell 1 (by omega)
              have g2 : wr.cell? ⟨b, o + k * 3 + 2, none⟩ = some (.pointer (pO G.fid (s.mvs[k]).nd)) := hcell 2 (by omega)
              obtain ⟨on, hon⟩ : ∃ x, x = (s.mvs[k]).nd := ⟨_, rfl⟩
              have hal : ∀ i, on = some i → alive s i := fun i hi => .inr (.inr ⟨_, List.getElem_mem hkm, by rw [← hon]; exact hi⟩)
              rw [← hon] at g2
              have hC2 := hC.below (((Below.refl _ _).alloc (Nat.le_refl _) (.cells #[.string x0, .string x1, .pointer (pO G.fid on)] 116)).drew)
              have HCP := Lib.hid (c_cpO on HG.out HI.out (by omega) hC2 hal)
              obtain ⟨Av, cv, hvE, _⟩ := hC.mvs.shape
              have hBx := (Bk.new_ wr 116 #[.string x0, .string x1, .pointer (pO G.fid on)]).drew
              obtain ⟨pa, hpa⟩ : ∃ x, x = pO G.fid on := ⟨_, rfl⟩
              rw [← hpa] at g2 HCP hBx hC2
              have c10c : (wr.alloc (.cells #[.string x0, .string x1, .pointer pa] 116)).drew.cell? ⟨cb, 10, none⟩ = some (.slice Av k cv) := by rw [← hvE]; exact hC2.bk.cell 10
              obtain ⟨bx, hbx⟩ : ∃ x, x = wr.heap.size := ⟨_, rfl⟩
              have hbxmb : mb ≠ bx := by have := hC.km.lt; omega
              have hbxcb : cb ≠ bx := by have := hC.lt _ (.inl hC.xcb); omega
              have hz2 : (wr.alloc (.cells #[.string x0, .string x1, .pointer pa] 116)).drew.heap.size = bx + 1 := by rw [hbx]; simp
              rw [← hbx] at hBx
              have hHeld : (fun W : World => W.cell? ⟨cb, 10, none⟩ = some (.slice Av k cv) ∧ W.cell? ⟨bx, 0, none⟩ = some (.string x0) ∧ W.cell? ⟨bx, 1, none⟩ = some (.string x1) ∧ W.cell? ⟨bx, 2, none⟩ = some (.pointer pa)) (wr.alloc (.cells #[.string x0, .string x1, .pointer pa] 116)).drew := ⟨c10c, hBx.cell 0, hBx.cell 1, hBx.cell 2⟩
              have Hmvl := Lib.hid (show ∀ g, (Value.slice Av k cv).ownBlock = some g → g < bx from fun g hg => by have := (World.ownsRow.lt hC.mvs g (by rw [hvE]; exact hg)).2; omega)
              have Hform := Lib.hid hform
              have HvE := Lib.hid hvE
              have HBx := Lib.hid hBx
              have Hbx := Lib.hid hbx
              have Hon := Lib.hid hon
              clear hcell hform hE hC hC2 hal hvE hpa c10c hBx hbx hon
              go_wp2
              rw [← Hbx.out]
              refine wp_region_T (S := fun W : World => W.cell? ⟨cb, 10, none⟩ = some (.slice Av k cv) ∧ W.cell? ⟨bx, 0, none⟩ = some (.string x0) ∧ W.cell? ⟨bx, 1, none⟩ = some (.string x1) ∧ W.cell? ⟨bx, 2, none⟩ = some (.pointer pa)) (m := 16) (by kernel_rfl) ?_
              simp only [List.size_toArray, List.length_cons, List.length_nil, Nat.reduceAdd]
              refine tTake (i := 0) (v := ?_) rfl (by kernel_rfl) (by kernel_rfl) (by kernel_rfl) (by kernel_rfl) (fun _ _ _ h => h) hHeld (by rfl) ?_ ?_
              rotate_left
              · (intro w hSw; (try dsimp only at hSw); go_simp; try with_reducible rfl)
              try simp only [Act.put, List.setIfInBounds_toArray, List.set_cons_zero, List.set_cons_succ]
              refine tTake (i := 1) (v := ?_) rfl (by kernel_rfl) (by kernel_rfl) (by kernel_rfl) (by kernel_rfl) (fun _ _ _ h => h) hHeld (by rfl) ?_ ?_
              rotate_left
              · (intro w hSw; (try dsimp only at hSw); go_simp; try with_reducible rfl)
              try simp only [Act.put, List.setIfInBounds_toArray, List.set_cons_zero, List.set_cons_succ]
              refine tTake (i := 2) (v := ?_) rfl (by kernel_rfl) (by kernel_rfl) (by kernel_rfl) (by kernel_rfl) (fun _ _ _ h => h) hHeld (by rfl) ?_ ?_
              rotate_left
              · (intro w hSw; (try dsimp only at hSw); go_simp; try with_reducible rfl)
              try simp only [Act.put, List.setIfInBounds_toArray, List.set_cons_zero, List.set_cons_succ]
              refine tTake (i := 3) (v := ?_) rfl (by kernel_rfl) (by kernel_rfl) (by kernel_rfl) (by kernel_rfl) (fun _ _ _ h => h) hHeld (by rfl) ?_ ?_
              rotate_left
              · (intro w hSw; (try dsimp only at hSw); go_simp; try with_reducible rfl)
              try simp only [Act.put, List.setIfInBounds_toArray, List.set_cons_zero, List.set_cons_succ]
              refine tTake (i := 4) (v := ?_) rfl (by kernel_rfl) (by kernel_rfl) (by kernel_rfl) (by kernel_rfl) (fun _ _ _ h => h) hHeld (by rfl) ?_ ?_
              rotate_left
              · (intro w hSw; (try dsimp only at hSw); go_simp; try with_reducible rfl)
              try simp only [Act.put, List.setIfInBounds_toArray, List.set_cons_zero, List.set_cons_succ]
              refine tTake (i := 5) (v := ?_) rfl (by kernel_rfl) (by kernel_rfl) (by kernel_rfl) (by kernel_rfl) (fun _ _ _ h => h) hHeld (by rfl) ?_ ?_
              rotate_left
              · (intro w hSw; (try dsimp only at hSw); go_simp; try with_reducible rfl)
              try simp only [Act.put, List.setIfInBounds_toArray, List.set_cons_zero, List.set_cons_succ]
              refine tTake (i := 6) (v := ?_) rfl (by kernel_rfl) (by kernel_rfl) (by kernel_rfl) (by kernel_rfl) (fun _ _ _ h => h) hHeld (by rfl) ?_ ?_
              rotate_left
              · (intro w hSw; (try dsimp only at hSw); go_simp; try with_reducible rfl)
              try simp only [Act.put, List.setIfInBounds_toArray, List.set_cons_zero, List.set_cons_succ]
              refine tTake (i := 7) (v := ?_) rfl (by kernel_rfl) (by kernel_rfl) (by kernel_rfl) (by kernel_rfl) (fun _ _ _ h => h) hHeld (by rfl) ?_ ?_
              rotate_left
              · (intro w hSw; (try dsimp only at hSw); go_simp; try with_reducible rfl)
              try simp only [Act.put, List.setIfInBounds_toArray, List.set_cons_zero, List.set_cons_succ]
              refine tTake (i := 8) (v := ?_) rfl (by kernel_rfl) (by kernel_rfl) (by kernel_rfl) (by kernel_rfl) (fun _ _ _ h => h) hHeld (by rfl) ?_ ?_
              rotate_left
              · (intro w hSw; (try dsimp only at hSw); go_simp; try with_reducible rfl)
              try simp only [Act.put, List.setIfInBounds_toArray, List.set_cons_zero, List.set_cons_succ]
              refine tTake (i := 9) (v := ?_) rfl (by kernel_rfl) (by kernel_rfl) (by kernel_rfl) (by kernel_rfl) (fun _ _ _ h => h) hHeld (by rfl) ?_ ?_
              rotate_left
              · (intro w hSw; (try dsimp only at hSw); go_simp; try with_reducible rfl)
              try simp only [Act.put, List.setIfInBounds_toArray, List.set_cons_zero, List.set_cons_succ]
              refine tTake (i := 10) (v := ?_) rfl (by kernel_rfl) (by kernel_rfl) (by kernel_rfl) (by kernel_rfl) (fun _ _ _ h => h) hHeld (by rfl) ?_ ?_
              rotate_left
              · (intro w hSw; (try dsimp only at hSw); go_simp; try with_reducible rfl)
              try simp only [Act.put, List.setIfInBounds_toArray, List.set_cons_zero, List.set_cons_succ]
              refine tTake (i := 11) (v := ?_) rfl (by kernel_rfl) (by kernel_rfl) (by kernel_rfl) (by kernel_rfl) (fun _ _ _ h => h) hHeld (by rfl) ?_ ?_
              rotate_left
              · (intro w hSw; (try dsimp only at hSw); go_simp; try with_reducible rfl)
              try simp only [Act.put, List.setIfInBounds_toArray, List.set_cons_zero, List.set_cons_succ]
              refine tStep (i := 12) rfl (by kernel_rfl) (fun K hK => ?_)
              go_simp
              go_at_call 62
              refine HCP.out.mono ?_
              rintro e w5 ⟨X'', I'', Gc', done', rfl, hC5, hin, e3, hk5⟩
              obtain ⟨pb, hpb⟩ : ∃ x, x = pO Gc'.fid on := ⟨_, rfl⟩
              have Hpb := Lib.hid hpb
              rw [← hpb]
              clear hpb
              have hB5 := HBx.out.kbP hk5 (fun e => hbxmb e.symm)
              have c5 : w5.cell? ⟨cb, 10, none⟩ = some (.slice Av k cv) := by rw [← HvE.out, ← e3]; exact hC5.bk.cell 10
              have hHeldN : (fun W : World => W.cell? ⟨cb, 10, none⟩ = some (.slice Av k cv) ∧ W.cell? ⟨bx, 0, none⟩ = some (.string x0) ∧ W.cell? ⟨bx, 1, none⟩ = some (.string x1) ∧ W.cell? ⟨bx, 2, none⟩ = some (.pointer pa)) _ := ⟨c5, hB5.cell 0, hB5.cell 1, hB5.cell 2⟩
              refine hK.out _ _ (fun _ => hHeldN) ?_
              clear hK K hHeld
              have hHeld := hHeldN
              clear hHeldN
              try simp only [Act.put, List.setIfInBounds_toArray, List.set_cons_zero, List.set_cons_succ]
              refine tTake (i := 13) (v := ?_) rfl (by kernel_rfl) (by kernel_rfl) (by kernel_rfl) (by kernel_rfl) (fun _ _ _ h => h) hHeld (by rfl) ?_ ?_
              rotate_left
              · (intro w hSw; (try dsimp only at hSw); go_simp; try with_reducible rfl)
              try simp only [Act.put, List.setIfInBounds_toArray, List.set_cons_zero, List.set_cons_succ]
              refine tStep (i := 14) rfl (by kernel_rfl) (fun K hK => ?_)
              go_simp
              have hC6 := hC5.below ((Below.refl _ _).alloc (Nat.le_refl _) (.cells #[.string x0, .string x1, .pointer pb] 116))
              have hB6 := hB5.alloc (.cells #[.string x0, .string x1, .pointer pb] 116)
              have c6 : (w5.alloc (.cells #[.string x0, .string x1, .pointer pb] 116)).cell? ⟨cb, 10, none⟩ = some (.slice Av k cv) := by rw [← HvE.out, ← e3]; exact hC6.bk.cell 10
              have hHeldN : (fun W : World => W.cell? ⟨cb, 10, none⟩ = some (.slice Av k cv) ∧ W.cell? ⟨bx, 0, none⟩ = some (.string x0) ∧ W.cell? ⟨bx, 1, none⟩ = some (.string x1) ∧ W.cell? ⟨bx, 2, none⟩ = some (.pointer pa)) _ := ⟨c6, hB6.cell 0, hB6.cell 1, hB6.cell 2⟩
              refine hK.out _ _ (fun _ => hHeldN) ?_
              clear hK K hHeld
              have hHeld := hHeldN
              clear hHeldN
              try simp only [Act.put, List.setIfInBounds_toArray, List.set_cons_zero, List.set_cons_succ]
              refine tStep (i := 15) rfl (by kernel_rfl) (fun K hK => ?_)
              refine at_app (.tmp 86) (.tmp 96) ?_
              have hm6 := hC6.mvs
              rw [e3, HvE.out] at hm6
              have hbx6 : ∀ g, (Value.slice Av k cv).ownBlock = some g → g ≠ bx := fun g hg e => by
                have := Hmvl.out g hg
                omega
              refine step_appK rfl (.tmp 86) (.tmp 96) rfl slm (by decide) rfl hm6 (Nat.zero_le _) rfl (news := [.string x0, .string x1, .pointer pb]) rfl (fun j u hu => by rw [Nat.zero_add]; exact ((Bk.new_ w5 _ _).cell j).trans (by simpa using hu)) (by intro u hu; simp only [List.mem_cons, List.not_mem_nil, or_false] at hu; rcases hu with rfl | rfl | rfl <;> rfl) (by omega) ?_
              intro v8 w8 ho8 hb8 hg8 hat8
              obtain ⟨A8, c8', rfl, hc8⟩ := ho8.shape
              have hC6b := hC6.bk
              have hB8c := bkGrown hC6b hg8 (own_bkK hm6 hC6b (by decide))
              have hB8 := bkGrown hB6 hg8 (fun e => hbx6 _ e rfl)
              have c8c : w8.cell? ⟨cb, 10, none⟩ = some (.slice Av k cv) := by rw [← HvE.out, ← e3]; exact hB8c.cell 10
              have hHeldN : (fun W : World => W.cell? ⟨cb, 10, none⟩ = some (.slice Av k cv) ∧ W.cell? ⟨bx, 0, none⟩ = some (.string x0) ∧ W.cell? ⟨bx, 1, none⟩ = some (.string x1) ∧ W.cell? ⟨bx, 2, none⟩ = some (.pointer pa)) _ := ⟨c8c, hB8.cell 0, hB8.cell 1, hB8.cell 2⟩
              refine hK.out _ _ (fun _ => hHeldN) ?_
              clear hK K hHeld
              have hHeld := hHeldN
              clear hHeldN
              try simp only [Act.put, List.setIfInBounds_toArray, List.set_cons_zero, List.set_cons_succ]
              refine tStep (i := 16) rfl (by kernel_rfl) (fun K hK => ?_)
              go_simp
              refine hK.out _ _ (fun h => absurd h (by decide)) ?_
              clear hK K
              try simp only [Act.put, List.setIfInBounds_toArray, List.set_cons_zero, List.set_cons_succ]
              refine tStep (i := 17) rfl (by kernel_rfl) (fun K hK => ?_)
              go_simp
              refine hK.out _ _ (fun h => absurd h (by decide)) ?_
              clear hK K
              try simp only [Act.put, List.setIfInBounds_toArray, List.set_cons_zero, List.set_cons_succ]
              have z8 := hB8c.frz
              refine tStep (i := 18) rfl (by kernel_rfl) (fun K hK => ?_)
              go_simp
              refine hK.out _ _ (fun h => absurd h (by decide)) ?_
              clear hK K
              try simp only [Act.put, List.setIfInBounds_toArray, List.set_cons_zero, List.set_cons_succ]
              refine tDone (by kernel_rfl) ?_ _
              have hC9 : ClG I w0 s G mb (mb + 1) cb (fun b => X'' b ∨ (Value.slice A8 (k + 1) c8').ownBlock = some b) I'' (w8.setCell ⟨cb, 10, none⟩ (.slice A8 (k + 1) c8')) { Gc' with mv := .slice A8 (k + 1) c8' } [] [] (k + 1) done' := by
                refine hC6.addMv hkm (fun i hi => hin i (Hon.out.trans hi)) ?_ (by rw [e3, HvE.out]; exact hat8) ?_ (hB8c.set_ 10 _)
                · rw [Hform.out, ← Hon.out, ← Hpb.out]
                  exact OwnK.far ho8 (own_bkK ho8 hB8c (by decide)) _
                · rw [e3, HvE.out]
                  exact (KbP.of_grown hg8 (fun g hg => .inr hg)).setCell (p := ⟨cb, 10, none⟩) (.inl (.inl rfl)) _
              have Hfin := Lib.hid hC9
              clear hC9 hC5 hC6 hC6b hB8c hB8 hB5 hB6 c5 c6 c8c hHeld hin e3 hg8 hat8 ho8 hk5 z8 hm6 hbx6
              go_wp2
              go_roundw
              case rel => exact ⟨k + 1, _, _, _, _, by omega, by go_num, Hfin.out⟩
              case measure => simp [intOf]; omega
            · obtain rfl : k = ml := by omega
              rw [Hml.out] at hC
              have hF := Lib.hid (hC.fin HI.out)
              have Hx := Lib.hid hC.xlow
              have Hi := Lib.hid hC.ilow
              have Hb := Lib.hid hC.bl
              clear hC
              go_wp2
              go_ret
              exact ⟨cb, X', I', rfl, ⟨Gc, hF.out⟩, Hx.out, Hi.out, Hb.out⟩
end Go.Proofs.YtaanmnplfppdeaaGreat
