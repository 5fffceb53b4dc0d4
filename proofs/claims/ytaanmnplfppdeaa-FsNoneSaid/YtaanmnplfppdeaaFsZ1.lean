/- Layer 1: a file is copied: the walk of Clone's closure. -/
import Derived.Test.YtaanmnplfppdeaaFsX5
import Derived.Test.YtaanmnplfppdeaaFsRd
import Derived.Test.YtaanmnplfppdeaaPtrMap
namespace Go.Lec
open Go.RowKit Go.Fsy
theorem plainB.kbP {X : Nat → Prop} {w w' : World} {b : Nat} (h : plainB w b) (hk : KbP X w w') (hX : ¬ X b) : plainB w' b := by
  obtain ⟨cs, t, hb⟩ := h
  exact ⟨cs, t, (hk.block b (Array.getElem?_eq_some_iff.1 hb).1 hX).trans hb⟩
theorem plainB.lt {w : World} {b : Nat} (h : plainB w b) : b < w.heap.size := by
  obtain ⟨cs, t, hb⟩ := h
  exact (Array.getElem?_eq_some_iff.1 hb).1
theorem plainB.ne {w : World} {b m : Nat} {L : List (Nat × Value)} (h : plainB w b) (hm : KmP w m L) : b ≠ m := by
  rintro rfl
  obtain ⟨cs, t, hb⟩ := h
  obtain ⟨es, clock, hc, _⟩ := hm
  rw [hb] at hc; cases hc
theorem Bk.plain {w : World} {b : Nat} {t : TypeId} {cs : Array Value} (h : Bk w b t cs) : plainB w b := ⟨cs, t, h⟩
theorem valP_snoc {L : List (Nat × Value)} {x : Nat} {v : Value} (h : valP L x = none) : valP (L ++ [(x, v)]) x = some v := by
  unfold valP at h ⊢
  rw [Option.map_eq_none_iff] at h
  rw [List.find?_append, h]
  simp
end Go.Lec
namespace Go.Proofs.Ytaanmnplfppdeaa
open Go.RowKit Go.Lec Go.Fsy Go.Op Go.Maps
set_option maxRecDepth 40000 in
theorem c_CloneC (w : World) {A : Option Addr} {n c : Nat} {vs : List Value} (hr : Rd w w.heap.size A n vs) (h1 : ∀ u ∈ vs, u.oneCell' = true) (hn : n ≤ 1099511627776) :
    Calls Try.prog 37 #[.slice A n c] w fun e w' => ∃ v, e = .returned v ∧ Lec.Own w' w.heap.size 88 v vs ∧ Below w.heap.size w w' := by
  have hk := Lib.run_eql_slice_nil (P := Try.prog) w 61 88 A n c 0 0 Try.underlying61
  have Hln := Lib.hid hr.1
  go_enter Try.func37, Try.ntmps37
  cases A with
  | none =>
    have h0 : n = 0 := by
      rcases Nat.eq_zero_or_pos n with h | h
      · exact h
      · obtain ⟨b, o, e, _⟩ := hr.2 h; cases e
    subst h0
    obtain rfl : vs = [] := List.eq_nil_of_length_eq_zero Hln.out
    go_wp2
    go_ret
    exact ⟨_, rfl, Lec.Own.nil_ _ _ _, Below.refl _ _⟩
  | some a =>
    go_wp2_with (first
      | (at_builtin; (refine wpList_app_rd (m := n) rfl _ _ rfl slc rfl (Lec.Own.lit w [] (Nat.le_refl _) (by simp)) rfl (hr.alloc (Nat.le_refl _) _) h1 (by simp; omega) (by decide) (by simp) ?_); intro v2 w2 ho2 hb2 hg2))
    rw [List.nil_append] at ho2
    obtain ⟨A2, c2, rfl, hc2⟩ := ho2.shape
    go_ret
    exact ⟨_, rfl, ho2, ((Below.refl _ _).alloc (Nat.le_refl _) _).trans hb2⟩
set_option maxRecDepth 40000 in
theorem c_copied_nil (w : World) (sb : Nat) : Calls Try.prog 36 #[.pointer none, .pointer (some ⟨sb, 0, none⟩)] w fun e w' => e = .returned (.pointer none) ∧ w = w' := by
  go_enter Try.func36, Try.ntmps36
  go_wp2
  go_ret
  exact ⟨rfl, rfl⟩
/-- What a copy is. -/
def CopyP (I : Nat → Prop) (W : World) (x mb : Nat) (L : List (Nat × Value)) (nd : Nd) (e : Ending) (w' : World) : Prop :=
  ∃ nb lv', e = .returned (ptrV nb) ∧ KmP w' mb (L ++ [(x, ptrV nb)]) ∧ W.heap.size ≤ nb ∧ nb < w'.heap.size ∧ (∀ g, lv'.ownBlock = some g → W.heap.size ≤ g ∧ g < w'.heap.size ∧ g ≠ nb) ∧
    FileOk (fun b => b = nb ∨ lv'.ownBlock = some b) (fun b => I b ∨ (W.heap.size ≤ b ∧ b < w'.heap.size ∧ b ≠ nb ∧ lv'.ownBlock ≠ some b)) w' nb lv' nd ∧ KbP (fun b => b = mb) W w'
set_option maxRecDepth 40000 in
set_option maxHeartbeats 800000 in
theorem c_copied_old (w : World) {sb mb x b : Nat} {L : List (Nat × Value)} (hsb : Bk w sb 85 #[.map (some mb)]) (hx : plainB w x) (hL : ∀ p ∈ L, plainB w p.1) (hm : KmP w mb L) (hv : valP L x = some (ptrV b)) :
    Calls Try.prog 36 #[ptrV x, .pointer (some ⟨sb, 0, none⟩)] w fun e w' => e = .returned (ptrV b) ∧ w' = w := by
  obtain ⟨j, hj, _, hjs, _⟩ := info_parts infoF
  have hlk := run_lookup_ptr (P := Try.prog) (t := 85) (k := 59) (e := 59) (te := 63) Try.underlying85 Try.underlying59 hj (by omega) (zeroP w) hm hx hL
  rw [hv] at hlk
  have q := hsb.cell 0
  unfold ptrV at *
  clear hm hL hx hsb hv
  go_enter Try.func36, Try.ntmps36
  go_wp2
  go_ret
  exact ⟨rfl, rfl⟩
set_option maxRecDepth 100000 in
set_option maxHeartbeats 1600000 in
theorem c_copied_new (w : World) {X I : Nat → Prop} {sb mb x N : Nat} {lv : Value} {nd : Nd} {L : List (Nat × Value)} (hsb : Bk w sb 85 #[.map (some mb)]) (hx : plainB w x) (hL : ∀ p ∈ L, plainB w p.1) (hm : KmP w mb L) (hv : valP L x = none)
    (hF : FileOk X I w x lv nd) (hI : ∀ b, I b → b ≠ mb) (hIl : ∀ b, I b → b < w.heap.size) (hxm : x ≠ mb) (n1 : nd.safe.length ≤ 268435456) (n2 : nd.data.length ≤ 268435456) (n3 : nd.chg.length ≤ 1099511627776) :
    Calls Try.prog 36 #[ptrV x, .pointer (some ⟨sb, 0, none⟩)] w (CopyP I w x mb L nd) := by
  obtain ⟨j, hj, _, hjs, _⟩ := info_parts infoF
  have hlk := run_lookup_ptr (P := Try.prog) (t := 85) (k := 59) (e := 59) (te := 63) Try.underlying85 Try.underlying59 hj (by omega) (zeroP w) hm hx hL
  rw [hv] at hlk
  obtain ⟨A1, c1, A3, c3, vs, hB, hR1, hc1, hR3, hc3, hO, hCh⟩ := hF.ex
  obtain ⟨Al, cl, rfl, hcl⟩ := hO.shape
  have hvl : vs.length = nd.chg.length := hCh.1
  have hv1 : ∀ u ∈ vs, u.oneCell' = true := by
    intro u hu
    obtain ⟨k, hk, rfl⟩ := List.getElem_of_mem hu
    exact (hCh.2 k _ (nd.chg[k]'(by omega)) (List.getElem?_eq_getElem hk) (List.getElem?_eq_getElem (by omega))).one
  have hq0 := hsb.cell 0
  have q := hB.cell
  have hlx := hB.lt
  have hls := hsb.lt
  have C1 := Lib.hid (fun (W : World) (hb : Below w.heap.size w W) => c_CloneB W (c := c1) (RdP.below hR1 hb).rd (Nat.le_refl _) (show nd.safe.length ≤ 1099511627776 by omega))
  have C2 := Lib.hid (fun (W : World) (hb : Below w.heap.size w W) => c_CloneC W (A := Al) (n := vs.length) (c := cl) (((Lec.Own.rd hO).below hb (Nat.le_refl _)).more hb.size) hv1 (by omega))
  have C3 := Lib.hid (fun (W : World) (hb : Below w.heap.size w W) => c_CloneB W (c := c3) (RdP.below hR3 hb).rd (Nat.le_refl _) (show nd.data.length ≤ 1099511627776 by omega))
  obtain ⟨z1, hz1⟩ : ∃ z, z = nd.safe.length := ⟨_, rfl⟩
  obtain ⟨z3, hz3⟩ : ∃ z, z = nd.data.length := ⟨_, rfl⟩
  obtain ⟨zl, hzl⟩ : ∃ z, z = vs.length := ⟨_, rfl⟩
  rw [← hz1] at C1
  rw [← hz1, ← hz3] at q
  rw [← hz3] at C3
  rw [← hzl] at C2 q
  have Hz1 := Lib.hid hz1
  have Hz3 := Lib.hid hz3
  have Hzl := Lib.hid hzl
  have Hm := Lib.hid hm
  have Hx := Lib.hid hx
  have HL := Lib.hid hL
  have Hv := Lib.hid hv
  have HCh := Lib.hid hCh
  have HI := Lib.hid hI
  have HIl := Lib.hid hIl
  unfold ptrV at *
  clear hz1 hz3 hzl hm hL hx hv hO hCh hR1 hR3 hB hF hv1 hc1 hc3 hcl hvl n1 n2 n3 hI hIl
  have hHeld : (fun W : World => W.cell? ⟨sb, 0, none⟩ = some (.map (some mb)) ∧ W.cell? ⟨x, 0, none⟩ = some (.slice A1 z1 c1) ∧ W.cell? ⟨x, 1, none⟩ = some (.slice Al zl cl) ∧ W.cell? ⟨x, 2, none⟩ = some (.slice A3 z3 c3)) w.drew := ⟨hq0, q 0, q 1, q 2⟩
  go_enter Try.func36, Try.ntmps36
  go_wp2
  refine wp_region_T (S := fun W : World => W.cell? ⟨sb, 0, none⟩ = some (.map (some mb)) ∧ W.cell? ⟨x, 0, none⟩ = some (.slice A1 z1 c1) ∧ W.cell? ⟨x, 1, none⟩ = some (.slice Al zl cl) ∧ W.cell? ⟨x, 2, none⟩ = some (.slice A3 z3 c3)) (m := 19) (by kernel_rfl) ?_
  simp only [List.size_toArray, List.length_cons, List.length_nil, Nat.reduceAdd]
  refine tTake (i := 0) (v := ?_) rfl (by kernel_rfl) (by kernel_rfl) (by kernel_rfl) (by kernel_rfl) (fun _ _ _ h => h) hHeld (by rfl) ?_ ?_
  rotate_left
  · (intro w hSw; (try dsimp only at hSw); go_simp; try with_reducible rfl)
  try simp only [Act.put, List.setIfInBounds_toArray, List.set_cons_zero, List.set_cons_succ]
  refine tTake (i := 1) (v := ?_) rfl (by kernel_rfl) (by kernel_rfl) (by kernel_rfl) (by kernel_rfl) (fun _ _ _ h => h) hHeld (by rfl) ?_ ?_
  rotate_left
  · (intro w hSw; (try dsimp only at hSw); go_simp; try with_reducible rfl)
  try simp only [Act.put, List.setIfInBounds_toArray, List.set_cons_zero, List.set_cons_succ]
  refine tTake (i := 2) (v := ?_) rfl (by kernel_rfl) (by kernel_rfl) (by kernel_rfl) (by kernel_rfl) (fun _ _ _ h => h) hHeld (by rfl) ?_ ?_
  rotate_left
  · (intro w hSw; (try dsimp only at hSw); go_simp; try with_reducible rfl)
  try simp only [Act.put, List.setIfInBounds_toArray, List.set_cons_zero, List.set_cons_succ]
  refine tTake (i := 3) (v := ?_) rfl (by kernel_rfl) (by kernel_rfl) (by kernel_rfl) (by kernel_rfl) (fun _ _ _ h => h) hHeld (by rfl) ?_ ?_
  rotate_left
  · (intro w hSw; (try dsimp only at hSw); go_simp; try with_reducible rfl)
  try simp only [Act.put, List.setIfInBounds_toArray, List.set_cons_zero, List.set_cons_succ]
  refine tTake (i := 4) (v := ?_) rfl (by kernel_rfl) (by kernel_rfl) (by kernel_rfl) (by kernel_rfl) (fun _ _ _ h => h) hHeld (by rfl) ?_ ?_
  rotate_left
  · (intro w hSw; (try dsimp only at hSw); go_simp; try with_reducible rfl)
  try simp only [Act.put, List.setIfInBounds_toArray, List.set_cons_zero, List.set_cons_succ]
  refine tTake (i := 5) (v := ?_) rfl (by kernel_rfl) (by kernel_rfl) (by kernel_rfl) (by kernel_rfl) (fun _ _ _ h => h) hHeld (by rfl) ?_ ?_
  rotate_left
  · (intro w hSw; (try dsimp only at hSw); go_simp; try with_reducible rfl)
  try simp only [Act.put, List.setIfInBounds_toArray, List.set_cons_zero, List.set_cons_succ]
  refine tTake (i := 7) (v := ?_) rfl (by kernel_rfl) (by kernel_rfl) (by kernel_rfl) (by kernel_rfl) (fun _ _ _ h => h) hHeld (by rfl) ?_ ?_
  rotate_left
  · (intro w hSw; (try dsimp only at hSw); go_simp; try with_reducible rfl)
  try simp only [Act.put, List.setIfInBounds_toArray, List.set_cons_zero, List.set_cons_succ]
  refine tTake (i := 8) (v := ?_) rfl (by kernel_rfl) (by kernel_rfl) (by kernel_rfl) (by kernel_rfl) (fun _ _ _ h => h) hHeld (by rfl) ?_ ?_
  rotate_left
  · (intro w hSw; (try dsimp only at hSw); go_simp; try with_reducible rfl)
  try simp only [Act.put, List.setIfInBounds_toArray, List.set_cons_zero, List.set_cons_succ]
  refine tTake (i := 9) (v := ?_) rfl (by kernel_rfl) (by kernel_rfl) (by kernel_rfl) (by kernel_rfl) (fun _ _ _ h => h) hHeld (by rfl) ?_ ?_
  rotate_left
  · (intro w hSw; (try dsimp only at hSw); go_simp; try with_reducible rfl)
  try simp only [Act.put, List.setIfInBounds_toArray, List.set_cons_zero, List.set_cons_succ]
  refine tTake (i := 10) (v := ?_) rfl (by kernel_rfl) (by kernel_rfl) (by kernel_rfl) (by kernel_rfl) (fun _ _ _ h => h) hHeld (by rfl) ?_ ?_
  rotate_left
  · (intro w hSw; (try dsimp only at hSw); go_simp; try with_reducible rfl)
  try simp only [Act.put, List.setIfInBounds_toArray, List.set_cons_zero, List.set_cons_succ]
  refine tTake (i := 12) (v := ?_) rfl (by kernel_rfl) (by kernel_rfl) (by kernel_rfl) (by kernel_rfl) (fun _ _ _ h => h) hHeld (by rfl) ?_ ?_
  rotate_left
  · (intro w hSw; (try dsimp only at hSw); go_simp; try with_reducible rfl)
  try simp only [Act.put, List.setIfInBounds_toArray, List.set_cons_zero, List.set_cons_succ]
  refine tTake (i := 13) (v := ?_) rfl (by kernel_rfl) (by kernel_rfl) (by kernel_rfl) (by kernel_rfl) (fun _ _ _ h => h) hHeld (by rfl) ?_ ?_
  rotate_left
  · (intro w hSw; (try dsimp only at hSw); go_simp; try with_reducible rfl)
  try simp only [Act.put, List.setIfInBounds_toArray, List.set_cons_zero, List.set_cons_succ]
  refine tTake (i := 14) (v := ?_) rfl (by kernel_rfl) (by kernel_rfl) (by kernel_rfl) (by kernel_rfl) (fun _ _ _ h => h) hHeld (by rfl) ?_ ?_
  rotate_left
  · (intro w hSw; (try dsimp only at hSw); go_simp; try with_reducible rfl)
  try simp only [Act.put, List.setIfInBounds_toArray, List.set_cons_zero, List.set_cons_succ]
  refine tTake (i := 15) (v := ?_) rfl (by kernel_rfl) (by kernel_rfl) (by kernel_rfl) (by kernel_rfl) (fun _ _ _ h => h) hHeld (by rfl) ?_ ?_
  rotate_left
  · (intro w hSw; (try dsimp only at hSw); go_simp; try with_reducible rfl)
  try simp only [Act.put, List.setIfInBounds_toArray, List.set_cons_zero, List.set_cons_succ]
  refine tStep (i := 6) rfl (by kernel_rfl) (fun K hK => ?_)
  go_simp
  go_at_call 23
  refine (C1.out _ (Below.refl _ _).drew).mono ?_
  rintro e w1 ⟨A1', c1', rfl, hc1', hR1', hb1⟩
  have hb01 : Below w.heap.size w w1 := (Below.refl _ _).drew.trans hb1
  have hHeldN : (fun W : World => W.cell? ⟨sb, 0, none⟩ = some (.map (some mb)) ∧ W.cell? ⟨x, 0, none⟩ = some (.slice A1 z1 c1) ∧ W.cell? ⟨x, 1, none⟩ = some (.slice Al zl cl) ∧ W.cell? ⟨x, 2, none⟩ = some (.slice A3 z3 c3)) _ := ⟨(hb01.cell (p := ⟨sb, 0, none⟩) hls).trans hq0, (hb01.cell (p := ⟨x, 0, none⟩) hlx).trans (q 0), (hb01.cell (p := ⟨x, 1, none⟩) hlx).trans (q 1), (hb01.cell (p := ⟨x, 2, none⟩) hlx).trans (q 2)⟩
  refine hK.out _ _ (fun _ => hHeldN) ?_
  clear hK K hHeld
  have hHeld := hHeldN
  clear hHeldN
  try simp only [Act.put, List.setIfInBounds_toArray, List.set_cons_zero, List.set_cons_succ]
  refine tStep (i := 11) rfl (by kernel_rfl) (fun K hK => ?_)
  go_simp
  go_at_call 37
  refine (C2.out _ hb01).mono ?_
  rintro e w2 ⟨lv', rfl, hO2, hb2⟩
  obtain ⟨Al', cl', rfl, hcl'⟩ := hO2.shape
  have hs01 := hb01.size
  have hb02 : Below w.heap.size w w2 := hb01.trans (hb2.mono hs01)
  have hHeldN : (fun W : World => W.cell? ⟨sb, 0, none⟩ = some (.map (some mb)) ∧ W.cell? ⟨x, 0, none⟩ = some (.slice A1 z1 c1) ∧ W.cell? ⟨x, 1, none⟩ = some (.slice Al zl cl) ∧ W.cell? ⟨x, 2, none⟩ = some (.slice A3 z3 c3)) _ := ⟨(hb02.cell (p := ⟨sb, 0, none⟩) hls).trans hq0, (hb02.cell (p := ⟨x, 0, none⟩) hlx).trans (q 0), (hb02.cell (p := ⟨x, 1, none⟩) hlx).trans (q 1), (hb02.cell (p := ⟨x, 2, none⟩) hlx).trans (q 2)⟩
  refine hK.out _ _ (fun _ => hHeldN) ?_
  clear hK K hHeld
  have hHeld := hHeldN
  clear hHeldN
  try simp only [Act.put, List.setIfInBounds_toArray, List.set_cons_zero, List.set_cons_succ]
  refine tStep (i := 16) rfl (by kernel_rfl) (fun K hK => ?_)
  go_simp
  go_at_call 23
  refine (C3.out _ hb02).mono ?_
  rintro e w3 ⟨A3', c3', rfl, hc3', hR3', hb3⟩
  have hs02 := hb02.size
  have hb03 : Below w.heap.size w w3 := hb02.trans (hb3.mono hs02)
  have hHeldN : (fun W : World => W.cell? ⟨sb, 0, none⟩ = some (.map (some mb)) ∧ W.cell? ⟨x, 0, none⟩ = some (.slice A1 z1 c1) ∧ W.cell? ⟨x, 1, none⟩ = some (.slice Al zl cl) ∧ W.cell? ⟨x, 2, none⟩ = some (.slice A3 z3 c3)) _ := ⟨(hb03.cell (p := ⟨sb, 0, none⟩) hls).trans hq0, (hb03.cell (p := ⟨x, 0, none⟩) hlx).trans (q 0), (hb03.cell (p := ⟨x, 1, none⟩) hlx).trans (q 1), (hb03.cell (p := ⟨x, 2, none⟩) hlx).trans (q 2)⟩
  refine hK.out _ _ (fun _ => hHeldN) ?_
  clear hK K hHeld
  have hHeld := hHeldN
  clear hHeldN
  try simp only [Act.put, List.setIfInBounds_toArray, List.set_cons_zero, List.set_cons_succ]
  refine tTake (i := 17) (v := ?_) rfl (by kernel_rfl) (by kernel_rfl) (by kernel_rfl) (by kernel_rfl) (fun _ _ _ h => h) hHeld (by rfl) ?_ ?_
  rotate_left
  · (intro w hSw; (try dsimp only at hSw); go_simp; try with_reducible rfl)
  try simp only [Act.put, List.setIfInBounds_toArray, List.set_cons_zero, List.set_cons_succ]
  refine tStep (i := 18) rfl (by kernel_rfl) (fun K hK => ?_)
  go_simp
  have hs3 : w.heap.size ≤ w3.heap.size := hb03.size
  have hs12 := hb2.size
  have hs23 := hb3.size
  have B4 := Bk.new_ w3 63 #[.slice A1' z1 c1', .slice Al' vs.length cl', .slice A3' z3 c3']
  have hb04 : Below w.heap.size w (w3.alloc (.cells #[.slice A1' z1 c1', .slice Al' vs.length cl', .slice A3' z3 c3'] 63)) := hb03.alloc hs3 _
  have hHeldN : (fun W : World => W.cell? ⟨sb, 0, none⟩ = some (.map (some mb)) ∧ W.cell? ⟨x, 0, none⟩ = some (.slice A1 z1 c1) ∧ W.cell? ⟨x, 1, none⟩ = some (.slice Al zl cl) ∧ W.cell? ⟨x, 2, none⟩ = some (.slice A3 z3 c3)) _ := ⟨(hb04.cell (p := ⟨sb, 0, none⟩) hls).trans hq0, (hb04.cell (p := ⟨x, 0, none⟩) hlx).trans (q 0), (hb04.cell (p := ⟨x, 1, none⟩) hlx).trans (q 1), (hb04.cell (p := ⟨x, 2, none⟩) hlx).trans (q 2)⟩
  refine hK.out _ _ (fun _ => hHeldN) ?_
  clear hK K hHeld
  have hHeld := hHeldN
  clear hHeldN
  try simp only [Act.put, List.setIfInBounds_toArray, List.set_cons_zero, List.set_cons_succ]
  have hk04 : KbP (fun _ => False) w (w3.alloc (.cells #[.slice A1' z1 c1', .slice Al' vs.length cl', .slice A3' z3 c3'] 63)) := KbP.of_below hb04
  have hz4 : (w3.alloc (.cells #[.slice A1' z1 c1', .slice Al' vs.length cl', .slice A3' z3 c3'] 63)).heap.size = w3.heap.size + 1 := by simp
  obtain ⟨w4, hw4⟩ : ∃ W, W = w3.alloc (.cells #[.slice A1' z1 c1', .slice Al' vs.length cl', .slice A3' z3 c3'] 63) := ⟨_, rfl⟩
  rw [← hw4] at B4 hb04 hk04 hz4 hHeld ⊢
  obtain ⟨w5, hst, hm5, hk5⟩ := run_store_ptr (P := Try.prog) (t := 85) (k := 59) (e := 59) (te := 63) (w := w4) (v := .pointer (some ⟨w3.heap.size, 0, none⟩)) Try.underlying85 Try.underlying59 hj (by omega) (Hm.out.kbP hk04 (fun h => h)) (Hx.out.kbP hk04 (fun h => h)) (fun p hp => (HL.out p hp).kbP hk04 (fun h => h)) Hv.out
  have Hb34 := Lib.hid (show Below w3.heap.size w3 w4 from hw4 ▸ (Below.refl _ _).alloc (Nat.le_refl _) _)
  clear hw4
  refine tStep (i := 19) rfl (by kernel_rfl) (fun K hK => ?_)
  go_simp
  refine hK.out _ _ (fun h => absurd h (by decide)) ?_
  clear hK K
  try simp only [Act.put, List.setIfInBounds_toArray, List.set_cons_zero, List.set_cons_succ]
  refine tDone (by kernel_rfl) ?_ _
  have hsbm : sb ≠ mb := hsb.plain.ne Hm.out
  have q5 : w5.cell? ⟨sb, 0, none⟩ = some (.map (some mb)) := (hsb.below hb04 hls).kbP hk5 hsbm |>.cell 0
  have hlk5 := run_lookup_ptr (P := Try.prog) (t := 85) (k := 59) (e := 59) (te := 63) (w := w5) Try.underlying85 Try.underlying59 hj (by omega) (zeroP w5) hm5 ((Hx.out.kbP hk04 (fun h => h)).kbP hk5 hxm) (fun p hp => by
    rcases List.mem_append.1 hp with hp | hp
    · exact ((HL.out p hp).kbP hk04 (fun h => h)).kbP hk5 ((HL.out p hp).ne Hm.out)
    · rw [List.mem_singleton] at hp; subst hp; exact (Hx.out.kbP hk04 (fun h => h)).kbP hk5 hxm)
  rw [valP_snoc Hv.out, Option.getD_some] at hlk5
  have Hm5 := Lib.hid hm5
  have Hk5 := Lib.hid hk5
  clear hm5 hk5 hlk hst hHeld q hq0
  go_wp2
  go_ret
  have hmb : mb < w.heap.size := Hm.out.lt
  have k45 := Hk5.out
  have e1 : RdP (fun b => w.heap.size ≤ b) w1 A1' nd.safe.length (bcs nd.safe) := by rw [← Hz1.out]; exact hR1'.more (fun b h => h)
  have e3 : RdP (fun b => w2.heap.size ≤ b) w3 A3' nd.data.length (bcs nd.data) := by rw [← Hz3.out]; exact hR3'
  have hOs := World.ownsRow.lt hO2
  have hm4 : KbP (fun b => b = mb) w w5 := (hk04.more (fun _ h => h.elim)).trans k45 (fun b e => .inl e)
  have hs5 := k45.size
  refine ⟨w3.heap.size, .slice Al' vs.length cl', rfl, Hm5.out, hs3, by omega, fun g hg => by have := hOs g hg; omega, ⟨⟨A1', c1', A3', c3', vs, ?_, ?_, by rw [← Hz1.out]; exact hc1', ?_, by rw [← Hz3.out]; exact hc3', ?_, ?_⟩, .inl rfl, fun g hg => .inr hg⟩, hm4⟩
  · have := B4.kbP k45 (by omega)
    rw [Hz1.out, Hz3.out] at this
    exact this
  · have f1 : RdP (fun b => I b ∨ (w.heap.size ≤ b ∧ b < w5.heap.size ∧ b ≠ w3.heap.size ∧ (Value.slice Al' vs.length cl').ownBlock ≠ some b)) w1 A1' nd.safe.length (bcs nd.safe) := ⟨e1.rd, fun hn p hp => .inr ⟨e1.lie hn p hp, by have := e1.lt hn p hp; omega, by have := e1.lt hn p hp; omega, fun e => by have := hOs _ e; have := e1.lt hn p hp; omega⟩⟩
    refine RdP.kbP (RdP.below (RdP.below (RdP.below f1 hb2) hb3) Hb34.out) k45 ?_
    rintro b (hb | hb) e
    · exact HI.out b hb e
    · omega
  · have f3 : RdP (fun b => I b ∨ (w.heap.size ≤ b ∧ b < w5.heap.size ∧ b ≠ w3.heap.size ∧ (Value.slice Al' vs.length cl').ownBlock ≠ some b)) w3 A3' nd.data.length (bcs nd.data) := ⟨e3.rd, fun hn p hp => .inr ⟨by have := e3.lie hn p hp; omega, by have := e3.lt hn p hp; omega, by have := e3.lt hn p hp; omega, fun e => by have := hOs _ e; have := e3.lie hn p hp; omega⟩⟩
    refine RdP.kbP (RdP.below f3 Hb34.out) k45 ?_
    rintro b (hb | hb) e
    · exact HI.out b hb e
    · omega
  · have o3 := (hO2.below hb3 (Nat.le_refl _)).below Hb34.out (Nat.le_refl _)
    exact (OwnK.kbP o3 k45 (fun g hg e => by have := hOs g hg; omega)).mono (Nat.zero_le _)
  · exact ⟨HCh.out.1, fun k v c hk hc => ((HCh.out.2 k v c hk hc).kbP hm4 (fun b hb e => HI.out b hb e)).more (fun b => .inl)⟩
end Go.Proofs.Ytaanmnplfppdeaa
