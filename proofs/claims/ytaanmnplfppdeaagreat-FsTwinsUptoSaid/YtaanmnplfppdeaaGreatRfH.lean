/- Layer 1: the document's file system: what stands ahead of an operation: the walk of begin. -/
import Derived.Test.YtaanmnplfppdeaaGreatRfG
import Derived.Test.YtaanmnplfppdeaaGreatFsR
import Derived.Test.YtaanmnplfppdeaaGreatHeldT
namespace Go.Proofs.YtaanmnplfppdeaaGreat
open Go.RowKit Go.Lec Go.Fsy Go.Op Go.Maps
/-- One more operation is counted. -/
theorem RfG.counted {Y J : Nat → Prop} {w : World} {rb : Nat} {s : St} {R : RGeo} (h : RfG Y J w rb s R) : RfG Y J (w.setCell ⟨rb, 5, none⟩ (.int .i64 ((s.cnt : Int) + 1))) rb (count s) R := by
  have hk := (KbP.refl (fun b => b = rb) w).setCell (p := ⟨rb, 5, none⟩) (.inl rfl) (.int .i64 ((s.cnt : Int) + 1))
  exact h.turnRb (c := s.cnt + 1) (d := s.died) hk (fun b hb => hb) h.yj (fun b hb => Nat.lt_of_lt_of_le (h.lt b (.inr hb)) hk.size) (h.bk.set_ 5 (.int .i64 ((s.cnt : Int) + 1))) (h.dir.kbP hk h.rbJ) (h.safe.kbP hk h.rbJ) (OwnK.kbP h.mvs hk h.rbM) h.ymv
set_option maxRecDepth 100000 in
set_option maxHeartbeats 1600000 in
theorem c_rBegin (w : World) {Y J : Nat → Prop} {rb N : Nat} {s : St} (h : RfP Y J w rb s) (hi : Fsy.Inv s N) (hN : N ≤ 1048575) (hp : s.pl.ok) :
    Calls Tryz.prog 81 #[ptrV rb] w (RupP Y J w rb (Fsy.begin s)) := by
  obtain ⟨R, hG⟩ := h
  have q := hG.bk.cell
  have z := hG.bk.frz
  have q0 : w.cell? ⟨rb, 0, none⟩ = some (.int .i64 s.pl.crash) := q 0
  have q5 : w.cell? ⟨rb, 5, none⟩ = some (.int .i64 (s.cnt : Int)) := q 5
  have q6 : w.cell? ⟨rb, 6, none⟩ = some (.bool s.died) := q 6
  have z5 := z 5
  clear q z
  have hcB : s.cnt ≤ 1048576 := Nat.le_trans hi.nCnt (by omega)
  unfold ptrV
  cases hd : s.died with
  | true =>
    have hb : Fsy.begin s = (s, 12) := by unfold Fsy.begin; rw [hd]; rfl
    have Hfin := Lib.hid (show RupP Y J w rb (Fsy.begin s) (.returned (.int .i64 12)) w from by rw [hb]; exact ⟨rfl, Y, J, ⟨R, hG⟩, Grow.refl _ _ _⟩)
    rw [hd] at q6
    clear hG hi hb hd
    go_enter Tryz.func81, Tryz.ntmps81
    go_wp2
    go_ret
    exact Hfin.out
  | false =>
    rw [hd] at q6
    have hG1 := hG.counted
    have hk1 : KbP Y w (w.setCell ⟨rb, 5, none⟩ (.int .i64 ((s.cnt : Int) + 1))) := (KbP.refl _ _).setCell (.inl hG.yrb) _
    obtain ⟨W1, hW1⟩ : ∃ x, x = w.setCell ⟨rb, 5, none⟩ (.int .i64 ((s.cnt : Int) + 1)) := ⟨_, rfl⟩
    rw [← hW1] at hG1 hk1
    have p0 : W1.cell? ⟨rb, 0, none⟩ = some (.int .i64 s.pl.crash) := hG1.bk.cell 0
    have p5 : W1.cell? ⟨rb, 5, none⟩ = some (.int .i64 ((s.cnt : Int) + 1)) := hG1.bk.cell 5
    have p2 : W1.cell? ⟨rb, 2, none⟩ = some (.slice R.AF s.pl.fail.length R.cF) := hG1.bk.cell 2
    have HW1 := Lib.hid hW1
    have HG1 := Lib.hid hG1
    have Hk1 := Lib.hid hk1
    have Hcnt := Lib.hid (show Fsy.begin s = if ((s.cnt : Int) + 1) = s.pl.crash then (Fsy.die (count s), 12) else if s.pl.fail.contains ((s.cnt : Int) + 1) then (count s, 10) else (count s, 0) by unfold Fsy.begin; rw [hd, if_neg (by decide)]; rfl)
    have HD := Lib.hid (fun (n : Nat) => c_rDie (W1.drewN n) ⟨R, hG1.below ((below_drewN (Below.refl W1.heap.size W1) n))⟩ hi.count (by omega) hp)
    have HH := Lib.hid (fun (n : Nat) => c_has (W1.drewN n).drew (c := R.cF) (l := s.pl.fail) ((s.cnt : Int) + 1) (hG1.rf.rd.drewN n).drew (Nat.le_refl _) hp.2.1)
    clear hG hG1 hk1 hi hW1 hd
    go_enter Tryz.func81, Tryz.ntmps81
    go_wp2
    rw [← HW1.out]
    obtain ⟨n1, hn1⟩ : ∃ x, x = (s.cnt : Int) + 1 := ⟨_, rfl⟩
    rw [← hn1] at p5 Hcnt HH
    clear hn1 q5 q0 q6 hcB
    by_cases hcr : n1 = s.pl.crash
    · have hb := Hcnt.out
      rw [if_pos hcr] at hb
      have Hb := Lib.hid hb
      rw [← hcr] at p0
      clear hb hcr HH
      go_quiet (fail)
      go_wp2_with (first | (go_at_call 85; refine (HD.out _).mono ?_; rintro e w2 ⟨rfl, J', hr, hg⟩))
      go_ret
      rw [Hb.out]
      exact ⟨rfl, Y, J', hr, (Grow.of_kb (KbP.drewN Hk1.out _)).trans hg⟩
    · have hb := Hcnt.out
      rw [if_neg hcr] at hb
      have hne : (n1 == s.pl.crash) = false := by rw [beq_eq_false_iff_ne]; exact hcr
      clear hcr
      go_quiet (fail)
      go_wp2
      have hHeld : (fun W : World => W.cell? ⟨rb, 2, none⟩ = some (.slice R.AF s.pl.fail.length R.cF) ∧ W.cell? ⟨rb, 5, none⟩ = some (.int .i64 n1)) (W1.drewN nq).drew := ⟨p2, p5⟩
      obtain ⟨v, hv⟩ : ∃ x, x = s.pl.fail.contains n1 := ⟨_, rfl⟩
      rw [← hv] at hb HH
      have Hfin := Lib.hid (show ∀ nq : Nat, RupP Y J w rb (Fsy.begin s) (.returned (.int .i64 (if v = true then 10 else 0))) (W1.drewN nq).drew from fun nq => by
        rw [hb]
        have hr : RfP Y J (W1.drewN nq).drew rb (count s) := ⟨R, HG1.out.below (below_drewN (Below.refl W1.heap.size W1) nq).drew⟩
        cases v with
        | true => exact ⟨rfl, Y, J, hr, Grow.of_kb (KbP.drew (KbP.drewN Hk1.out _))⟩
        | false => exact ⟨rfl, Y, J, hr, Grow.of_kb (KbP.drew (KbP.drewN Hk1.out _))⟩)
      clear hv hb HD
      refine wp_region_held (S := fun W : World => W.cell? ⟨rb, 2, none⟩ = some (.slice R.AF s.pl.fail.length R.cF) ∧ W.cell? ⟨rb, 5, none⟩ = some (.int .i64 n1)) (by kernel_rfl) ?_
      simp only [List.size_toArray, List.length_cons, List.length_nil, Nat.reduceAdd]
      refine heldTake (i := 0) (v := ?_) rfl (by kernel_rfl) (by kernel_rfl) (by kernel_rfl) (fun _ _ _ h => h) hHeld (by rfl) ?_ ?_
      rotate_left
      · (intro w hSw; (try dsimp only at hSw); go_simp; try with_reducible rfl)
      try simp only [Act.put, List.setIfInBounds_toArray, List.set_cons_zero, List.set_cons_succ]
      refine heldTake (i := 1) (v := ?_) rfl (by kernel_rfl) (by kernel_rfl) (by kernel_rfl) (fun _ _ _ h => h) hHeld (by rfl) ?_ ?_
      rotate_left
      · (intro w hSw; (try dsimp only at hSw); go_simp; try with_reducible rfl)
      try simp only [Act.put, List.setIfInBounds_toArray, List.set_cons_zero, List.set_cons_succ]
      refine heldTake (i := 2) (v := ?_) rfl (by kernel_rfl) (by kernel_rfl) (by kernel_rfl) (fun _ _ _ h => h) hHeld (by rfl) ?_ ?_
      rotate_left
      · (intro w hSw; (try dsimp only at hSw); go_simp; try with_reducible rfl)
      try simp only [Act.put, List.setIfInBounds_toArray, List.set_cons_zero, List.set_cons_succ]
      refine heldTake (i := 3) (v := ?_) rfl (by kernel_rfl) (by kernel_rfl) (by kernel_rfl) (fun _ _ _ h => h) hHeld (by rfl) ?_ ?_
      rotate_left
      · (intro w hSw; (try dsimp only at hSw); go_simp; try with_reducible rfl)
      try simp only [Act.put, List.setIfInBounds_toArray, List.set_cons_zero, List.set_cons_succ]
      refine heldTake (i := 4) (v := ?_) rfl (by kernel_rfl) (by kernel_rfl) (by kernel_rfl) (fun _ _ _ h => h) hHeld (by rfl) ?_ ?_
      rotate_left
      · (intro w hSw; (try dsimp only at hSw); go_simp; try with_reducible rfl)
      try simp only [Act.put, List.setIfInBounds_toArray, List.set_cons_zero, List.set_cons_succ]
      refine heldTake (i := 5) (v := ?_) rfl (by kernel_rfl) (by kernel_rfl) (by kernel_rfl) (fun _ _ _ h => h) hHeld (by rfl) ?_ ?_
      rotate_left
      · (intro w hSw; (try dsimp only at hSw); go_simp; try with_reducible rfl)
      try simp only [Act.put, List.setIfInBounds_toArray, List.set_cons_zero, List.set_cons_succ]
      refine heldTake (i := 6) (v := ?_) rfl (by kernel_rfl) (by kernel_rfl) (by kernel_rfl) (fun _ _ _ h => h) hHeld (by rfl) ?_ ?_
      rotate_left
      · (intro w hSw; (try dsimp only at hSw); go_simp; try with_reducible rfl)
      try simp only [Act.put, List.setIfInBounds_toArray, List.set_cons_zero, List.set_cons_succ]
      refine heldTake (i := 7) (v := ?_) rfl (by kernel_rfl) (by kernel_rfl) (by kernel_rfl) (fun _ _ _ h => h) hHeld (by rfl) ?_ ?_
      rotate_left
      · (intro w hSw; (try dsimp only at hSw); go_simp; try with_reducible rfl)
      try simp only [Act.put, List.setIfInBounds_toArray, List.set_cons_zero, List.set_cons_succ]
      refine heldTake (i := 8) (v := ?_) rfl (by kernel_rfl) (by kernel_rfl) (by kernel_rfl) (fun _ _ _ h => h) hHeld (by rfl) ?_ ?_
      rotate_left
      · (intro w hSw; (try dsimp only at hSw); go_simp; try with_reducible rfl)
      try simp only [Act.put, List.setIfInBounds_toArray, List.set_cons_zero, List.set_cons_succ]
      refine heldStep (i := 9) rfl (by kernel_rfl) (fun K hK => ?_)
      go_simp
      go_at_call 93
      refine (HH.out _).mono ?_
      rintro e w1 ⟨rfl, rfl⟩
      refine hK.out _ _ (hHeld) (fun hHeld => ?_)
      clear hK K
      try simp only [Act.put, List.setIfInBounds_toArray, List.set_cons_zero, List.set_cons_succ]
      refine wpAnyH_done (by kernel_rfl) ?_ _
      cases v with
      | true =>
        go_wp2
        go_ret
        exact Hfin.out _
      | false =>
        go_wp2
        go_ret
        exact Hfin.out _
end Go.Proofs.YtaanmnplfppdeaaGreat
/- Layer 1: the document's file system: the directory is synced: the walk of SyncDir. -/
namespace Go.Proofs.YtaanmnplfppdeaaGreat
open Go.RowKit Go.Lec Go.Fsy Go.Op Go.Maps
/-- What is read, and what has been made since. -/
def JG (J : Nat → Prop) (n m : Nat) : Nat → Prop := fun b => J b ∨ (n ≤ b ∧ b < m)
set_option maxRecDepth 100000 in
set_option maxHeartbeats 1600000 in
theorem c_rSyncDir (w : World) {Y J : Nat → Prop} {rb N : Nat} {s : St} (h : RfP Y J w rb s) (hi : Fsy.Inv s N) (hN : N ≤ 1048575) (hp : s.pl.ok) :
    Calls Tryz.prog 55 #[ptrV rb] w (RupP Y J w rb (Fsy.syncDir s)) := by
  have HO := Lib.hid (c_rBegin w h hi hN hp)
  unfold RupP at HO
  have hbi := hi.begin
  have hpb : (Fsy.begin s).1.pl.ok := by rw [begin_pl]; exact hp
  obtain ⟨b, hb⟩ : ∃ x, x = Fsy.begin s := ⟨_, rfl⟩
  have hsd : Fsy.syncDir s = if b.2 ≠ 0 then b else if full b.1 then (b.1, 11) else (Fsy.settle b.1, 0) := by rw [hb]; rfl
  rw [← hb] at HO hbi hpb
  rw [hsd]
  clear hsd hb h hi hp
  unfold ptrV at *
  by_cases hc : b.2 = 0
  · rw [if_neg (by simpa using hc)]
    rw [hc] at HO
    have HF := Lib.hid (fun (W : World) (Y1 J1 : Nat → Prop) (hP : RfP Y1 J1 W rb b.1) => c_rFull W hP hpb)
    unfold ptrV at HF
    obtain ⟨v, hv⟩ : ∃ v, v = full b.1 := ⟨_, rfl⟩
    rw [← hv] at HF ⊢
    have hdl := hbi.nDir
    clear hc hv
    cases v with
    | true =>
      go_enter Tryz.func55, Tryz.ntmps55
      go_wp2_with (first | (go_at_call 81; refine HO.out.mono ?_; rintro e w1 ⟨rfl, Y1, J1, hP, hg1⟩) | (go_at_call 83; refine (HF.out w1 Y1 J1 hP).mono ?_; rintro e w2 ⟨rfl, hb2⟩))
      go_ret
      exact ⟨rfl, Y1, J1, hP.below hb2, hg1.trans (Grow.of_kb (KbP.of_below hb2))⟩
    | false =>
      go_enter Tryz.func55, Tryz.ntmps55
      go_wp2_with (first
          | (go_at_call 81; refine HO.out.mono ?_; rintro e w1 ⟨rfl, Y1, J1, hP, hg1⟩)
          | (go_at_call 83; refine (HF.out w1 Y1 J1 hP).mono ?_; rintro e w2 ⟨rfl, hb2⟩; obtain ⟨R, hG2⟩ := hP.below hb2; have q8 : w2.cell? ⟨rb, 8, none⟩ = some (.slice R.dA b.1.dir.length R.dc) := hG2.bk.cell 8; have hrd := Lib.hid hG2.dir.rd)
          | (at_builtin; refine wpList_appK_sl (w0 := w2) (base := w2.heap.size) rfl _ _ rfl slnm (by decide) rfl (OwnK.nil_ _ _ _ _) (Below.refl _ _) (Nat.le_refl _) rfl hrd.out (fun u hu => by obtain ⟨x, _, hx⟩ := List.mem_flatMap.1 hu; exact nmCs_one x u hx) (by rw [Nat.zero_add]; omega) ?_
             intro v5 w5 ho5 hb5 hg5 hs5
             rw [Nat.zero_add, List.nil_append] at ho5
             obtain ⟨A5, c5, rfl, hc5⟩ := ho5.shape
             have hG5 := hG2.below hb5
             have z9 := hG5.bk.frz 9
             have z10 := hG5.bk.frz 10
             have q9 := hG5.bk.cell 9
             have q10 := hG5.bk.cell 10
             unfold rfCs at q9 q10))
      go_ret
      have hk := ((KbP.refl (fun b => b = rb) w5).setCell (p := ⟨rb, 9, none⟩) (.inl rfl) (.slice A5 b.1.dir.length c5)).setCell (p := ⟨rb, 10, none⟩) (.inl rfl) (.slice none 0 0)
      have hlt2 := hG2.lt
      have hs25 : w2.heap.size ≤ w5.heap.size := hb5.size
      have hgY : ∀ x, JG J1 w2.heap.size w5.heap.size x → ¬ Y1 x := by
        rintro x (hx | hx) hy
        · exact hG2.yj x hx hy
        · have := hlt2 x (.inl hy); omega
      have hrow : RdKP (JG J1 w2.heap.size w5.heap.size) w5 2 A5 b.1.dir.length (b.1.dir.flatMap nmCs) := (RdKP.new_ ho5).more fun x hx => .inr hx
      have hgR : ∀ x, JG J1 w2.heap.size w5.heap.size x → ¬ x = rb := fun x hx e => hgY x hx (e ▸ hG5.yrb)
      have hF := hG5.turnRb (J' := JG J1 w2.heap.size w5.heap.size) (c := b.1.cnt) (d := b.1.died) (dr := b.1.dir) (sf := b.1.dir) (ms := []) (dA := R.dA) (dc := R.dc) (sA := A5) (sc := c5) (mv := .slice none 0 0) hk (fun x hx => .inl hx) hgY
        (by rintro x (hx | hx)
            · have := hlt2 x (.inr hx); simp; omega
            · simpa using hx.2)
        ((hG5.bk.set_ 9 _).set_ 10 _) ((hG5.dir.kbP hk hG5.rbJ).more fun x hx => .inl hx) (RdKP.kbP hrow hk hgR) (OwnK.nil_ _ _ _ _) (fun g hg => by cases hg)
      refine ⟨rfl, Y1, JG J1 w2.heap.size w5.heap.size, ⟨_, hF⟩, hg1.trans ⟨fun x hx => .inl hx, fun x hx => hx.imp_right fun h => Nat.le_trans hb2.size h.1, ?_⟩⟩
      exact (((KbP.of_below hb2 : KbP Y1 w1 w2).after hb5).trans hk fun x hx => .inl (by rw [hx]; exact hG5.yrb))
  · rw [if_pos hc]
    obtain ⟨st, cd⟩ := b
    simp only at hc HO
    have hcd : (cd == 0) = false := by rw [beq_eq_false_iff_ne]; exact hc
    go_enter Tryz.func55, Tryz.ntmps55
    go_wp2_with (first | (go_at_call 81; refine HO.out.mono ?_; rintro e w1 ⟨rfl, Y1, J1, hP, hg1⟩))
    go_ret
    exact ⟨rfl, Y1, J1, hP, hg1⟩
end Go.Proofs.YtaanmnplfppdeaaGreat
/- Layer 1: the document's file system: a file's node; its size: the walk of Size. -/
namespace Go.Proofs.YtaanmnplfppdeaaGreat
open Go.RowKit Go.Lec Go.Fsy Go.Op Go.Maps
/-- Where a file's node lies, and what it holds. -/
theorem RfG.nodeAt {Y J : Nat → Prop} {w : World} {rb i : Nat} {s : St} {R : RGeo} (h : RfG Y J w rb s R) (hi : i < s.nodes.length) :
    ∃ g c x, R.nv = .slice (some ⟨g, 0, none⟩) s.nodes.length c ∧ s.nodes.length ≤ c ∧ w.cell? ⟨g, i * 2, none⟩ = some (.slice x.A x.sf.length x.c) ∧ w.cell? ⟨g, i * 2 + 1, none⟩ = some (.slice x.A2 x.L.length x.c2) ∧ x.nd = Fsy.ndAt s.nodes i ∧ x.ok J w ∧ R.NL[i]? = some x := by
  obtain ⟨g, c, hv, hc⟩ := ownK_ptr h.nodes (show 0 < s.nodes.length by omega)
  obtain ⟨x, hxe, hxn, hxo⟩ := h.ndAt hi
  have hO := h.nodes
  rw [hv] at hO
  have hl := h.nlen
  obtain ⟨b', o', hA, _, hcell⟩ := rdK_at NR.cs_len (OwnK.rd hO) (k := i) (by omega) hl (by decide)
  cases hA
  have hiN : i < R.NL.length := by omega
  have hx2 := hxe
  rw [List.getElem?_eq_getElem hiN] at hx2
  rw [Option.some.inj hx2] at hcell
  have hcl := hcell w (Below.refl _ _)
  simp only [Nat.zero_add] at hcl
  exact ⟨g, c, x, hv, hc, hcl 0 _ rfl, hcl 1 _ rfl, hxn, hxo, hxe⟩
set_option maxRecDepth 100000 in
set_option maxHeartbeats 1600000 in
theorem c_rSize (w : World) {Y J : Nat → Prop} {rb N : Nat} {s : St} {name : Bs} (h : RfP Y J w rb s) (hi : Fsy.Inv s N) (hN : N ≤ 1048576) :
    Calls Tryz.prog 23 #[ptrV rb, .string ⟨name.toArray⟩] w fun e w' => e = .returned (.tuple #[.int .i64 (Fsy.size s name).1, .int .i64 (Fsy.size s name).2]) ∧ Below w.heap.size w w' := by
  obtain ⟨R, hG⟩ := h
  have q6 : w.cell? ⟨rb, 6, none⟩ = some (.bool s.died) := hG.bk.cell 6
  have HN := Lib.hid (c_rNode w (n := name) ⟨R, hG⟩ (by have := hi.nDir; omega))
  have hsz := fun i => hi.size i
  unfold ptrV at *
  cases hd : s.died with
  | true =>
    have hs : Fsy.size s name = (0, 12) := by unfold Fsy.size; rw [hd]; rfl
    have Hs := Lib.hid hs
    rw [hd] at q6
    clear hG HN hs hd
    go_enter Tryz.func23, Tryz.ntmps23
    go_wp2
    go_ret2
    exact ⟨by rw [Hs.out]; rfl, Below.refl _ _⟩
  | false =>
    rw [hd] at q6
    cases hnd : node s.dir name with
    | none =>
      have hs : Fsy.size s name = (0, 14) := by unfold Fsy.size; rw [hd, hnd]; rfl
      have Hs := Lib.hid hs
      rw [show nodeI s.dir name = -1 by unfold nodeI; rw [hnd]] at HN
      clear hG hs hd hnd
      go_enter Tryz.func23, Tryz.ntmps23
      go_wp2_with (first | (go_at_call 43; refine HN.out.mono ?_; rintro e w1 ⟨rfl, hb1⟩))
      go_ret2
      exact ⟨by rw [Hs.out]; rfl, hb1⟩
    | some i =>
      have hs : Fsy.size s name = ((sizeAt s i : Int), 0) := by unfold Fsy.size; rw [hd, hnd]; rfl
      have Hs := Lib.hid hs
      rw [show nodeI s.dir name = (i : Int) by unfold nodeI; rw [hnd]] at HN
      have hil : i < s.nodes.length := (hi.dir.2 _ (node_some hnd)).2.2
      have hnd2 := hi.nd i
      obtain ⟨nn, hnn⟩ : ∃ x, x = s.nodes.length := ⟨_, rfl⟩
      have Hnn := Lib.hid hnn
      have hil2 : (i : Int) < (nn : Int) := by omega
      have HG := Lib.hid hG
      have Hnd2 := Lib.hid hnd2
      clear hG hs hd hnd hnd2 hnn
      go_enter Tryz.func23, Tryz.ntmps23
      go_wp2_with (first
          | (go_at_call 43; refine HN.out.mono ?_; rintro e w1 ⟨rfl, hb1⟩
             have hG1 := HG.out.below hb1
             obtain ⟨g, c, x, hnv, hnc, g0, g1, hxn, hxo, _⟩ := hG1.nodeAt hil
             have q7 : w1.cell? ⟨rb, 7, none⟩ = some (.slice (some ⟨g, 0, none⟩) nn c) := by rw [Hnn.out, ← hnv]; exact hG1.bk.cell 7
             have hnc2 : (nn : Int) ≤ (c : Int) := by have := Hnn.out; omega
             have HD := Lib.hid (c_rData w1 hxo (by have h := Hnd2.out.1; rw [← hxn] at h; exact h) (by have h := Hnd2.out.2; rw [← hxn] at h; simp only [NR.nd, List.length_map] at h; omega))
             unfold TwB NR.cs at HD
             have Hxn := Lib.hid hxn
             clear hxn hnv)
          | (go_at_call 44; refine HD.out.mono ?_; rintro e w2 ⟨A2, c2, rfl, hc2, ho2, hb2⟩))
      go_ret2
      exact ⟨by rw [Hs.out]; unfold sizeAt; rw [← Hxn.out]; rfl, hb1.trans (hb2.mono hb1.size)⟩
end Go.Proofs.YtaanmnplfppdeaaGreat
/- Layer 1: the document's file system: a move is noted: what may turn. -/
namespace Go.Proofs.YtaanmnplfppdeaaGreat
open Go.RowKit Go.Lec Go.Fsy Go.Op Go.Maps
section
variable {Y J : Nat → Prop} {w w' : World} {rb : Nat} {s : St} {R : RGeo}
/-- The directory is another, in a row that is new. -/
theorem RfG.setDirG (h : RfG Y J w rb s R) {l : Dir} {A : Option Addr} {c B : Nat} (ho : OwnK w B 139 2 (.slice A l.length c) l.length (l.flatMap nmCs)) (hB : ∀ b, Y b → b < B) :
    RfG Y (JG J B w.heap.size) (w.setCell ⟨rb, 8, none⟩ (.slice A l.length c)) rb { s with dir := l } { R with dA := A, dc := c } := by
  have hk := (KbP.refl (fun b => b = rb) w).setCell (p := ⟨rb, 8, none⟩) (.inl rfl) (.slice A l.length c)
  have hy : ∀ b, JG J B w.heap.size b → ¬ Y b := by
    rintro b (hb | hb) hY
    · exact h.yj b hb hY
    · have := hB b hY; omega
  refine h.turnRb (J' := JG J B w.heap.size) (c := s.cnt) (d := s.died) (sf := s.safe) (ms := s.mvs) (sA := R.sA) (sc := R.sc) (mv := R.mv) hk (fun b hb => .inl hb) hy ?_ (h.bk.set_ 8 _) ?_ ((h.safe.kbP hk h.rbJ).more fun b hb => .inl hb) (OwnK.kbP h.mvs hk h.rbM) h.ymv
  · rintro b (hb | hb)
    · have := h.lt b (.inr hb); simpa using this
    · simpa using hb.2
  · exact RdKP.kbP (RdKP.more (RdKP.new_ ho) fun b hb => .inr hb) hk fun b hb e => hy b hb (e ▸ h.yrb)
/-- A move is noted. -/
theorem RfG.addMove (h : RfG Y J w rb s R) {m : Mv} {v : Value} (ho : OwnK w' 0 143 4 v (s.mvs.length + 1) (s.mvs.flatMap rmCs ++ rmCs m)) (hg : w.grownBy w' R.mv.ownBlock) (hat : v.ownBlock = R.mv.ownBlock ∨ ∃ g, v.ownBlock = some g ∧ w.heap.size ≤ g) :
    RfG (fun b => Y b ∨ v.ownBlock = some b) J (w'.setCell ⟨rb, 10, none⟩ v) rb { s with mvs := s.mvs ++ [m] } { R with mv := v } := by
  have hk1 : KbP (fun b => R.mv.ownBlock = some b) w w' := KbP.of_grown hg (fun g e => e)
  have hk : KbP (fun b => R.mv.ownBlock = some b ∨ b = rb) w (w'.setCell ⟨rb, 10, none⟩ v) := (hk1.more fun b hb => .inl hb).setCell (p := ⟨rb, 10, none⟩) (.inl (.inr rfl)) v
  have hB1 : Bk w' rb 95 (rfCs s R) := h.bk.kbP hk1 (fun e => h.rbM _ e rfl)
  have hJ : ∀ b, J b → ¬ (R.mv.ownBlock = some b ∨ b = rb) := fun b hb => by
    rintro (e | e)
    · exact h.yj b hb (h.ymv b e)
    · exact h.rbJ b hb e
  refine ⟨hB1.set_ 10 v, h.rk.kbP hk hJ, h.rf.kbP hk hJ, h.ru.kbP hk hJ, h.nk, h.nf, h.nu, OwnK.kbP h.nodes hk (fun g hgn => ?_), h.nl, fun x hx => (h.nok x hx).kbP hk hJ, h.dir.kbP hk hJ, h.safe.kbP hk hJ, ?_, .inl h.yrb, fun g hg => .inl (h.ynv g hg), fun g hg => .inr hg, ?_, ?_⟩
  · rintro (e | e)
    · exact own_own h.nodes h.mvs (by decide) g hgn e
    · exact h.rbN g hgn e
  · have h2 := OwnK.kbP ho ((KbP.refl (fun b => b = rb) w').setCell (p := ⟨rb, 10, none⟩) (.inl rfl) v) (fun g hg e => own_bkK ho hB1 (by decide) (e ▸ hg))
    show OwnK _ 0 _ 4 v (s.mvs ++ [m]).length ((s.mvs ++ [m]).flatMap rmCs)
    rw [List.length_append, List.length_singleton, List.flatMap_append, List.flatMap_singleton]
    exact h2
  · rintro b hb (hy | hv)
    · exact h.yj b hb hy
    · rcases hat with e | ⟨g, e, hge⟩
      · exact h.yj b hb (h.ymv b (e ▸ hv))
      · have := h.lt b (.inr hb)
        rw [e] at hv
        cases hv
        omega
  · intro b hb
    have hs := hk.size
    rcases hb with (hb | hb) | hb
    · exact Nat.lt_of_lt_of_le (h.lt b (.inl hb)) hs
    · have := (World.ownsRow.lt ho b hb).2; simpa using this
    · exact Nat.lt_of_lt_of_le (h.lt b (.inr hb)) hs
end
end Go.Proofs.YtaanmnplfppdeaaGreat
/- Layer 1: the document's file system: a file is removed: the walk of Remove. -/
namespace Go.Proofs.YtaanmnplfppdeaaGreat
open Go.RowKit Go.Lec Go.Fsy Go.Op Go.Maps
set_option maxRecDepth 100000 in
set_option maxHeartbeats 1600000 in
theorem c_rRemove (w : World) {Y J : Nat → Prop} {rb N : Nat} {s : St} {name : Bs} (h : RfP Y J w rb s) (hi : Fsy.Inv s N) (hN : N ≤ 1048574) (hp : s.pl.ok) :
    Calls Tryz.prog 54 #[ptrV rb, .string ⟨name.toArray⟩] w (RupP Y J w rb (Fsy.remove s name)) := by
  have HO := Lib.hid (c_rBegin w h hi (by omega) hp)
  unfold RupP at HO
  have hbi := hi.begin
  obtain ⟨b, hb⟩ : ∃ x, x = Fsy.begin s := ⟨_, rfl⟩
  have hsd : Fsy.remove s name = if b.2 ≠ 0 then b else match node b.1.dir name with | none => (b.1, 14) | some _ => (Fsy.step b.1 (.rem name), 0) := by rw [hb]; rfl
  rw [← hb] at HO hbi
  rw [hsd]
  clear hsd hb h hi hp
  have hdl := hbi.nDir
  have hml := hbi.nSafe
  by_cases hc : b.2 = 0
  · rw [if_neg (by simpa using hc)]
    rw [hc] at HO
    have HND := Lib.hid (fun (W : World) (Y1 J1 : Nat → Prop) (hP : RfP Y1 J1 W rb b.1) => c_rNode W (n := name) hP (by omega))
    unfold ptrV at *
    cases hnd : node b.1.dir name with
    | none =>
      rw [show nodeI b.1.dir name = -1 by unfold nodeI; rw [hnd]] at HND
      clear hc hnd
      go_enter Tryz.func54, Tryz.ntmps54
      go_wp2_with (first | (go_at_call 81; refine HO.out.mono ?_; rintro e w1 ⟨rfl, Y1, J1, hP, hg1⟩) | (go_at_call 43; refine (HND.out w1 Y1 J1 hP).mono ?_; rintro e w2 ⟨rfl, hb2⟩))
      go_ret
      exact ⟨rfl, Y1, J1, hP.below hb2, hg1.trans (Grow.of_kb (KbP.of_below hb2))⟩
    | some i =>
      rw [show nodeI b.1.dir name = (i : Int) by unfold nodeI; rw [hnd]] at HND
      clear hc hnd
      go_enter Tryz.func54, Tryz.ntmps54
      go_wp2_with (first | (go_at_call 81; refine HO.out.mono ?_; rintro e w1 ⟨rfl, Y1, J1, hP, hg1⟩) | (go_at_call 43; refine (HND.out w1 Y1 J1 hP).mono ?_; rintro e w2 ⟨rfl, hb2⟩))
      obtain ⟨R, hG2⟩ := hP.below hb2
      obtain ⟨dl, hdlE⟩ : ∃ x, x = b.1.dir.length := ⟨_, rfl⟩
      have HdlE := Lib.hid hdlE
      have hb3 := (Below.refl w2.heap.size w2).alloc (Nat.le_refl _) (.cells (rmCs (.rem name)).toArray 143)
      have hG3 := hG2.below hb3.drew
      have hP3 := (Bk.new_ w2 143 (rmCs (.rem name)).toArray).drew
      have HM := Lib.hid (c_rMoved _ (c := R.dc) (.rem name) hG3.dir.rd (Nat.le_refl _) (by omega))
      unfold rmCs svl DirP at *
      have q8 := hG3.bk.cell 8
      unfold rfCs at q8
      rw [← hdlE] at q8 HM
      have p := hP3.cell
      have HG3 := Lib.hid hG3
      have HP3 := Lib.hid hP3
      clear hG3 hP3 hdlE
      have hHeld : (fun W : World => W.cell? ⟨rb, 8, none⟩ = some (.slice R.dA dl R.dc) ∧ W.cell? ⟨w2.heap.size, 0, none⟩ = some (.int .i64 3) ∧ W.cell? ⟨w2.heap.size, 1, none⟩ = some (.string ⟨name.toArray⟩) ∧ W.cell? ⟨w2.heap.size, 2, none⟩ = some (.string ⟨#[]⟩) ∧ W.cell? ⟨w2.heap.size, 3, none⟩ = some (.int .i64 0)) (w2.alloc (.cells #[.int .i64 3, .string ⟨name.toArray⟩, .string ⟨#[]⟩, .int .i64 0] 143)).drew := ⟨q8, p 0, p 1, p 2, p 3⟩
      refine wp_region_T (S := fun W : World => W.cell? ⟨rb, 8, none⟩ = some (.slice R.dA dl R.dc) ∧ W.cell? ⟨w2.heap.size, 0, none⟩ = some (.int .i64 3) ∧ W.cell? ⟨w2.heap.size, 1, none⟩ = some (.string ⟨name.toArray⟩) ∧ W.cell? ⟨w2.heap.size, 2, none⟩ = some (.string ⟨#[]⟩) ∧ W.cell? ⟨w2.heap.size, 3, none⟩ = some (.int .i64 0)) (m := 9) (by kernel_rfl) ?_
      simp only [List.size_toArray, List.length_cons, List.length_nil, Nat.reduceAdd]
      refine tTake (i := 0) (v := ?_) rfl (by kernel_rfl) (by kernel_rfl) (by kernel_rfl) (by kernel_rfl) (fun _ _ _ h => h) hHeld (by rfl) ?_ ?_
      rotate_left
      · (intro w hSw; (try dsimp only at hSw); go_simp; try with_reducible rfl)
      try simp only [Act.put, List.setIfInBounds_toArray, List.set_cons_zero, List.set_cons_succ]
      refine tTake (i := 1) (v := ?_) rfl (by kernel_rfl) (by kernel_rfl) (by kernel_rfl) (by kernel_rfl) (fun _ _ _ h => h) hHeld (by rfl) ?_ ?_
      rotate_left
      · (intro w hSw; (try dsimp only at hSw); go_simp; try with_reducible rfl)
      try simp only [Act.put, List.setIfInBounds_toArray, List.set_cons_zero, List.set_cons_succ]
      refine tTake (i := 2) (v := ?_) rfl (by kernel_rfl) (by kernel_rfl) (by kernel_rfl) (by kernel_rfl) (fun _ _ _ h => h) hHeld (by rfl) ?_ ?_
      rotate_left
      · (intro w hSw; (try dsimp only at hSw); go_simp; try with_reducible rfl)
      try simp only [Act.put, List.setIfInBounds_toArray, List.set_cons_zero, List.set_cons_succ]
      refine tTake (i := 3) (v := ?_) rfl (by kernel_rfl) (by kernel_rfl) (by kernel_rfl) (by kernel_rfl) (fun _ _ _ h => h) hHeld (by rfl) ?_ ?_
      rotate_left
      · (intro w hSw; (try dsimp only at hSw); go_simp; try with_reducible rfl)
      try simp only [Act.put, List.setIfInBounds_toArray, List.set_cons_zero, List.set_cons_succ]
      refine tTake (i := 4) (v := ?_) rfl (by kernel_rfl) (by kernel_rfl) (by kernel_rfl) (by kernel_rfl) (fun _ _ _ h => h) hHeld (by rfl) ?_ ?_
      rotate_left
      · (intro w hSw; (try dsimp only at hSw); go_simp; try with_reducible rfl)
      try simp only [Act.put, List.setIfInBounds_toArray, List.set_cons_zero, List.set_cons_succ]
      refine tTake (i := 5) (v := ?_) rfl (by kernel_rfl) (by kernel_rfl) (by kernel_rfl) (by kernel_rfl) (fun _ _ _ h => h) hHeld (by rfl) ?_ ?_
      rotate_left
      · (intro w hSw; (try dsimp only at hSw); go_simp; try with_reducible rfl)
      try simp only [Act.put, List.setIfInBounds_toArray, List.set_cons_zero, List.set_cons_succ]
      refine tStep (i := 6) rfl (by kernel_rfl) (fun K hK => ?_)
      go_simp
      go_at_call 84
      refine HM.out.mono ?_
      rintro e w4 ⟨A4, c4, rfl, hc4, ho4, hb4⟩
      have hG4 := HG3.out.below hb4
      have hP4 := HP3.out.below hb4 (by simp)
      have p4 := hP4.cell
      have q84 : w4.cell? ⟨rb, 8, none⟩ = some (.slice R.dA dl R.dc) := by rw [HdlE.out]; exact hG4.bk.cell 8
      have z84 := hG4.bk.frz 8
      have hHeldN : (fun W : World => W.cell? ⟨rb, 8, none⟩ = some (.slice R.dA dl R.dc) ∧ W.cell? ⟨w2.heap.size, 0, none⟩ = some (.int .i64 3) ∧ W.cell? ⟨w2.heap.size, 1, none⟩ = some (.string ⟨name.toArray⟩) ∧ W.cell? ⟨w2.heap.size, 2, none⟩ = some (.string ⟨#[]⟩) ∧ W.cell? ⟨w2.heap.size, 3, none⟩ = some (.int .i64 0)) _ := ⟨q84, p4 0, p4 1, p4 2, p4 3⟩
      refine hK.out _ _ (fun _ => hHeldN) ?_
      clear hK K hHeld
      have hHeld := hHeldN
      clear hHeldN
      try simp only [Act.put, List.setIfInBounds_toArray, List.set_cons_zero, List.set_cons_succ]
      refine tStep (i := 7) rfl (by kernel_rfl) (fun K hK => ?_)
      go_simp
      have hHeldN : (fun W : World => W.cell? ⟨rb, 8, none⟩ = some (.slice R.dA dl R.dc) ∧ W.cell? ⟨w2.heap.size, 0, none⟩ = some (.int .i64 3) ∧ W.cell? ⟨w2.heap.size, 1, none⟩ = some (.string ⟨name.toArray⟩) ∧ W.cell? ⟨w2.heap.size, 2, none⟩ = some (.string ⟨#[]⟩) ∧ W.cell? ⟨w2.heap.size, 3, none⟩ = some (.int .i64 0)) _ := hHeld
      refine hK.out _ _ (fun _ => hHeldN) ?_
      clear hK K hHeld
      have hHeld := hHeldN
      clear hHeldN
      try simp only [Act.put, List.setIfInBounds_toArray, List.set_cons_zero, List.set_cons_succ]
      refine tStep (i := 8) rfl (by kernel_rfl) (fun K hK => ?_)
      go_simp
      have hHeldN : (fun W : World => W.cell? ⟨rb, 8, none⟩ = some (.slice R.dA dl R.dc) ∧ W.cell? ⟨w2.heap.size, 0, none⟩ = some (.int .i64 3) ∧ W.cell? ⟨w2.heap.size, 1, none⟩ = some (.string ⟨name.toArray⟩) ∧ W.cell? ⟨w2.heap.size, 2, none⟩ = some (.string ⟨#[]⟩) ∧ W.cell? ⟨w2.heap.size, 3, none⟩ = some (.int .i64 0)) _ := hHeld
      refine hK.out _ _ (fun _ => hHeldN) ?_
      clear hK K hHeld
      have hHeld := hHeldN
      clear hHeldN
      try simp only [Act.put, List.setIfInBounds_toArray, List.set_cons_zero, List.set_cons_succ]
      refine tStep (i := 9) rfl (by kernel_rfl) (fun K hK => ?_)
      go_simp
      refine hK.out _ _ (fun h => absurd h (by decide)) ?_
      clear hK K
      try simp only [Act.put, List.setIfInBounds_toArray, List.set_cons_zero, List.set_cons_succ]
      refine tDone (by kernel_rfl) ?_ _
      have hYB : ∀ x, Y1 x → x < (w2.alloc (.cells #[.int .i64 3, .string ⟨name.toArray⟩, .string ⟨#[]⟩, .int .i64 0] 143)).drew.heap.size := fun x hx => HG3.out.lt x (.inl hx)
      have hG5 := hG4.setDirG ho4 hYB
      have hP5 := hP4.far (p := ⟨rb, 8, none⟩) (fun e => by have := hYB _ hG4.yrb; have h9 := HG3.out.lt rb (.inl hG4.yrb); have h8 := hG2.lt rb (.inl hG2.yrb); have : w2.heap.size = rb := e; omega) (.slice A4 (moved b.1.dir (.rem name)).length c4)
      obtain ⟨w5, hw5⟩ : ∃ x, x = w4.setCell ⟨rb, 8, none⟩ (.slice A4 (moved b.1.dir (.rem name)).length c4) := ⟨_, rfl⟩
      rw [← hw5] at hG5 hP5
      have hk25 : KbP Y1 w2 w5 := by
        rw [hw5]
        exact ((KbP.of_below hb3.drew).after hb4).setCell (p := ⟨rb, 8, none⟩) (.inl hG4.yrb) _
      have h24 : w2.heap.size ≤ w4.heap.size := by have := hb4.size; simp at this; omega
      have Hw5 := Lib.hid hw5
      obtain ⟨Am, cm, hmv, hcm⟩ := hG5.mvs.shape
      change R.mv = .slice Am b.1.mvs.length cm at hmv
      obtain ⟨nm, hnm⟩ : ∃ x, x = b.1.mvs.length := ⟨_, rfl⟩
      have q10 : w5.cell? ⟨rb, 10, none⟩ = some (.slice Am nm cm) := by rw [hnm, ← hmv]; exact hG5.bk.cell 10
      have p5 := hP5.cell
      have hmo : OwnK w5 0 143 4 (.slice Am nm cm) nm (b.1.mvs.flatMap rmCs) := by rw [hnm, ← hmv]; exact hG5.mvs
      have Hnm := Lib.hid hnm
      have Hmv := Lib.hid hmv
      clear hHeld hw5 hnm hmv q84 z84 p4 q8 p
      go_wp2
      rw [← Hw5.out]
      have hHeld : (fun W : World => W.cell? ⟨rb, 10, none⟩ = some (.slice Am nm cm) ∧ W.cell? ⟨w2.heap.size, 0, none⟩ = some (.int .i64 3) ∧ W.cell? ⟨w2.heap.size, 1, none⟩ = some (.string ⟨name.toArray⟩) ∧ W.cell? ⟨w2.heap.size, 2, none⟩ = some (.string ⟨#[]⟩) ∧ W.cell? ⟨w2.heap.size, 3, none⟩ = some (.int .i64 0)) w5.drew := ⟨q10, p5 0, p5 1, p5 2, p5 3⟩
      refine wp_region_T (S := fun W : World => W.cell? ⟨rb, 10, none⟩ = some (.slice Am nm cm) ∧ W.cell? ⟨w2.heap.size, 0, none⟩ = some (.int .i64 3) ∧ W.cell? ⟨w2.heap.size, 1, none⟩ = some (.string ⟨name.toArray⟩) ∧ W.cell? ⟨w2.heap.size, 2, none⟩ = some (.string ⟨#[]⟩) ∧ W.cell? ⟨w2.heap.size, 3, none⟩ = some (.int .i64 0)) (m := 8) (by kernel_rfl) ?_
      simp only [List.size_toArray, List.length_cons, List.length_nil, Nat.reduceAdd]
      refine tTake (i := 0) (v := ?_) rfl (by kernel_rfl) (by kernel_rfl) (by kernel_rfl) (by kernel_rfl) (fun _ _ _ h => h) hHeld (by rfl) ?_ ?_
      rotate_left
      · (intro w hSw; (try dsimp only at hSw); go_simp; try with_reducible rfl)
      try simp only [Act.put, List.setIfInBounds_toArray, List.set_cons_zero, List.set_cons_succ]
      refine tTake (i := 1) (v := ?_) rfl (by kernel_rfl) (by kernel_rfl) (by kernel_rfl) (by kernel_rfl) (fun _ _ _ h => h) hHeld (by rfl) ?_ ?_
      rotate_left
      · (intro w hSw; (try dsimp only at hSw); go_simp; try with_reducible rfl)
      try simp only [Act.put, List.setIfInBounds_toArray, List.set_cons_zero, List.set_cons_succ]
      refine tTake (i := 2) (v := ?_) rfl (by kernel_rfl) (by kernel_rfl) (by kernel_rfl) (by kernel_rfl) (fun _ _ _ h => h) hHeld (by rfl) ?_ ?_
      rotate_left
      · (intro w hSw; (try dsimp only at hSw); go_simp; try with_reducible rfl)
      try simp only [Act.put, List.setIfInBounds_toArray, List.set_cons_zero, List.set_cons_succ]
      refine tTake (i := 3) (v := ?_) rfl (by kernel_rfl) (by kernel_rfl) (by kernel_rfl) (by kernel_rfl) (fun _ _ _ h => h) hHeld (by rfl) ?_ ?_
      rotate_left
      · (intro w hSw; (try dsimp only at hSw); go_simp; try with_reducible rfl)
      try simp only [Act.put, List.setIfInBounds_toArray, List.set_cons_zero, List.set_cons_succ]
      refine tTake (i := 4) (v := ?_) rfl (by kernel_rfl) (by kernel_rfl) (by kernel_rfl) (by kernel_rfl) (fun _ _ _ h => h) hHeld (by rfl) ?_ ?_
      rotate_left
      · (intro w hSw; (try dsimp only at hSw); go_simp; try with_reducible rfl)
      try simp only [Act.put, List.setIfInBounds_toArray, List.set_cons_zero, List.set_cons_succ]
      refine tTake (i := 5) (v := ?_) rfl (by kernel_rfl) (by kernel_rfl) (by kernel_rfl) (by kernel_rfl) (fun _ _ _ h => h) hHeld (by rfl) ?_ ?_
      rotate_left
      · (intro w hSw; (try dsimp only at hSw); go_simp; try with_reducible rfl)
      try simp only [Act.put, List.setIfInBounds_toArray, List.set_cons_zero, List.set_cons_succ]
      refine tStep (i := 6) rfl (by kernel_rfl) (fun K hK => ?_)
      go_simp
      have hb6 := ((Below.refl w5.heap.size w5).alloc (Nat.le_refl _) (.cells #[.int .i64 3, .string ⟨name.toArray⟩, .string ⟨#[]⟩, .int .i64 0] 143)).drew
      have hN6 := (Bk.new_ w5 143 #[.int .i64 3, .string ⟨name.toArray⟩, .string ⟨#[]⟩, .int .i64 0]).drew
      obtain ⟨w6, hw6⟩ : ∃ x, x = (w5.alloc (.cells #[.int .i64 3, .string ⟨name.toArray⟩, .string ⟨#[]⟩, .int .i64 0] 143)).drew := ⟨_, rfl⟩
      rw [← hw6] at hb6 hN6 ⊢
      clear hw6
      have hG6 := hG5.below hb6
      have hP6 := hP5.below hb6 hP5.lt
      have p6 := hP6.cell
      have q6 : w6.cell? ⟨rb, 10, none⟩ = some (.slice Am nm cm) := by rw [Hnm.out, ← Hmv.out]; exact hG6.bk.cell 10
      have hmo6 : OwnK w6 0 143 4 (.slice Am nm cm) nm (b.1.mvs.flatMap rmCs) := by rw [Hnm.out, ← Hmv.out]; exact hG6.mvs
      have hHeldN : (fun W : World => W.cell? ⟨rb, 10, none⟩ = some (.slice Am nm cm) ∧ W.cell? ⟨w2.heap.size, 0, none⟩ = some (.int .i64 3) ∧ W.cell? ⟨w2.heap.size, 1, none⟩ = some (.string ⟨name.toArray⟩) ∧ W.cell? ⟨w2.heap.size, 2, none⟩ = some (.string ⟨#[]⟩) ∧ W.cell? ⟨w2.heap.size, 3, none⟩ = some (.int .i64 0)) _ := ⟨q6, p6 0, p6 1, p6 2, p6 3⟩
      refine hK.out _ _ (fun _ => hHeldN) ?_
      clear hK K hHeld
      have hHeld := hHeldN
      clear hHeldN
      try simp only [Act.put, List.setIfInBounds_toArray, List.set_cons_zero, List.set_cons_succ]
      refine tStep (i := 7) rfl (by kernel_rfl) (fun K hK => ?_)
      refine at_app (.tmp 31) (.tmp 33) ?_
      refine stepK_new rfl (.tmp 31) (.tmp 33) rfl slrm (by decide) rfl hmo6 (Nat.zero_le _) rfl (news := rmCs (.rem name)) rfl (fun j u hu => by rw [Nat.zero_add]; exact (hN6.cell j).trans (by simpa [rmCs, svl] using hu)) (rmCs_one _) (by have := Hnm.out; omega) ?_
      intro v8 w8 ho8 hb8 hg8 hat8
      replace hg8 : w6.grownBy w8 (Value.slice Am nm cm).ownBlock := hg8
      replace hat8 : v8.ownBlock = (Value.slice Am nm cm).ownBlock ∨ ∃ g, v8.ownBlock = some g ∧ w6.heap.size ≤ g := hat8
      have hown : R.mv.ownBlock = (Value.slice Am nm cm).ownBlock := by rw [Hmv.out, Hnm.out]
      have ho8' : OwnK w8 0 143 4 v8 (b.1.mvs.length + 1) (b.1.mvs.flatMap rmCs ++ rmCs (.rem name)) := by rw [← Hnm.out]; exact ho8
      have hF := RfG.addMove (m := .rem name) hG6 ho8' (by show w6.grownBy w8 R.mv.ownBlock; rw [hown]; exact hg8) (by show _ = R.mv.ownBlock ∨ _; rw [hown]; exact hat8)
      have hB8 : Bk w8 rb 95 _ := hG6.bk.kbP (KbP.of_grown hg8 (fun g e => e)) (fun e => hG6.rbM rb (by show R.mv.ownBlock = _; rw [hown]; exact e) rfl)
      have hP8 := hP6.kbP (KbP.of_grown hg8 (fun g e => e)) (fun e => by have := hG2.lt _ (.inl (hG2.ymv _ (by rw [hown]; exact e))); omega)
      obtain ⟨A8, c8, rfl, hc8⟩ := ho8.shape
      have p8 := hP8.cell
      have q8 : w8.cell? ⟨rb, 10, none⟩ = some (.slice Am nm cm) := by rw [Hnm.out, ← Hmv.out]; exact hB8.cell 10
      have z8 := hB8.frz 10
      have hHeldN : (fun W : World => W.cell? ⟨rb, 10, none⟩ = some (.slice Am nm cm) ∧ W.cell? ⟨w2.heap.size, 0, none⟩ = some (.int .i64 3) ∧ W.cell? ⟨w2.heap.size, 1, none⟩ = some (.string ⟨name.toArray⟩) ∧ W.cell? ⟨w2.heap.size, 2, none⟩ = some (.string ⟨#[]⟩) ∧ W.cell? ⟨w2.heap.size, 3, none⟩ = some (.int .i64 0)) _ := ⟨q8, p8 0, p8 1, p8 2, p8 3⟩
      refine hK.out _ _ (fun _ => hHeldN) ?_
      clear hK K hHeld
      have hHeld := hHeldN
      clear hHeldN
      try simp only [Act.put, List.setIfInBounds_toArray, List.set_cons_zero, List.set_cons_succ]
      refine tStep (i := 8) rfl (by kernel_rfl) (fun K hK => ?_)
      go_simp
      refine hK.out _ _ (fun h => absurd h (by decide)) ?_
      clear hK K
      try simp only [Act.put, List.setIfInBounds_toArray, List.set_cons_zero, List.set_cons_succ]
      refine tStep (i := 9) rfl (by kernel_rfl) (fun K hK => ?_)
      go_simp
      refine hK.out _ _ (fun h => absurd h (by decide)) ?_
      clear hK K
      try simp only [Act.put, List.setIfInBounds_toArray, List.set_cons_zero, List.set_cons_succ]
      refine tStep (i := 10) rfl (by kernel_rfl) (fun K hK => ?_)
      go_simp
      refine hK.out _ _ (fun h => absurd h (by decide)) ?_
      clear hK K
      try simp only [Act.put, List.setIfInBounds_toArray, List.set_cons_zero, List.set_cons_succ]
      refine tDone (by kernel_rfl) ?_ _
      go_wp2
      go_ret
      have hs58 : w5.heap.size ≤ w6.heap.size := hb6.size
      have hs25 := hk25.size
      refine ⟨rfl, _, _, ⟨_, hF⟩, hg1.trans ⟨?_, ?_, ?_⟩⟩
      · rintro x (hx | hx)
        · exact .inl hx
        · rcases hat8 with e | ⟨g, e, hge⟩
          · exact .inl (hG2.ymv x (by rw [hown, ← e]; exact hx))
          · rw [e] at hx; cases hx; exact .inr (by have := hb2.size; omega)
      · rintro x (hx | hx)
        · exact .inl hx
        · exact .inr (by have := hb2.size; have h1 := hx.1; simp at h1; omega)
      · have h1 : KbP Y1 w1 w6 := ((KbP.of_below hb2 : KbP Y1 w1 w2).trans hk25 (fun x hx => .inl hx)).after hb6
        have h2 : KbP Y1 w6 w8 := KbP.of_grown hg8 (fun g e => hG2.ymv g (by rw [hown]; exact e))
        exact (h1.trans h2 (fun x hx => .inl hx)).setCell (p := ⟨rb, 10, none⟩) (.inl hG2.yrb) _
  · rw [if_pos hc]
    obtain ⟨st, cd⟩ := b
    simp only at hc HO
    have hcd : (cd == 0) = false := by rw [beq_eq_false_iff_ne]; exact hc
    unfold ptrV at *
    go_enter Tryz.func54, Tryz.ntmps54
    go_wp2_with (first | (go_at_call 81; refine HO.out.mono ?_; rintro e w1 ⟨rfl, Y1, J1, hP, hg1⟩))
    go_ret
    exact ⟨rfl, Y1, J1, hP, hg1⟩
end Go.Proofs.YtaanmnplfppdeaaGreat
/- Layer 1: the document's file system: a file is renamed: the walk of Rename. -/
namespace Go.Proofs.YtaanmnplfppdeaaGreat
open Go.RowKit Go.Lec Go.Fsy Go.Op Go.Maps
set_option maxRecDepth 100000 in
set_option maxHeartbeats 1600000 in
theorem c_rRename (w : World) {Y J : Nat → Prop} {rb N : Nat} {s : St} {name tn : Bs} (h : RfP Y J w rb s) (hi : Fsy.Inv s N) (hN : N ≤ 1048574) (hp : s.pl.ok) (hto : tn.length ≤ 4294967296) :
    Calls Tryz.prog 52 #[ptrV rb, .string ⟨name.toArray⟩, .string ⟨tn.toArray⟩] w (RupP Y J w rb (Fsy.rename s name tn)) := by
  have HO := Lib.hid (c_rBegin w h hi (by omega) hp)
  unfold RupP at HO
  have hbi := hi.begin
  obtain ⟨b, hb⟩ : ∃ x, x = Fsy.begin s := ⟨_, rfl⟩
  have hsd : Fsy.rename s name tn = if b.2 ≠ 0 then b else match node b.1.dir name with | none => (b.1, 14) | some i => if may tn = false then (b.1, 15) else if name = tn then (b.1, 0) else (Fsy.step b.1 (.ren name tn i), 0) := by rw [hb]; rfl
  rw [← hb] at HO hbi
  rw [hsd]
  clear hsd hb h hi hp
  have hdl := hbi.nDir
  have hml := hbi.nSafe
  by_cases hc : b.2 = 0
  · rw [if_neg (by simpa using hc)]
    rw [hc] at HO
    have HND := Lib.hid (fun (W : World) (Y1 J1 : Nat → Prop) (hP : RfP Y1 J1 W rb b.1) => c_rNode W (n := name) hP (by omega))
    unfold ptrV at *
    cases hnd : node b.1.dir name with
    | none =>
      rw [show nodeI b.1.dir name = -1 by unfold nodeI; rw [hnd]] at HND
      clear hc hnd
      go_enter Tryz.func52, Tryz.ntmps52
      go_wp2_with (first | (go_at_call 81; refine HO.out.mono ?_; rintro e w1 ⟨rfl, Y1, J1, hP, hg1⟩) | (go_at_call 43; refine (HND.out w1 Y1 J1 hP).mono ?_; rintro e w2 ⟨rfl, hb2⟩))
      go_ret
      exact ⟨rfl, Y1, J1, hP.below hb2, hg1.trans (Grow.of_kb (KbP.of_below hb2))⟩
    | some i =>
      rw [show nodeI b.1.dir name = (i : Int) by unfold nodeI; rw [hnd]] at HND
      have HMy := Lib.hid (fun W => c_rMay W tn hto)
      show Calls _ _ _ _ (RupP Y J w rb (if may tn = false then (b.1, 15) else if name = tn then (b.1, 0) else (Fsy.step b.1 (.ren name tn i), 0)))
      obtain ⟨v, hv⟩ : ∃ v, v = may tn := ⟨_, rfl⟩
      rw [← hv] at HMy ⊢
      clear hc hnd hv
      cases v with
      | false =>
        go_enter Tryz.func52, Tryz.ntmps52
        go_wp2_with (first | (go_at_call 81; refine HO.out.mono ?_; rintro e w1 ⟨rfl, Y1, J1, hP, hg1⟩) | (go_at_call 43; refine (HND.out w1 Y1 J1 hP).mono ?_; rintro e w2 ⟨rfl, hb2⟩) | (go_at_call 82; refine (HMy.out w2).mono ?_; rintro e w3 ⟨rfl, hw⟩; obtain rfl := hw.symm))
        go_ret
        exact ⟨rfl, Y1, J1, hP.below hb2, hg1.trans (Grow.of_kb (KbP.of_below hb2))⟩
      | true =>
        rw [if_neg (by decide)]
        by_cases hne : name = tn
        · rw [if_pos hne]
          subst hne
          go_enter Tryz.func52, Tryz.ntmps52
          go_wp2_with (first | (go_at_call 81; refine HO.out.mono ?_; rintro e w1 ⟨rfl, Y1, J1, hP, hg1⟩) | (go_at_call 43; refine (HND.out w1 Y1 J1 hP).mono ?_; rintro e w2 ⟨rfl, hb2⟩) | (go_at_call 82; refine (HMy.out w2).mono ?_; rintro e w3 ⟨rfl, hw⟩; obtain rfl := hw.symm))
          go_ret
          exact ⟨rfl, Y1, J1, hP.below hb2, hg1.trans (Grow.of_kb (KbP.of_below hb2))⟩
        · rw [if_neg hne]
          have hq : (name == tn) = false := by rw [beq_eq_false_iff_ne]; exact hne
          go_enter Tryz.func52, Tryz.ntmps52
          go_wp2_with (first | (go_at_call 81; refine HO.out.mono ?_; rintro e w1 ⟨rfl, Y1, J1, hP, hg1⟩) | (go_at_call 43; refine (HND.out w1 Y1 J1 hP).mono ?_; rintro e w2 ⟨rfl, hb2⟩) | (go_at_call 82; refine (HMy.out w2).mono ?_; rintro e w3 ⟨rfl, hw⟩; obtain rfl := hw.symm))
          obtain ⟨R, hG2⟩ := hP.below hb2
          obtain ⟨dl, hdlE⟩ : ∃ x, x = b.1.dir.length := ⟨_, rfl⟩
          have HdlE := Lib.hid hdlE
          have hb3 := (Below.refl w2.heap.size w2).alloc (Nat.le_refl _) (.cells (rmCs (.ren name tn i)).toArray 143)
          have hG3 := hG2.below hb3.drew
          have hP3 := (Bk.new_ w2 143 (rmCs (.ren name tn i)).toArray).drew
          have HM := Lib.hid (c_rMoved _ (c := R.dc) (.ren name tn i) hG3.dir.rd (Nat.le_refl _) (by omega))
          unfold rmCs svl DirP at *
          have q8 := hG3.bk.cell 8
          unfold rfCs at q8
          rw [← hdlE] at q8 HM
          have p := hP3.cell
          have HG3 := Lib.hid hG3
          have HP3 := Lib.hid hP3
          clear hG3 hP3 hdlE
          have hHeld : (fun W : World => W.cell? ⟨rb, 8, none⟩ = some (.slice R.dA dl R.dc) ∧ W.cell? ⟨w2.heap.size, 0, none⟩ = some (.int .i64 2) ∧ W.cell? ⟨w2.heap.size, 1, none⟩ = some (.string ⟨name.toArray⟩) ∧ W.cell? ⟨w2.heap.size, 2, none⟩ = some (.string ⟨tn.toArray⟩) ∧ W.cell? ⟨w2.heap.size, 3, none⟩ = some (.int .i64 (i : Int))) (w2.alloc (.cells #[.int .i64 2, .string ⟨name.toArray⟩, .string ⟨tn.toArray⟩, .int .i64 (i : Int)] 143)).drew := ⟨q8, p 0, p 1, p 2, p 3⟩
          refine wp_region_T (S := fun W : World => W.cell? ⟨rb, 8, none⟩ = some (.slice R.dA dl R.dc) ∧ W.cell? ⟨w2.heap.size, 0, none⟩ = some (.int .i64 2) ∧ W.cell? ⟨w2.heap.size, 1, none⟩ = some (.string ⟨name.toArray⟩) ∧ W.cell? ⟨w2.heap.size, 2, none⟩ = some (.string ⟨tn.toArray⟩) ∧ W.cell? ⟨w2.heap.size, 3, none⟩ = some (.int .i64 (i : Int))) (m := 9) (by kernel_rfl) ?_
          simp only [List.size_toArray, List.length_cons, List.length_nil, Nat.reduceAdd]
          refine tTake (i := 0) (v := ?_) rfl (by kernel_rfl) (by kernel_rfl) (by kernel_rfl) (by kernel_rfl) (fun _ _ _ h => h) hHeld (by rfl) ?_ ?_
          rotate_left
          · (intro w hSw; (try dsimp only at hSw); go_simp; try with_reducible rfl)
          try simp only [Act.put, List.setIfInBounds_toArray, List.set_cons_zero, List.set_cons_succ]
          refine tTake (i := 1) (v := ?_) rfl (by kernel_rfl) (by kernel_rfl) (by kernel_rfl) (by kernel_rfl) (fun _ _ _ h => h) hHeld (by rfl) ?_ ?_
          rotate_left
          · (intro w hSw; (try dsimp only at hSw); go_simp; try with_reducible rfl)
          try simp only [Act.put, List.setIfInBounds_toArray, List.set_cons_zero, List.set_cons_succ]
          refine tTake (i := 2) (v := ?_) rfl (by kernel_rfl) (by kernel_rfl) (by kernel_rfl) (by kernel_rfl) (fun _ _ _ h => h) hHeld (by rfl) ?_ ?_
          rotate_left
          · (intro w hSw; (try dsimp only at hSw); go_simp; try with_reducible rfl)
          try simp only [Act.put, List.setIfInBounds_toArray, List.set_cons_zero, List.set_cons_succ]
          refine tTake (i := 3) (v := ?_) rfl (by kernel_rfl) (by kernel_rfl) (by kernel_rfl) (by kernel_rfl) (fun _ _ _ h => h) hHeld (by rfl) ?_ ?_
          rotate_left
          · (intro w hSw; (try dsimp only at hSw); go_simp; try with_reducible rfl)
          try simp only [Act.put, List.setIfInBounds_toArray, List.set_cons_zero, List.set_cons_succ]
          refine tTake (i := 4) (v := ?_) rfl (by kernel_rfl) (by kernel_rfl) (by kernel_rfl) (by kernel_rfl) (fun _ _ _ h => h) hHeld (by rfl) ?_ ?_
          rotate_left
          · (intro w hSw; (try dsimp only at hSw); go_simp; try with_reducible rfl)
          try simp only [Act.put, List.setIfInBounds_toArray, List.set_cons_zero, List.set_cons_succ]
          refine tTake (i := 5) (v := ?_) rfl (by kernel_rfl) (by kernel_rfl) (by kernel_rfl) (by kernel_rfl) (fun _ _ _ h => h) hHeld (by rfl) ?_ ?_
          rotate_left
          · (intro w hSw; (try dsimp only at hSw); go_simp; try with_reducible rfl)
          try simp only [Act.put, List.setIfInBounds_toArray, List.set_cons_zero, List.set_cons_succ]
          refine tStep (i := 6) rfl (by kernel_rfl) (fun K hK => ?_)
          go_simp
          go_at_call 84
          refine HM.out.mono ?_
          rintro e w4 ⟨A4, c4, rfl, hc4, ho4, hb4⟩
          have hG4 := HG3.out.below hb4
          have hP4 := HP3.out.below hb4 (by simp)
          have p4 := hP4.cell
          have q84 : w4.cell? ⟨rb, 8, none⟩ = some (.slice R.dA dl R.dc) := by rw [HdlE.out]; exact hG4.bk.cell 8
          have z84 := hG4.bk.frz 8
          have hHeldN : (fun W : World => W.cell? ⟨rb, 8, none⟩ = some (.slice R.dA dl R.dc) ∧ W.cell? ⟨w2.heap.size, 0, none⟩ = some (.int .i64 2) ∧ W.cell? ⟨w2.heap.size, 1, none⟩ = some (.string ⟨name.toArray⟩) ∧ W.cell? ⟨w2.heap.size, 2, none⟩ = some (.string ⟨tn.toArray⟩) ∧ W.cell? ⟨w2.heap.size, 3, none⟩ = some (.int .i64 (i : Int))) _ := ⟨q84, p4 0, p4 1, p4 2, p4 3⟩
          refine hK.out _ _ (fun _ => hHeldN) ?_
          clear hK K hHeld
          have hHeld := hHeldN
          clear hHeldN
          try simp only [Act.put, List.setIfInBounds_toArray, List.set_cons_zero, List.set_cons_succ]
          refine tStep (i := 7) rfl (by kernel_rfl) (fun K hK => ?_)
          go_simp
          have hHeldN : (fun W : World => W.cell? ⟨rb, 8, none⟩ = some (.slice R.dA dl R.dc) ∧ W.cell? ⟨w2.heap.size, 0, none⟩ = some (.int .i64 2) ∧ W.cell? ⟨w2.heap.size, 1, none⟩ = some (.string ⟨name.toArray⟩) ∧ W.cell? ⟨w2.heap.size, 2, none⟩ = some (.string ⟨tn.toArray⟩) ∧ W.cell? ⟨w2.heap.size, 3, none⟩ = some (.int .i64 (i : Int))) _ := hHeld
          refine hK.out _ _ (fun _ => hHeldN) ?_
          clear hK K hHeld
          have hHeld := hHeldN
          clear hHeldN
          try simp only [Act.put, List.setIfInBounds_toArray, List.set_cons_zero, List.set_cons_succ]
          refine tStep (i := 8) rfl (by kernel_rfl) (fun K hK => ?_)
          go_simp
          have hHeldN : (fun W : World => W.cell? ⟨rb, 8, none⟩ = some (.slice R.dA dl R.dc) ∧ W.cell? ⟨w2.heap.size, 0, none⟩ = some (.int .i64 2) ∧ W.cell? ⟨w2.heap.size, 1, none⟩ = some (.string ⟨name.toArray⟩) ∧ W.cell? ⟨w2.heap.size, 2, none⟩ = some (.string ⟨tn.toArray⟩) ∧ W.cell? ⟨w2.heap.size, 3, none⟩ = some (.int .i64 (i : Int))) _ := hHeld
          refine hK.out _ _ (fun _ => hHeldN) ?_
          clear hK K hHeld
          have hHeld := hHeldN
          clear hHeldN
          try simp only [Act.put, List.setIfInBounds_toArray, List.set_cons_zero, List.set_cons_succ]
          refine tStep (i := 9) rfl (by kernel_rfl) (fun K hK => ?_)
          go_simp
          refine hK.out _ _ (fun h => absurd h (by decide)) ?_
          clear hK K
          try simp only [Act.put, List.setIfInBounds_toArray, List.set_cons_zero, List.set_cons_succ]
          refine tDone (by kernel_rfl) ?_ _
          have hYB : ∀ x, Y1 x → x < (w2.alloc (.cells #[.int .i64 2, .string ⟨name.toArray⟩, .string ⟨tn.toArray⟩, .int .i64 (i : Int)] 143)).drew.heap.size := fun x hx => HG3.out.lt x (.inl hx)
          have hG5 := hG4.setDirG ho4 hYB
          have hP5 := hP4.far (p := ⟨rb, 8, none⟩) (fun e => by have := hYB _ hG4.yrb; have h9 := HG3.out.lt rb (.inl hG4.yrb); have h8 := hG2.lt rb (.inl hG2.yrb); have : w2.heap.size = rb := e; omega) (.slice A4 (moved b.1.dir (.ren name tn i)).length c4)
          obtain ⟨w5, hw5⟩ : ∃ x, x = w4.setCell ⟨rb, 8, none⟩ (.slice A4 (moved b.1.dir (.ren name tn i)).length c4) := ⟨_, rfl⟩
          rw [← hw5] at hG5 hP5
          have hk25 : KbP Y1 w2 w5 := by
            rw [hw5]
            exact ((KbP.of_below hb3.drew).after hb4).setCell (p := ⟨rb, 8, none⟩) (.inl hG4.yrb) _
          have h24 : w2.heap.size ≤ w4.heap.size := by have := hb4.size; simp at this; omega
          have Hw5 := Lib.hid hw5
          obtain ⟨Am, cm, hmv, hcm⟩ := hG5.mvs.shape
          change R.mv = .slice Am b.1.mvs.length cm at hmv
          obtain ⟨nm, hnm⟩ : ∃ x, x = b.1.mvs.length := ⟨_, rfl⟩
          have q10 : w5.cell? ⟨rb, 10, none⟩ = some (.slice Am nm cm) := by rw [hnm, ← hmv]; exact hG5.bk.cell 10
          have p5 := hP5.cell
          have hmo : OwnK w5 0 143 4 (.slice Am nm cm) nm (b.1.mvs.flatMap rmCs) := by rw [hnm, ← hmv]; exact hG5.mvs
          have Hnm := Lib.hid hnm
          have Hmv := Lib.hid hmv
          clear hHeld hw5 hnm hmv q84 z84 p4 q8 p
          go_wp2
          rw [← Hw5.out]
          have hHeld : (fun W : World => W.cell? ⟨rb, 10, none⟩ = some (.slice Am nm cm) ∧ W.cell? ⟨w2.heap.size, 0, none⟩ = some (.int .i64 2) ∧ W.cell? ⟨w2.heap.size, 1, none⟩ = some (.string ⟨name.toArray⟩) ∧ W.cell? ⟨w2.heap.size, 2, none⟩ = some (.string ⟨tn.toArray⟩) ∧ W.cell? ⟨w2.heap.size, 3, none⟩ = some (.int .i64 (i : Int))) w5.drew := ⟨q10, p5 0, p5 1, p5 2, p5 3⟩
          refine wp_region_T (S := fun W : World => W.cell? ⟨rb, 10, none⟩ = some (.slice Am nm cm) ∧ W.cell? ⟨w2.heap.size, 0, none⟩ = some (.int .i64 2) ∧ W.cell? ⟨w2.heap.size, 1, none⟩ = some (.string ⟨name.toArray⟩) ∧ W.cell? ⟨w2.heap.size, 2, none⟩ = some (.string ⟨tn.toArray⟩) ∧ W.cell? ⟨w2.heap.size, 3, none⟩ = some (.int .i64 (i : Int))) (m := 8) (by kernel_rfl) ?_
          simp only [List.size_toArray, List.length_cons, List.length_nil, Nat.reduceAdd]
          refine tTake (i := 0) (v := ?_) rfl (by kernel_rfl) (by kernel_rfl) (by kernel_rfl) (by kernel_rfl) (fun _ _ _ h => h) hHeld (by rfl) ?_ ?_
          rotate_left
          · (intro w hSw; (try dsimp only at hSw); go_simp; try with_reducible rfl)
          try simp only [Act.put, List.setIfInBounds_toArray, List.set_cons_zero, List.set_cons_succ]
          refine tTake (i := 1) (v := ?_) rfl (by kernel_rfl) (by kernel_rfl) (by kernel_rfl) (by kernel_rfl) (fun _ _ _ h => h) hHeld (by rfl) ?_ ?_
          rotate_left
          · (intro w hSw; (try dsimp only at hSw); go_simp; try with_reducible rfl)
          try simp only [Act.put, List.setIfInBounds_toArray, List.set_cons_zero, List.set_cons_succ]
          refine tTake (i := 2) (v := ?_) rfl (by kernel_rfl) (by kernel_rfl) (by kernel_rfl) (by kernel_rfl) (fun _ _ _ h => h) hHeld (by rfl) ?_ ?_
          rotate_left
          · (intro w hSw; (try dsimp only at hSw); go_simp; try with_reducible rfl)
          try simp only [Act.put, List.setIfInBounds_toArray, List.set_cons_zero, List.set_cons_succ]
          refine tTake (i := 3) (v := ?_) rfl (by kernel_rfl) (by kernel_rfl) (by kernel_rfl) (by kernel_rfl) (fun _ _ _ h => h) hHeld (by rfl) ?_ ?_
          rotate_left
          · (intro w hSw; (try dsimp only at hSw); go_simp; try with_reducible rfl)
          try simp only [Act.put, List.setIfInBounds_toArray, List.set_cons_zero, List.set_cons_succ]
          refine tTake (i := 4) (v := ?_) rfl (by kernel_rfl) (by kernel_rfl) (by kernel_rfl) (by kernel_rfl) (fun _ _ _ h => h) hHeld (by rfl) ?_ ?_
          rotate_left
          · (intro w hSw; (try dsimp only at hSw); go_simp; try with_reducible rfl)
          try simp only [Act.put, List.setIfInBounds_toArray, List.set_cons_zero, List.set_cons_succ]
          refine tTake (i := 5) (v := ?_) rfl (by kernel_rfl) (by kernel_rfl) (by kernel_rfl) (by kernel_rfl) (fun _ _ _ h => h) hHeld (by rfl) ?_ ?_
          rotate_left
          · (intro w hSw; (try dsimp only at hSw); go_simp; try with_reducible rfl)
          try simp only [Act.put, List.setIfInBounds_toArray, List.set_cons_zero, List.set_cons_succ]
          refine tStep (i := 6) rfl (by kernel_rfl) (fun K hK => ?_)
          go_simp
          have hb6 := ((Below.refl w5.heap.size w5).alloc (Nat.le_refl _) (.cells #[.int .i64 2, .string ⟨name.toArray⟩, .string ⟨tn.toArray⟩, .int .i64 (i : Int)] 143)).drew
          have hN6 := (Bk.new_ w5 143 #[.int .i64 2, .string ⟨name.toArray⟩, .string ⟨tn.toArray⟩, .int .i64 (i : Int)]).drew
          obtain ⟨w6, hw6⟩ : ∃ x, x = (w5.alloc (.cells #[.int .i64 2, .string ⟨name.toArray⟩, .string ⟨tn.toArray⟩, .int .i64 (i : Int)] 143)).drew := ⟨_, rfl⟩
          rw [← hw6] at hb6 hN6 ⊢
          clear hw6
          have hG6 := hG5.below hb6
          have hP6 := hP5.below hb6 hP5.lt
          have p6 := hP6.cell
          have q6 : w6.cell? ⟨rb, 10, none⟩ = some (.slice Am nm cm) := by rw [Hnm.out, ← Hmv.out]; exact hG6.bk.cell 10
          have hmo6 : OwnK w6 0 143 4 (.slice Am nm cm) nm (b.1.mvs.flatMap rmCs) := by rw [Hnm.out, ← Hmv.out]; exact hG6.mvs
          have hHeldN : (fun W : World => W.cell? ⟨rb, 10, none⟩ = some (.slice Am nm cm) ∧ W.cell? ⟨w2.heap.size, 0, none⟩ = some (.int .i64 2) ∧ W.cell? ⟨w2.heap.size, 1, none⟩ = some (.string ⟨name.toArray⟩) ∧ W.cell? ⟨w2.heap.size, 2, none⟩ = some (.string ⟨tn.toArray⟩) ∧ W.cell? ⟨w2.heap.size, 3, none⟩ = some (.int .i64 (i : Int))) _ := ⟨q6, p6 0, p6 1, p6 2, p6 3⟩
          refine hK.out _ _ (fun _ => hHeldN) ?_
          clear hK K hHeld
          have hHeld := hHeldN
          clear hHeldN
          try simp only [Act.put, List.setIfInBounds_toArray, List.set_cons_zero, List.set_cons_succ]
          refine tStep (i := 7) rfl (by kernel_rfl) (fun K hK => ?_)
          refine at_app (.tmp 43) (.tmp 45) ?_
          refine stepK_new rfl (.tmp 43) (.tmp 45) rfl slrm (by decide) rfl hmo6 (Nat.zero_le _) rfl (news := rmCs (.ren name tn i)) rfl (fun j u hu => by rw [Nat.zero_add]; exact (hN6.cell j).trans (by simpa [rmCs, svl] using hu)) (rmCs_one _) (by have := Hnm.out; omega) ?_
          intro v8 w8 ho8 hb8 hg8 hat8
          replace hg8 : w6.grownBy w8 (Value.slice Am nm cm).ownBlock := hg8
          replace hat8 : v8.ownBlock = (Value.slice Am nm cm).ownBlock ∨ ∃ g, v8.ownBlock = some g ∧ w6.heap.size ≤ g := hat8
          have hown : R.mv.ownBlock = (Value.slice Am nm cm).ownBlock := by rw [Hmv.out, Hnm.out]
          have ho8' : OwnK w8 0 143 4 v8 (b.1.mvs.length + 1) (b.1.mvs.flatMap rmCs ++ rmCs (.ren name tn i)) := by rw [← Hnm.out]; exact ho8
          have hF := RfG.addMove (m := .ren name tn i) hG6 ho8' (by show w6.grownBy w8 R.mv.ownBlock; rw [hown]; exact hg8) (by show _ = R.mv.ownBlock ∨ _; rw [hown]; exact hat8)
          have hB8 : Bk w8 rb 95 _ := hG6.bk.kbP (KbP.of_grown hg8 (fun g e => e)) (fun e => hG6.rbM rb (by show R.mv.ownBlock = _; rw [hown]; exact e) rfl)
          have hP8 := hP6.kbP (KbP.of_grown hg8 (fun g e => e)) (fun e => by have := hG2.lt _ (.inl (hG2.ymv _ (by rw [hown]; exact e))); omega)
          obtain ⟨A8, c8, rfl, hc8⟩ := ho8.shape
          have p8 := hP8.cell
          have q8 : w8.cell? ⟨rb, 10, none⟩ = some (.slice Am nm cm) := by rw [Hnm.out, ← Hmv.out]; exact hB8.cell 10
          have z8 := hB8.frz 10
          have hHeldN : (fun W : World => W.cell? ⟨rb, 10, none⟩ = some (.slice Am nm cm) ∧ W.cell? ⟨w2.heap.size, 0, none⟩ = some (.int .i64 2) ∧ W.cell? ⟨w2.heap.size, 1, none⟩ = some (.string ⟨name.toArray⟩) ∧ W.cell? ⟨w2.heap.size, 2, none⟩ = some (.string ⟨tn.toArray⟩) ∧ W.cell? ⟨w2.heap.size, 3, none⟩ = some (.int .i64 (i : Int))) _ := ⟨q8, p8 0, p8 1, p8 2, p8 3⟩
          refine hK.out _ _ (fun _ => hHeldN) ?_
          clear hK K hHeld
          have hHeld := hHeldN
          clear hHeldN
          try simp only [Act.put, List.setIfInBounds_toArray, List.set_cons_zero, List.set_cons_succ]
          refine tStep (i := 8) rfl (by kernel_rfl) (fun K hK => ?_)
          go_simp
          refine hK.out _ _ (fun h => absurd h (by decide)) ?_
          clear hK K
          try simp only [Act.put, List.setIfInBounds_toArray, List.set_cons_zero, List.set_cons_succ]
          refine tStep (i := 9) rfl (by kernel_rfl) (fun K hK => ?_)
          go_simp
          refine hK.out _ _ (fun h => absurd h (by decide)) ?_
          clear hK K
          try simp only [Act.put, List.setIfInBounds_toArray, List.set_cons_zero, List.set_cons_succ]
          refine tStep (i := 10) rfl (by kernel_rfl) (fun K hK => ?_)
          go_simp
          refine hK.out _ _ (fun h => absurd h (by decide)) ?_
          clear hK K
          try simp only [Act.put, List.setIfInBounds_toArray, List.set_cons_zero, List.set_cons_succ]
          refine tDone (by kernel_rfl) ?_ _
          go_wp2
          go_ret
          have hs58 : w5.heap.size ≤ w6.heap.size := hb6.size
          have hs25 := hk25.size
          refine ⟨rfl, _, _, ⟨_, hF⟩, hg1.trans ⟨?_, ?_, ?_⟩⟩
          · rintro x (hx | hx)
            · exact .inl hx
            · rcases hat8 with e | ⟨g, e, hge⟩
              · exact .inl (hG2.ymv x (by rw [hown, ← e]; exact hx))
              · rw [e] at hx; cases hx; exact .inr (by have := hb2.size; omega)
          · rintro x (hx | hx)
            · exact .inl hx
            · exact .inr (by have := hb2.size; have h1 := hx.1; simp at h1; omega)
          · have h1 : KbP Y1 w1 w6 := ((KbP.of_below hb2 : KbP Y1 w1 w2).trans hk25 (fun x hx => .inl hx)).after hb6
            have h2 : KbP Y1 w6 w8 := KbP.of_grown hg8 (fun g e => hG2.ymv g (by rw [hown]; exact e))
            exact (h1.trans h2 (fun x hx => .inl hx)).setCell (p := ⟨rb, 10, none⟩) (.inl hG2.yrb) _
  · rw [if_pos hc]
    obtain ⟨st, cd⟩ := b
    simp only at hc HO
    have hcd : (cd == 0) = false := by rw [beq_eq_false_iff_ne]; exact hc
    unfold ptrV at *
    go_enter Tryz.func52, Tryz.ntmps52
    go_wp2_with (first | (go_at_call 81; refine HO.out.mono ?_; rintro e w1 ⟨rfl, Y1, J1, hP, hg1⟩))
    go_ret
    exact ⟨rfl, Y1, J1, hP, hg1⟩
end Go.Proofs.YtaanmnplfppdeaaGreat
/- Layer 1: the document's file system: a file is synced: the walk of Sync. -/
namespace Go.Proofs.YtaanmnplfppdeaaGreat
open Go.RowKit Go.Lec Go.Fsy Go.Op Go.Maps
section
variable {Y J : Nat → Prop} {w : World} {rb : Nat} {s : St} {R : RGeo}
/-- A node is another. -/
theorem RfG.setNdG (h : RfG Y J w rb s R) {g i c : Nat} {y : NR} (hv : R.nv = .slice (some ⟨g, 0, none⟩) s.nodes.length c) (hi : i < s.nodes.length) (hy : y.ok J w) :
    RfG Y J ((w.setCell ⟨g, i * 2, none⟩ (.slice y.A y.sf.length y.c)).setCell ⟨g, i * 2 + 1, none⟩ (.slice y.A2 y.L.length y.c2)) rb { s with nodes := s.nodes.set i y.nd } { R with NL := R.NL.set i y } := by
  have hg : R.nv.ownBlock = some g := by rw [hv]; rfl
  have hgY := h.ynv g hg
  have hk := ((KbP.refl (fun b => b = g) w).setCell (p := ⟨g, i * 2, none⟩) (.inl rfl) (.slice y.A y.sf.length y.c)).setCell (p := ⟨g, i * 2 + 1, none⟩) (.inl rfl) (.slice y.A2 y.L.length y.c2)
  have hl := h.nlen
  have hfl : (R.NL.flatMap NR.cs).length = R.NL.length * 2 := nr_len _
  have hn := h.nodes
  have hO : OwnK ((w.setCell ⟨g, i * 2, none⟩ (.slice y.A y.sf.length y.c)).setCell ⟨g, i * 2 + 1, none⟩ (.slice y.A2 y.L.length y.c2)) 0 99 2 R.nv s.nodes.length ((R.NL.set i y).flatMap NR.cs) := by
    rw [nr_set R.NL i y (by omega)]
    rw [hv] at hn ⊢
    exact OwnK.stored (OwnK.stored hn (i * 2) (by omega) _) (i * 2 + 1) (by rw [List.length_set]; omega) _
  exact h.turnNd hk hg hi hO (hy.kbP hk fun b hb e => h.yj b hb (e ▸ hgY))
/-- What has been made since may be read, too. -/
theorem RfG.moreG (h : RfG Y J w rb s R) {B : Nat} (hB : ∀ b, Y b → b < B) : RfG Y (JG J B w.heap.size) w rb s R := by
  refine h.more (fun b hb => .inl hb) ?_ ?_
  · rintro b (hb | hb) hY
    · exact h.yj b hb hY
    · have := hB b hY; omega
  · rintro b (hb | hb)
    · exact h.lt b (.inr hb)
    · exact hb.2
end
set_option maxRecDepth 100000 in
set_option maxHeartbeats 1600000 in
theorem c_rSync (w : World) {Y J : Nat → Prop} {rb N : Nat} {s : St} {name : Bs} (h : RfP Y J w rb s) (hi : Fsy.Inv s N) (hN : N ≤ 1048574) (hp : s.pl.ok) :
    Calls Tryz.prog 50 #[ptrV rb, .string ⟨name.toArray⟩] w (RupP Y J w rb (Fsy.sync s name)) := by
  have HO := Lib.hid (c_rBegin w h hi (by omega) hp)
  unfold RupP at HO
  have hbi := hi.begin
  obtain ⟨b, hb⟩ : ∃ x, x = Fsy.begin s := ⟨_, rfl⟩
  have hsd : Fsy.sync s name = if b.2 ≠ 0 then b else match node b.1.dir name with | none => (b.1, 14) | some i => (Fsy.setNd b.1 i ⟨(Fsy.ndAt b.1.nodes i).data, []⟩, 0) := by rw [hb]; rfl
  rw [← hb] at HO hbi
  rw [hsd]
  clear hsd hb h hi hp
  have hdl := hbi.nDir
  by_cases hc : b.2 = 0
  · rw [if_neg (by simpa using hc)]
    rw [hc] at HO
    have HND := Lib.hid (fun (W : World) (Y1 J1 : Nat → Prop) (hP : RfP Y1 J1 W rb b.1) => c_rNode W (n := name) hP (by omega))
    unfold ptrV at *
    cases hnd : node b.1.dir name with
    | none =>
      rw [show nodeI b.1.dir name = -1 by unfold nodeI; rw [hnd]] at HND
      clear hc hnd
      go_enter Tryz.func50, Tryz.ntmps50
      go_wp2_with (first | (go_at_call 81; refine HO.out.mono ?_; rintro e w1 ⟨rfl, Y1, J1, hP, hg1⟩) | (go_at_call 43; refine (HND.out w1 Y1 J1 hP).mono ?_; rintro e w2 ⟨rfl, hb2⟩))
      go_ret
      exact ⟨rfl, Y1, J1, hP.below hb2, hg1.trans (Grow.of_kb (KbP.of_below hb2))⟩
    | some i =>
      rw [show nodeI b.1.dir name = (i : Int) by unfold nodeI; rw [hnd]] at HND
      have hil : i < b.1.nodes.length := (hbi.dir.2 _ (node_some hnd)).2.2
      have hnd2 := hbi.nd i
      have Hnd2 := Lib.hid hnd2
      clear hc hnd hnd2
      go_enter Tryz.func50, Tryz.ntmps50
      go_wp2_with (first | (go_at_call 81; refine HO.out.mono ?_; rintro e w1 ⟨rfl, Y1, J1, hP, hg1⟩) | (go_at_call 43; refine (HND.out w1 Y1 J1 hP).mono ?_; rintro e w2 ⟨rfl, hb2⟩))
      obtain ⟨R, hG2⟩ := hP.below hb2
      obtain ⟨g, c, x, hnv, hnc, g0, g1, hxn, hxo, _⟩ := hG2.nodeAt hil
      obtain ⟨nn, hnn⟩ : ∃ x, x = b.1.nodes.length := ⟨_, rfl⟩
      have q7 : w2.cell? ⟨rb, 7, none⟩ = some (.slice (some ⟨g, 0, none⟩) nn c) := by rw [hnn, ← hnv]; exact hG2.bk.cell 7
      have hil2 : (i : Int) < (nn : Int) := by omega
      have hnc2 : (nn : Int) ≤ (c : Int) := by omega
      have hG3 := hG2.below (Below.refl w2.heap.size w2).drew
      have HD := Lib.hid (c_rData w2.drew (hxo.below (Below.refl w2.heap.size w2).drew) (by have h := Hnd2.out.1; rw [← hxn] at h; exact h) (by have h := Hnd2.out.2; rw [← hxn] at h; simp only [NR.nd, List.length_map] at h; omega))
      unfold TwB NR.cs at HD
      have Hnn := Lib.hid hnn
      have Hxn := Lib.hid hxn
      have Hnv := Lib.hid hnv
      have HG3 := Lib.hid hG3
      clear hnn hxn hnv hG3 hxo
      have hHeld : (fun W : World => W.cell? ⟨rb, 7, none⟩ = some (.slice (some ⟨g, 0, none⟩) nn c) ∧ W.cell? ⟨g, i * 2, none⟩ = some (.slice x.A x.sf.length x.c) ∧ W.cell? ⟨g, i * 2 + 1, none⟩ = some (.slice x.A2 x.L.length x.c2)) w2.drew := ⟨q7, g0, g1⟩
      refine wp_region_U (S := fun W : World => W.cell? ⟨rb, 7, none⟩ = some (.slice (some ⟨g, 0, none⟩) nn c) ∧ W.cell? ⟨g, i * 2, none⟩ = some (.slice x.A x.sf.length x.c) ∧ W.cell? ⟨g, i * 2 + 1, none⟩ = some (.slice x.A2 x.L.length x.c2)) (ks := [3, 8, 13, 15, 16, 17]) (by kernel_rfl) ?_
      simp only [List.size_toArray, List.length_cons, List.length_nil, Nat.reduceAdd]
      refine uPure (i := 0) (v := ?_) rfl (by kernel_rfl) (by kernel_rfl) (by kernel_rfl) (by kernel_rfl) (fun _ _ _ h => h) (by rfl) ?_ ?_
      rotate_left
      · (intro w; go_simp; try with_reducible rfl)
      try simp only [Act.put, List.setIfInBounds_toArray, List.set_cons_zero, List.set_cons_succ]
      refine uPure (i := 1) (v := ?_) rfl (by kernel_rfl) (by kernel_rfl) (by kernel_rfl) (by kernel_rfl) (fun _ _ _ h => h) (by rfl) ?_ ?_
      rotate_left
      · (intro w; go_simp; try with_reducible rfl)
      try simp only [Act.put, List.setIfInBounds_toArray, List.set_cons_zero, List.set_cons_succ]
      refine uPure (i := 2) (v := ?_) rfl (by kernel_rfl) (by kernel_rfl) (by kernel_rfl) (by kernel_rfl) (fun _ _ _ h => h) (by rfl) ?_ ?_
      rotate_left
      · (intro w; go_simp; try with_reducible rfl)
      try simp only [Act.put, List.setIfInBounds_toArray, List.set_cons_zero, List.set_cons_succ]
      refine uPure (i := 4) (v := ?_) rfl (by kernel_rfl) (by kernel_rfl) (by kernel_rfl) (by kernel_rfl) (fun _ _ _ h => h) (by rfl) ?_ ?_
      rotate_left
      · (intro w; go_simp; try with_reducible rfl)
      try simp only [Act.put, List.setIfInBounds_toArray, List.set_cons_zero, List.set_cons_succ]
      refine uPure (i := 5) (v := ?_) rfl (by kernel_rfl) (by kernel_rfl) (by kernel_rfl) (by kernel_rfl) (fun _ _ _ h => h) (by rfl) ?_ ?_
      rotate_left
      · (intro w; go_simp; try with_reducible rfl)
      try simp only [Act.put, List.setIfInBounds_toArray, List.set_cons_zero, List.set_cons_succ]
      refine uPure (i := 6) (v := ?_) rfl (by kernel_rfl) (by kernel_rfl) (by kernel_rfl) (by kernel_rfl) (fun _ _ _ h => h) (by rfl) ?_ ?_
      rotate_left
      · (intro w; go_simp; try with_reducible rfl)
      try simp only [Act.put, List.setIfInBounds_toArray, List.set_cons_zero, List.set_cons_succ]
      refine uPure (i := 7) (v := ?_) rfl (by kernel_rfl) (by kernel_rfl) (by kernel_rfl) (by kernel_rfl) (fun _ _ _ h => h) (by rfl) ?_ ?_
      rotate_left
      · (intro w; go_simp; try with_reducible rfl)
      try simp only [Act.put, List.setIfInBounds_toArray, List.set_cons_zero, List.set_cons_succ]
      refine uPure (i := 9) (v := ?_) rfl (by kernel_rfl) (by kernel_rfl) (by kernel_rfl) (by kernel_rfl) (fun _ _ _ h => h) (by rfl) ?_ ?_
      rotate_left
      · (intro w; go_simp; try with_reducible rfl)
      try simp only [Act.put, List.setIfInBounds_toArray, List.set_cons_zero, List.set_cons_succ]
      refine uPure (i := 10) (v := ?_) rfl (by kernel_rfl) (by kernel_rfl) (by kernel_rfl) (by kernel_rfl) (fun _ _ _ h => h) (by rfl) ?_ ?_
      rotate_left
      · (intro w; go_simp; try with_reducible rfl)
      try simp only [Act.put, List.setIfInBounds_toArray, List.set_cons_zero, List.set_cons_succ]
      refine uPure (i := 11) (v := ?_) rfl (by kernel_rfl) (by kernel_rfl) (by kernel_rfl) (by kernel_rfl) (fun _ _ _ h => h) (by rfl) ?_ ?_
      rotate_left
      · (intro w; go_simp; try with_reducible rfl)
      try simp only [Act.put, List.setIfInBounds_toArray, List.set_cons_zero, List.set_cons_succ]
      refine uPure (i := 12) (v := ?_) rfl (by kernel_rfl) (by kernel_rfl) (by kernel_rfl) (by kernel_rfl) (fun _ _ _ h => h) (by rfl) ?_ ?_
      rotate_left
      · (intro w; go_simp; try with_reducible rfl)
      try simp only [Act.put, List.setIfInBounds_toArray, List.set_cons_zero, List.set_cons_succ]
      refine uPure (i := 14) (v := ?_) rfl (by kernel_rfl) (by kernel_rfl) (by kernel_rfl) (by kernel_rfl) (fun _ _ _ h => h) (by rfl) ?_ ?_
      rotate_left
      · (intro w; go_simp; try with_reducible rfl)
      try simp only [Act.put, List.setIfInBounds_toArray, List.set_cons_zero, List.set_cons_succ]
      refine uTake (i := 3) (v := ?_) rfl (by kernel_rfl) (by kernel_rfl) (by kernel_rfl) (by kernel_rfl) (fun _ _ _ h => h) hHeld (by rfl) ?_ ?_
      rotate_left
      · (intro w hSw; (try dsimp only at hSw); go_simp; try with_reducible rfl)
      try simp only [Act.put, List.setIfInBounds_toArray, List.set_cons_zero, List.set_cons_succ]
      refine uTake (i := 8) (v := ?_) rfl (by kernel_rfl) (by kernel_rfl) (by kernel_rfl) (by kernel_rfl) (fun _ _ _ h => h) hHeld (by rfl) ?_ ?_
      rotate_left
      · (intro w hSw; (try dsimp only at hSw); go_simp; try with_reducible rfl)
      try simp only [Act.put, List.setIfInBounds_toArray, List.set_cons_zero, List.set_cons_succ]
      refine uTake (i := 13) (v := ?_) rfl (by kernel_rfl) (by kernel_rfl) (by kernel_rfl) (by kernel_rfl) (fun _ _ _ h => h) hHeld (by rfl) ?_ ?_
      rotate_left
      · (intro w hSw; (try dsimp only at hSw); go_simp; try with_reducible rfl)
      try simp only [Act.put, List.setIfInBounds_toArray, List.set_cons_zero, List.set_cons_succ]
      refine uTake (i := 15) (v := ?_) rfl (by kernel_rfl) (by kernel_rfl) (by kernel_rfl) (by kernel_rfl) (fun _ _ _ h => h) hHeld (by rfl) ?_ ?_
      rotate_left
      · (intro w hSw; (try dsimp only at hSw); go_simp; try with_reducible rfl)
      try simp only [Act.put, List.setIfInBounds_toArray, List.set_cons_zero, List.set_cons_succ]
      refine uTake (i := 16) (v := ?_) rfl (by kernel_rfl) (by kernel_rfl) (by kernel_rfl) (by kernel_rfl) (fun _ _ _ h => h) hHeld (by rfl) ?_ ?_
      rotate_left
      · (intro w hSw; (try dsimp only at hSw); go_simp; try with_reducible rfl)
      try simp only [Act.put, List.setIfInBounds_toArray, List.set_cons_zero, List.set_cons_succ]
      refine uStep (i := 17) rfl (by kernel_rfl) (fun K hK => ?_)
      go_simp
      go_at_call 44
      refine HD.out.mono ?_
      rintro e w4 ⟨A4, c4, rfl, hc4, ho4, hb4⟩
      have hG4 := HG3.out.below hb4
      have q74 : w4.cell? ⟨rb, 7, none⟩ = some (.slice (some ⟨g, 0, none⟩) nn c) := by rw [Hnn.out, ← Hnv.out]; exact hG4.bk.cell 7
      have hOw := hG4.nodes
      rw [Hnv.out] at hOw
      have hgl : g < w2.heap.size := hG2.lt g (.inl (hG2.ynv g (by rw [Hnv.out]; rfl)))
      have g04 : w4.cell? ⟨g, i * 2, none⟩ = some (.slice x.A x.sf.length x.c) := (hb4.cell (p := ⟨g, i * 2, none⟩) hgl).trans g0
      have g14 : w4.cell? ⟨g, i * 2 + 1, none⟩ = some (.slice x.A2 x.L.length x.c2) := (hb4.cell (p := ⟨g, i * 2 + 1, none⟩) hgl).trans g1
      have za := World.ownsRow.frozenAt hOw (i * 2)
      have zb := World.ownsRow.frozenAt hOw (i * 2 + 1)
      have hHeldN : (fun W : World => W.cell? ⟨rb, 7, none⟩ = some (.slice (some ⟨g, 0, none⟩) nn c) ∧ W.cell? ⟨g, i * 2, none⟩ = some (.slice x.A x.sf.length x.c) ∧ W.cell? ⟨g, i * 2 + 1, none⟩ = some (.slice x.A2 x.L.length x.c2)) _ := ⟨q74, g04, g14⟩
      refine hK.out _ _ (fun _ => hHeldN) ?_
      clear hK K hHeld
      have hHeld := hHeldN
      clear hHeldN
      try simp only [Act.put, List.setIfInBounds_toArray, List.set_cons_zero, List.set_cons_succ]
      refine uPure (i := 18) (v := ?_) rfl (by kernel_rfl) (by kernel_rfl) (by kernel_rfl) (by kernel_rfl) (fun _ _ _ h => h) (by rfl) ?_ ?_
      rotate_left
      · (intro w; go_simp; try with_reducible rfl)
      try simp only [Act.put, List.setIfInBounds_toArray, List.set_cons_zero, List.set_cons_succ]
      refine uPure (i := 19) (v := ?_) rfl (by kernel_rfl) (by kernel_rfl) (by kernel_rfl) (by kernel_rfl) (fun _ _ _ h => h) (by rfl) ?_ ?_
      rotate_left
      · (intro w; go_simp; try with_reducible rfl)
      try simp only [Act.put, List.setIfInBounds_toArray, List.set_cons_zero, List.set_cons_succ]
      refine uStep (i := 20) rfl (by kernel_rfl) (fun K hK => ?_)
      go_simp
      refine hK.out _ _ (fun h => absurd h (by decide)) ?_
      clear hK K
      try simp only [Act.put, List.setIfInBounds_toArray, List.set_cons_zero, List.set_cons_succ]
      refine uPure (i := 21) (v := ?_) rfl (by kernel_rfl) (by kernel_rfl) (by kernel_rfl) (by kernel_rfl) (fun _ _ _ h => h) (by rfl) ?_ ?_
      rotate_left
      · (intro w; go_simp; try with_reducible rfl)
      try simp only [Act.put, List.setIfInBounds_toArray, List.set_cons_zero, List.set_cons_succ]
      refine uPure (i := 22) (v := ?_) rfl (by kernel_rfl) (by kernel_rfl) (by kernel_rfl) (by kernel_rfl) (fun _ _ _ h => h) (by rfl) ?_ ?_
      rotate_left
      · (intro w; go_simp; try with_reducible rfl)
      try simp only [Act.put, List.setIfInBounds_toArray, List.set_cons_zero, List.set_cons_succ]
      refine uStep (i := 23) rfl (by kernel_rfl) (fun K hK => ?_)
      go_simp
      refine hK.out _ _ (fun h => absurd h (by decide)) ?_
      clear hK K
      try simp only [Act.put, List.setIfInBounds_toArray, List.set_cons_zero, List.set_cons_succ]
      refine uDone (by kernel_rfl) ?_ _
      have hYB : ∀ b, Y1 b → b < w2.drew.heap.size := fun b hb => HG3.out.lt b (.inl hb)
      unfold Lec.Own at ho4
      rw [bcs_length] at ho4
      have hGm := hG4.moreG hYB
      have hyok : (NR.mk x.nd.data A4 c4 [] none 0).ok (JG J1 w2.drew.heap.size w4.heap.size) w4 := ⟨(RdP.newB ho4).more (fun b hb => .inr ⟨hb.1, hb.2⟩), RdKP.nil_, (fun y hy => by cases hy), hc4⟩
      have hF := hGm.setNdG (i := i) (y := NR.mk x.nd.data A4 c4 [] none 0) Hnv.out hil hyok
      have hgY : Y1 g := hG2.ynv g (by rw [Hnv.out]; rfl)
      have hk := (((KbP.of_below hb2 : KbP Y1 w1 w2).trans (KbP.of_below (Below.refl w2.heap.size w2).drew) (fun b hb => .inl hb)).after hb4).setCell (p := ⟨g, i * 2, none⟩) (.inl hgY) (.slice A4 x.nd.data.length c4)
      have hk2 := hk.setCell (p := ⟨g, i * 2 + 1, none⟩) (.inl hgY) (.slice none 0 0)
      have hs12 := hb2.size
      have Hfin := Lib.hid (show RfG Y1 (JG J1 w2.drew.heap.size w4.heap.size) _ rb (setNd b.1 i ⟨(Fsy.ndAt b.1.nodes i).data, []⟩) _ from by rw [← Hxn.out]; exact hF)
      have Hk2 := Lib.hid hk2
      clear hF hk hk2 hyok hGm ho4 hHeld hOw
      go_wp2
      go_ret
      refine ⟨rfl, Y1, JG J1 w2.drew.heap.size w4.heap.size, ⟨_, Hfin.out⟩, hg1.trans ⟨fun b hb => .inl hb, ?_, Hk2.out⟩⟩
      rintro b (hb | hb)
      · exact .inl hb
      · exact .inr (Nat.le_trans hs12 hb.1)
  · rw [if_pos hc]
    obtain ⟨st, cd⟩ := b
    simp only at hc HO
    have hcd : (cd == 0) = false := by rw [beq_eq_false_iff_ne]; exact hc
    unfold ptrV at *
    go_enter Tryz.func50, Tryz.ntmps50
    go_wp2_with (first | (go_at_call 81; refine HO.out.mono ?_; rintro e w1 ⟨rfl, Y1, J1, hP, hg1⟩))
    go_ret
    exact ⟨rfl, Y1, J1, hP, hg1⟩
end Go.Proofs.YtaanmnplfppdeaaGreat
/- Layer 1: the document's file system: a file is cut: the walk of Cut. -/
namespace Go.Fsy
open Go.Lec
theorem nr_set1 : ∀ (L : List NR) (i : Nat) (x y : NR), L[i]? = some x → y.A = x.A → y.sf = x.sf → y.c = x.c → (L.set i y).flatMap NR.cs = (L.flatMap NR.cs).set (i * 2 + 1) (.slice y.A2 y.L.length y.c2)
  | [], i, x, y, h, _, _, _ => by simp at h
  | z :: L, 0, x, y, h, h1, h2, h3 => by
    simp only [List.getElem?_cons_zero, Option.some.injEq] at h
    subst h
    simp [NR.cs, h1, h2, h3]
  | z :: L, i + 1, x, y, h, h1, h2, h3 => by
    have := nr_set1 L i x y (by simpa using h) h1 h2 h3
    rw [List.set_cons_succ, List.flatMap_cons, List.flatMap_cons, this]
    rw [show (i + 1) * 2 = i * 2 + 1 + 1 from by omega]
    simp [NR.cs]
theorem ownK_mono {w : World} {B B' n k : Nat} {e : TypeId} {v : Value} {xs : List Value} (h : OwnK w B e k v n xs) (hB : B' ≤ B) : OwnK w B' e k v n xs :=
  ⟨h.1, h.2.imp_right fun ⟨g, cap, cur, h1, h2, h3⟩ => ⟨g, cap, cur, h1, Nat.le_trans hB h2, h3⟩⟩
end Go.Fsy
namespace Go.Proofs.YtaanmnplfppdeaaGreat
open Go.RowKit Go.Lec Go.Fsy Go.Op Go.Maps
section
variable {Y J : Nat → Prop} {w : World} {rb : Nat} {s : St} {R : RGeo}
/-- A change is noted. -/
theorem RfG.addCh (h : RfG Y J w rb s R) {g i c B c2 : Nat} {x : NR} {y : CR} {A2 : Option Addr} (hv : R.nv = .slice (some ⟨g, 0, none⟩) s.nodes.length c) (hi : i < s.nodes.length) (hx : R.NL[i]? = some x)
    (ho : OwnK w B 141 3 (.slice A2 (x.L.length + 1) c2) (x.L.length + 1) (x.L.flatMap CR.cs ++ y.cs)) (hB : ∀ b, Y b → b < B) (hy : y.ok (JG J B w.heap.size) w) :
    RfG Y (JG J B w.heap.size) (w.setCell ⟨g, i * 2 + 1, none⟩ (.slice A2 (x.L.length + 1) c2)) rb { s with nodes := s.nodes.set i ⟨x.sf, x.L.map CR.ch ++ [y.ch]⟩ } { R with NL := R.NL.set i { x with L := x.L ++ [y], A2 := A2, c2 := c2 } } := by
  have hg : R.nv.ownBlock = some g := by rw [hv]; rfl
  have hgY := h.ynv g hg
  have hm := h.moreG hB
  have hk := (KbP.refl (fun b => b = g) w).setCell (p := ⟨g, i * 2 + 1, none⟩) (.inl rfl) (.slice A2 (x.L.length + 1) c2)
  have hl := h.nlen
  have hfl : (R.NL.flatMap NR.cs).length = R.NL.length * 2 := nr_len _
  have hn := h.nodes
  have hJg : ∀ b, JG J B w.heap.size b → ¬ b = g := fun b hb e => hm.yj b hb (e ▸ hgY)
  have hL : (x.L ++ [y]).length = x.L.length + 1 := by simp
  have hxo := hm.nok x (List.mem_of_getElem? hx)
  have hyn : ({ x with L := x.L ++ [y], A2 := A2, c2 := c2 } : NR).ok (JG J B w.heap.size) w := by
    refine ⟨hxo.sf, ?_, ?_, hxo.le⟩
    · show RdKP _ w 3 A2 (x.L ++ [y]).length ((x.L ++ [y]).flatMap CR.cs)
      rw [hL, List.flatMap_append, List.flatMap_singleton]
      exact (RdKP.new_ ho).more fun b hb => .inr hb
    · intro z hz
      rcases List.mem_append.1 hz with hz | hz
      · exact hxo.all z hz
      · rw [List.mem_singleton] at hz; subst hz; exact hy
  have hO : OwnK (w.setCell ⟨g, i * 2 + 1, none⟩ (.slice A2 (x.L.length + 1) c2)) 0 99 2 R.nv s.nodes.length ((R.NL.set i { x with L := x.L ++ [y], A2 := A2, c2 := c2 }).flatMap NR.cs) := by
    rw [nr_set1 R.NL i x { x with L := x.L ++ [y], A2 := A2, c2 := c2 } hx rfl rfl rfl]
    rw [hv] at hn ⊢
    show OwnK _ 0 _ 2 _ _ ((R.NL.flatMap NR.cs).set (i * 2 + 1) (.slice A2 (x.L ++ [y]).length c2))
    rw [hL]
    exact OwnK.stored hn (i * 2 + 1) (by omega) _
  have := hm.turnNd hk hg hi hO (hyn.kbP hk hJg)
  simpa [NR.nd] using this
end
set_option maxRecDepth 100000 in
set_option maxHeartbeats 1600000 in
theorem c_rCut (w : World) {Y J : Nat → Prop} {rb N : Nat} {s : St} {name : Bs} (n : Int) (h : RfP Y J w rb s) (hi : Fsy.Inv s N) (hN : N ≤ 1048574) (hp : s.pl.ok) :
    Calls Tryz.prog 49 #[ptrV rb, .string ⟨name.toArray⟩, .int .i64 n] w (RupP Y J w rb (Fsy.cutF s name n)) := by
  have HO := Lib.hid (c_rBegin w h hi (by omega) hp)
  unfold RupP at HO
  have hbi := hi.begin
  obtain ⟨b, hb⟩ : ∃ x, x = Fsy.begin s := ⟨_, rfl⟩
  have hsd : Fsy.cutF s name n = if b.2 ≠ 0 then b else match node b.1.dir name with | none => (b.1, 14) | some i => if n < 0 ∨ (sizeAt b.1 i : Int) < n then (b.1, 1) else if n < (sizeAt b.1 i : Int) then (change b.1 i (.cut n.toNat), 0) else (b.1, 0) := by rw [hb]; rfl
  rw [← hb] at HO hbi
  rw [hsd]
  clear hsd hb h hi hp
  have hdl := hbi.nDir
  by_cases hc : b.2 = 0
  · rw [if_neg (by simpa using hc)]
    rw [hc] at HO
    have HND := Lib.hid (fun (W : World) (Y1 J1 : Nat → Prop) (hP : RfP Y1 J1 W rb b.1) => c_rNode W (n := name) hP (by omega))
    unfold ptrV at *
    cases hnd : node b.1.dir name with
    | none =>
      rw [show nodeI b.1.dir name = -1 by unfold nodeI; rw [hnd]] at HND
      clear hc hnd
      go_enter Tryz.func49, Tryz.ntmps49
      go_wp2_with (first | (go_at_call 81; refine HO.out.mono ?_; rintro e w1 ⟨rfl, Y1, J1, hP, hg1⟩) | (go_at_call 43; refine (HND.out w1 Y1 J1 hP).mono ?_; rintro e w2 ⟨rfl, hb2⟩))
      go_ret
      exact ⟨rfl, Y1, J1, hP.below hb2, hg1.trans (Grow.of_kb (KbP.of_below hb2))⟩
    | some i =>
      rw [show nodeI b.1.dir name = (i : Int) by unfold nodeI; rw [hnd]] at HND
      have hil : i < b.1.nodes.length := (hbi.dir.2 _ (node_some hnd)).2.2
      have Hnd2 := Lib.hid (hbi.nd i)
      obtain ⟨nn, hnn⟩ : ∃ x, x = b.1.nodes.length := ⟨_, rfl⟩
      have hil2 : (i : Int) < (nn : Int) := by omega
      have Hnn := Lib.hid hnn
      obtain ⟨sz, hsz⟩ : ∃ x, x = sizeAt b.1 i := ⟨_, rfl⟩
      show Calls _ _ _ _ (RupP Y J w rb (if n < 0 ∨ (sizeAt b.1 i : Int) < n then (b.1, 1) else if n < (sizeAt b.1 i : Int) then (change b.1 i (.cut n.toNat), 0) else (b.1, 0)))
      rw [← hsz]
      have Hsz := Lib.hid hsz
      clear hc hnd hnn hsz
      by_cases n0 : n < 0
      · rw [if_pos (.inl n0)]
        go_enter Tryz.func49, Tryz.ntmps49
        go_wp2_with (first
            | (go_at_call 81; refine HO.out.mono ?_; rintro e w1 ⟨rfl, Y1, J1, hP, hg1⟩)
            | (go_at_call 43; refine (HND.out w1 Y1 J1 hP).mono ?_; rintro e w2 ⟨rfl, hb2⟩
               obtain ⟨R, hG2⟩ := hP.below hb2
               obtain ⟨g, c, x, hnv, hnc, g0, g1, hxn, hxo, hxe⟩ := hG2.nodeAt hil
               have q7 : w2.cell? ⟨rb, 7, none⟩ = some (.slice (some ⟨g, 0, none⟩) nn c) := by rw [Hnn.out, ← hnv]; exact hG2.bk.cell 7
               have hnc2 : (nn : Int) ≤ (c : Int) := by have := Hnn.out; omega
               have HD := Lib.hid (c_rData w2 hxo (by have h := Hnd2.out.1; rw [← hxn] at h; exact h) (by have h := Hnd2.out.2; rw [← hxn] at h; simp only [NR.nd, List.length_map] at h; omega))
               have hds : x.nd.data.length = sz := by rw [hxn]; exact Hsz.out.symm
               unfold TwB NR.cs at HD
               rw [hds] at HD
               have Hxn := Lib.hid hxn
               have Hnv := Lib.hid hnv
               have Hxe := Lib.hid hxe
               clear hxn hnv hds hxe)
            | (go_at_call 44; refine HD.out.mono ?_; rintro e w3 ⟨A3, c3, rfl, hc3, ho3, hb3⟩))
        go_ret
        exact ⟨rfl, Y1, J1, (hP.below hb2).below hb3, hg1.trans (Grow.of_kb (KbP.of_below (hb2.trans (hb3.mono hb2.size))))⟩
      · by_cases n1 : (sz : Int) < n
        · rw [if_pos (.inr n1)]
          go_enter Tryz.func49, Tryz.ntmps49
          go_wp2_with (first
              | (go_at_call 81; refine HO.out.mono ?_; rintro e w1 ⟨rfl, Y1, J1, hP, hg1⟩)
              | (go_at_call 43; refine (HND.out w1 Y1 J1 hP).mono ?_; rintro e w2 ⟨rfl, hb2⟩
                 obtain ⟨R, hG2⟩ := hP.below hb2
                 obtain ⟨g, c, x, hnv, hnc, g0, g1, hxn, hxo, hxe⟩ := hG2.nodeAt hil
                 have q7 : w2.cell? ⟨rb, 7, none⟩ = some (.slice (some ⟨g, 0, none⟩) nn c) := by rw [Hnn.out, ← hnv]; exact hG2.bk.cell 7
                 have hnc2 : (nn : Int) ≤ (c : Int) := by have := Hnn.out; omega
                 have HD := Lib.hid (c_rData w2 hxo (by have h := Hnd2.out.1; rw [← hxn] at h; exact h) (by have h := Hnd2.out.2; rw [← hxn] at h; simp only [NR.nd, List.length_map] at h; omega))
                 have hds : x.nd.data.length = sz := by rw [hxn]; exact Hsz.out.symm
                 unfold TwB NR.cs at HD
                 rw [hds] at HD
                 have Hxn := Lib.hid hxn
                 have Hnv := Lib.hid hnv
                 have Hxe := Lib.hid hxe
                 clear hxn hnv hds hxe)
              | (go_at_call 44; refine HD.out.mono ?_; rintro e w3 ⟨A3, c3, rfl, hc3, ho3, hb3⟩))
          go_ret
          exact ⟨rfl, Y1, J1, (hP.below hb2).below hb3, hg1.trans (Grow.of_kb (KbP.of_below (hb2.trans (hb3.mono hb2.size))))⟩
        · rw [if_neg (by rintro (h | h); exact n0 h; exact n1 h)]
          by_cases n2 : n < (sz : Int)
          · rw [if_pos n2]
            obtain ⟨k, rfl⟩ : ∃ k : Nat, n = (k : Int) := ⟨n.toNat, by omega⟩
            rw [show ((k : Int)).toNat = k from rfl]
            go_enter Tryz.func49, Tryz.ntmps49
            go_wp2_with (first
                | (go_at_call 81; refine HO.out.mono ?_; rintro e w1 ⟨rfl, Y1, J1, hP, hg1⟩)
                | (go_at_call 43; refine (HND.out w1 Y1 J1 hP).mono ?_; rintro e w2 ⟨rfl, hb2⟩
                   obtain ⟨R, hG2⟩ := hP.below hb2
                   obtain ⟨g, c, x, hnv, hnc, g0, g1, hxn, hxo, hxe⟩ := hG2.nodeAt hil
                   have q7 : w2.cell? ⟨rb, 7, none⟩ = some (.slice (some ⟨g, 0, none⟩) nn c) := by rw [Hnn.out, ← hnv]; exact hG2.bk.cell 7
                   have hnc2 : (nn : Int) ≤ (c : Int) := by have := Hnn.out; omega
                   have HD := Lib.hid (c_rData w2 hxo (by have h := Hnd2.out.1; rw [← hxn] at h; exact h) (by have h := Hnd2.out.2; rw [← hxn] at h; simp only [NR.nd, List.length_map] at h; omega))
                   have hds : x.nd.data.length = sz := by rw [hxn]; exact Hsz.out.symm
                   unfold TwB NR.cs at HD
                   rw [hds] at HD
                   have Hxn := Lib.hid hxn
                   have Hnv := Lib.hid hnv
                   have Hxe := Lib.hid hxe
                   clear hxn hnv hds hxe)
                | (go_at_call 44; refine HD.out.mono ?_; rintro e w3 ⟨A3, c3, rfl, hc3, ho3, hb3⟩))
            have hb3w : Below w2.heap.size w2 w3 := hb3
            have hG3 := hG2.below hb3
            have hgl : g < w2.heap.size := hG2.lt g (.inl (hG2.ynv g (by rw [Hnv.out]; rfl)))
            have HS := Lib.hid (fun (W : World) (hb : Below w3.drew.heap.size w3.drew W) => show W.cell? ⟨rb, 7, none⟩ = some (.slice (some ⟨g, 0, none⟩) nn c) ∧ W.cell? ⟨g, i * 2 + 1, none⟩ = some (.slice x.A2 x.L.length x.c2) ∧ W.frozen? ⟨g, i * 2 + 1, none⟩ = false ∧ RfG Y1 J1 W rb b.1 R ∧ RdK W W.heap.size 3 x.A2 x.L.length (x.L.flatMap CR.cs) from by
              have h3 := hG3.below ((Below.refl w3.heap.size w3).drew.trans hb)
              have hOw := h3.nodes
              rw [Hnv.out] at hOw
              refine ⟨by rw [Hnn.out, ← Hnv.out]; exact h3.bk.cell 7, ?_, World.ownsRow.frozenAt hOw (i * 2 + 1), h3, ((hxo.below hb3).below ((Below.refl w3.heap.size w3).drew.trans hb)).ch.rd⟩
              exact (((Below.refl w3.heap.size w3).drew.trans hb).cell (p := ⟨g, i * 2 + 1, none⟩) (Nat.lt_of_lt_of_le hgl hb3.size)).trans ((hb3.cell (p := ⟨g, i * 2 + 1, none⟩) hgl).trans g1))
            have hLl : x.L.length ≤ 1048576 := by have h := Hnd2.out.2; rw [← Hxn.out] at h; simp only [NR.nd, List.length_map] at h; omega
            have hs0 := HS.out w3.drew (Below.refl _ _)
            have hHeld : (fun W : World => W.cell? ⟨rb, 7, none⟩ = some (.slice (some ⟨g, 0, none⟩) nn c) ∧ W.cell? ⟨g, i * 2 + 1, none⟩ = some (.slice x.A2 x.L.length x.c2)) w3.drew := ⟨hs0.1, hs0.2.1⟩
            refine wp_region_U (S := fun W : World => W.cell? ⟨rb, 7, none⟩ = some (.slice (some ⟨g, 0, none⟩) nn c) ∧ W.cell? ⟨g, i * 2 + 1, none⟩ = some (.slice x.A2 x.L.length x.c2)) (ks := [3, 8, 10, 11, 12, 13, 15, 16, 17]) (by kernel_rfl) ?_
            simp only [List.size_toArray, List.length_cons, List.length_nil, Nat.reduceAdd]
            refine uPure (i := 0) (v := ?_) rfl (by kernel_rfl) (by kernel_rfl) (by kernel_rfl) (by kernel_rfl) (fun _ _ _ h => h) (by rfl) ?_ ?_
            rotate_left
            · (intro w; go_simp; try with_reducible rfl)
            try simp only [Act.put, List.setIfInBounds_toArray, List.set_cons_zero, List.set_cons_succ]
            refine uPure (i := 1) (v := ?_) rfl (by kernel_rfl) (by kernel_rfl) (by kernel_rfl) (by kernel_rfl) (fun _ _ _ h => h) (by rfl) ?_ ?_
            rotate_left
            · (intro w; go_simp; try with_reducible rfl)
            try simp only [Act.put, List.setIfInBounds_toArray, List.set_cons_zero, List.set_cons_succ]
            refine uPure (i := 2) (v := ?_) rfl (by kernel_rfl) (by kernel_rfl) (by kernel_rfl) (by kernel_rfl) (fun _ _ _ h => h) (by rfl) ?_ ?_
            rotate_left
            · (intro w; go_simp; try with_reducible rfl)
            try simp only [Act.put, List.setIfInBounds_toArray, List.set_cons_zero, List.set_cons_succ]
            refine uPure (i := 4) (v := ?_) rfl (by kernel_rfl) (by kernel_rfl) (by kernel_rfl) (by kernel_rfl) (fun _ _ _ h => h) (by rfl) ?_ ?_
            rotate_left
            · (intro w; go_simp; try with_reducible rfl)
            try simp only [Act.put, List.setIfInBounds_toArray, List.set_cons_zero, List.set_cons_succ]
            refine uPure (i := 5) (v := ?_) rfl (by kernel_rfl) (by kernel_rfl) (by kernel_rfl) (by kernel_rfl) (fun _ _ _ h => h) (by rfl) ?_ ?_
            rotate_left
            · (intro w; go_simp; try with_reducible rfl)
            try simp only [Act.put, List.setIfInBounds_toArray, List.set_cons_zero, List.set_cons_succ]
            refine uPure (i := 6) (v := ?_) rfl (by kernel_rfl) (by kernel_rfl) (by kernel_rfl) (by kernel_rfl) (fun _ _ _ h => h) (by rfl) ?_ ?_
            rotate_left
            · (intro w; go_simp; try with_reducible rfl)
            try simp only [Act.put, List.setIfInBounds_toArray, List.set_cons_zero, List.set_cons_succ]
            refine uPure (i := 7) (v := ?_) rfl (by kernel_rfl) (by kernel_rfl) (by kernel_rfl) (by kernel_rfl) (fun _ _ _ h => h) (by rfl) ?_ ?_
            rotate_left
            · (intro w; go_simp; try with_reducible rfl)
            try simp only [Act.put, List.setIfInBounds_toArray, List.set_cons_zero, List.set_cons_succ]
            refine uPure (i := 9) (v := ?_) rfl (by kernel_rfl) (by kernel_rfl) (by kernel_rfl) (by kernel_rfl) (fun _ _ _ h => h) (by rfl) ?_ ?_
            rotate_left
            · (intro w; go_simp; try with_reducible rfl)
            try simp only [Act.put, List.setIfInBounds_toArray, List.set_cons_zero, List.set_cons_succ]
            refine uPure (i := 14) (v := ?_) rfl (by kernel_rfl) (by kernel_rfl) (by kernel_rfl) (by kernel_rfl) (fun _ _ _ h => h) (by rfl) ?_ ?_
            rotate_left
            · (intro w; go_simp; try with_reducible rfl)
            try simp only [Act.put, List.setIfInBounds_toArray, List.set_cons_zero, List.set_cons_succ]
            refine uTake (i := 3) (v := ?_) rfl (by kernel_rfl) (by kernel_rfl) (by kernel_rfl) (by kernel_rfl) (fun _ _ _ h => h) hHeld (by rfl) ?_ ?_
            rotate_left
            · (intro w hSw; (try dsimp only at hSw); go_simp; try with_reducible rfl)
            try simp only [Act.put, List.setIfInBounds_toArray, List.set_cons_zero, List.set_cons_succ]
            refine uTake (i := 8) (v := ?_) rfl (by kernel_rfl) (by kernel_rfl) (by kernel_rfl) (by kernel_rfl) (fun _ _ _ h => h) hHeld (by rfl) ?_ ?_
            rotate_left
            · (intro w hSw; (try dsimp only at hSw); go_simp; try with_reducible rfl)
            try simp only [Act.put, List.setIfInBounds_toArray, List.set_cons_zero, List.set_cons_succ]
            refine uTake (i := 10) (v := ?_) rfl (by kernel_rfl) (by kernel_rfl) (by kernel_rfl) (by kernel_rfl) (fun _ _ _ h => h) hHeld (by rfl) ?_ ?_
            rotate_left
            · (intro w hSw; (try dsimp only at hSw); go_simp; try with_reducible rfl)
            try simp only [Act.put, List.setIfInBounds_toArray, List.set_cons_zero, List.set_cons_succ]
            refine uTake (i := 11) (v := ?_) rfl (by kernel_rfl) (by kernel_rfl) (by kernel_rfl) (by kernel_rfl) (fun _ _ _ h => h) hHeld (by rfl) ?_ ?_
            rotate_left
            · (intro w hSw; (try dsimp only at hSw); go_simp; try with_reducible rfl)
            try simp only [Act.put, List.setIfInBounds_toArray, List.set_cons_zero, List.set_cons_succ]
            refine uTake (i := 12) (v := ?_) rfl (by kernel_rfl) (by kernel_rfl) (by kernel_rfl) (by kernel_rfl) (fun _ _ _ h => h) hHeld (by rfl) ?_ ?_
            rotate_left
            · (intro w hSw; (try dsimp only at hSw); go_simp; try with_reducible rfl)
            try simp only [Act.put, List.setIfInBounds_toArray, List.set_cons_zero, List.set_cons_succ]
            refine uTake (i := 15) (v := ?_) rfl (by kernel_rfl) (by kernel_rfl) (by kernel_rfl) (by kernel_rfl) (fun _ _ _ h => h) hHeld (by rfl) ?_ ?_
            rotate_left
            · (intro w hSw; (try dsimp only at hSw); go_simp; try with_reducible rfl)
            try simp only [Act.put, List.setIfInBounds_toArray, List.set_cons_zero, List.set_cons_succ]
            refine uStep2 (i := 13) (j := 16) rfl rfl (by kernel_rfl) (fun K hK => ?_) (fun K hK => ?_)
            · refine at_app (.const (.slice none 0 0)) (.tmp 51) ?_
              refine stepK_sl rfl (.const (.slice none 0 0)) (.tmp 51) rfl slcg (by decide) rfl (OwnK.nil_ _ w3.drew.heap.size _ _) (Nat.le_refl _) rfl hs0.2.2.2.2 (fun u hu => by obtain ⟨y, _, hy⟩ := List.mem_flatMap.1 hu; exact CR.cs_one y u hy) (by omega) ?_
              intro v5 w5 ho5 hb5 hg5 hat5
              rw [Nat.zero_add, List.nil_append] at ho5
              have hs5 := HS.out w5 hb5
              have hHeldN : (fun W : World => W.cell? ⟨rb, 7, none⟩ = some (.slice (some ⟨g, 0, none⟩) nn c) ∧ W.cell? ⟨g, i * 2 + 1, none⟩ = some (.slice x.A2 x.L.length x.c2)) _ := ⟨hs5.1, hs5.2.1⟩
              refine hK.out _ _ (fun _ => hHeldN) ?_
              clear hK K hHeld
              have hHeld := hHeldN
              clear hHeldN
              try simp only [Act.put, List.setIfInBounds_toArray, List.set_cons_zero, List.set_cons_succ]
              refine uStep (i := 16) rfl (by kernel_rfl) (fun K hK => ?_)
              go_simp
              have hO := World.ownsRow.alloc ho5 (.cells #[.bool true, .int .i64 (k : Int), .slice none 0 0] 141)
              have hNb := Bk.new_ w5 141 #[.bool true, .int .i64 (k : Int), .slice none 0 0]
              have hWb := hb5.alloc hb5.size (.cells #[.bool true, .int .i64 (k : Int), .slice none 0 0] 141)
              have hs6 := HS.out _ hWb
              have hHeldN : (fun W : World => W.cell? ⟨rb, 7, none⟩ = some (.slice (some ⟨g, 0, none⟩) nn c) ∧ W.cell? ⟨g, i * 2 + 1, none⟩ = some (.slice x.A2 x.L.length x.c2)) _ := ⟨hs6.1, hs6.2.1⟩
              refine hK.out _ _ (fun _ => hHeldN) ?_
              clear hK K hHeld
              have hHeld := hHeldN
              clear hHeldN
              try simp only [Act.put, List.setIfInBounds_toArray, List.set_cons_zero, List.set_cons_succ]
              refine uStep (i := 17) rfl (by kernel_rfl) (fun K hK => ?_)
              refine at_app (.tmp 52) (.tmp 55) ?_
              refine stepK_new rfl (.tmp 52) (.tmp 55) rfl slcg (by decide) rfl hO hWb.size rfl (news := [.bool true, .int .i64 (k : Int), .slice none 0 0]) rfl (fun j u hu => by rw [Nat.zero_add]; exact (hNb.cell j).trans (by simpa using hu)) (by intro u hu; simp only [List.mem_cons, List.not_mem_nil, or_false] at hu; rcases hu with rfl | rfl | rfl <;> rfl) (by omega) ?_
              intro v8 w8 ho8 hb8 hg8 hat8
              obtain ⟨A8, c8, rfl, hc8⟩ := ho8.shape
              have hb8w : Below w3.drew.heap.size w3.drew w8 := hWb.trans hb8
              have hs8 := HS.out w8 hb8w
              have z8 := hs8.2.2.1
              have hHeldN : (fun W : World => W.cell? ⟨rb, 7, none⟩ = some (.slice (some ⟨g, 0, none⟩) nn c) ∧ W.cell? ⟨g, i * 2 + 1, none⟩ = some (.slice x.A2 x.L.length x.c2)) _ := ⟨hs8.1, hs8.2.1⟩
              refine hK.out _ _ (fun _ => hHeldN) ?_
              clear hK K hHeld
              have hHeld := hHeldN
              clear hHeldN
              try simp only [Act.put, List.setIfInBounds_toArray, List.set_cons_zero, List.set_cons_succ]
              refine uPure (i := 18) (v := ?_) rfl (by kernel_rfl) (by kernel_rfl) (by kernel_rfl) (by kernel_rfl) (fun _ _ _ h => h) (by rfl) ?_ ?_
              rotate_left
              · (intro w; go_simp; try with_reducible rfl)
              try simp only [Act.put, List.setIfInBounds_toArray, List.set_cons_zero, List.set_cons_succ]
              refine uPure (i := 19) (v := ?_) rfl (by kernel_rfl) (by kernel_rfl) (by kernel_rfl) (by kernel_rfl) (fun _ _ _ h => h) (by rfl) ?_ ?_
              rotate_left
              · (intro w; go_simp; try with_reducible rfl)
              try simp only [Act.put, List.setIfInBounds_toArray, List.set_cons_zero, List.set_cons_succ]
              refine uStep (i := 20) rfl (by kernel_rfl) (fun K hK => ?_)
              go_simp
              refine hK.out _ _ (fun h => absurd h (by decide)) ?_
              clear hK K
              try simp only [Act.put, List.setIfInBounds_toArray, List.set_cons_zero, List.set_cons_succ]
              refine uDone (by kernel_rfl) ?_ _
              have hF := RfG.addCh (y := ⟨.cut k, none, 0⟩) (i := i) hs8.2.2.2.1 Hnv.out hil Hxe.out ho8 (fun q hq => hG3.lt q (.inl hq)) (by intro d hd; cases hd)
              have hgY : Y1 g := hG2.ynv g (by rw [Hnv.out]; rfl)
              have Hk := Lib.hid (((((KbP.of_below hb2 : KbP Y1 w1 w2).after hb3).after (Below.refl w3.heap.size w3).drew).after hb8w).setCell (p := ⟨g, i * 2 + 1, none⟩) (.inl hgY) (.slice A8 (x.L.length + 1) c8))
              have Hfin := Lib.hid (show RfG Y1 (JG J1 w3.drew.heap.size w8.heap.size) _ rb (setNd b.1 i ⟨(Fsy.ndAt b.1.nodes i).safe, (Fsy.ndAt b.1.nodes i).chg ++ [.cut k]⟩) _ from by rw [← Hxn.out]; exact hF)
              clear hF hHeld
              go_wp2
              go_ret
              refine ⟨rfl, Y1, JG J1 w3.drew.heap.size w8.heap.size, ⟨_, Hfin.out⟩, hg1.trans ⟨fun b hb => .inl hb, ?_, Hk.out⟩⟩
              rintro b (hb | hb)
              · exact .inl hb
              · exact .inr (Nat.le_trans hb2.size (Nat.le_trans hb3.size hb.1))
            · go_simp
              have hNb0 := Bk.new_ w3.drew 141 #[.bool true, .int .i64 (k : Int), .slice none 0 0]
              have hb4 := (Below.refl w3.drew.heap.size w3.drew).alloc (Nat.le_refl _) (.cells #[.bool true, .int .i64 (k : Int), .slice none 0 0] 141)
              have hs4 := HS.out _ hb4
              have hHeldN : (fun W : World => W.cell? ⟨rb, 7, none⟩ = some (.slice (some ⟨g, 0, none⟩) nn c) ∧ W.cell? ⟨g, i * 2 + 1, none⟩ = some (.slice x.A2 x.L.length x.c2)) _ := ⟨hs4.1, hs4.2.1⟩
              refine hK.out _ _ (fun _ => hHeldN) ?_
              clear hK K hHeld
              have hHeld := hHeldN
              clear hHeldN
              try simp only [Act.put, List.setIfInBounds_toArray, List.set_cons_zero, List.set_cons_succ]
              refine uStep (i := 13) rfl (by kernel_rfl) (fun K hK => ?_)
              refine at_app (.const (.slice none 0 0)) (.tmp 51) ?_
              refine stepK_sl rfl (.const (.slice none 0 0)) (.tmp 51) rfl slcg (by decide) rfl (OwnK.nil_ _ (w3.drew.heap.size + 1) _ _) (by simp) rfl hs4.2.2.2.2 (fun u hu => by obtain ⟨y, _, hy⟩ := List.mem_flatMap.1 hu; exact CR.cs_one y u hy) (by omega) ?_
              intro v5 w5 ho5 hb5 hg5 hat5
              rw [Nat.zero_add, List.nil_append] at ho5
              have hNb := hNb0.below hb5 (by simp)
              have hO := ownK_mono ho5 (show w3.drew.heap.size ≤ w3.drew.heap.size + 1 by omega)
              have hWb := hb4.trans (hb5.mono (show w3.drew.heap.size ≤ w3.drew.heap.size + 1 by omega))
              have hs5 := HS.out w5 hWb
              have hHeldN : (fun W : World => W.cell? ⟨rb, 7, none⟩ = some (.slice (some ⟨g, 0, none⟩) nn c) ∧ W.cell? ⟨g, i * 2 + 1, none⟩ = some (.slice x.A2 x.L.length x.c2)) _ := ⟨hs5.1, hs5.2.1⟩
              refine hK.out _ _ (fun _ => hHeldN) ?_
              clear hK K hHeld
              have hHeld := hHeldN
              clear hHeldN
              try simp only [Act.put, List.setIfInBounds_toArray, List.set_cons_zero, List.set_cons_succ]
              refine uStep (i := 17) rfl (by kernel_rfl) (fun K hK => ?_)
              refine at_app (.tmp 52) (.tmp 55) ?_
              refine stepK_new rfl (.tmp 52) (.tmp 55) rfl slcg (by decide) rfl hO hWb.size rfl (news := [.bool true, .int .i64 (k : Int), .slice none 0 0]) rfl (fun j u hu => by rw [Nat.zero_add]; exact (hNb.cell j).trans (by simpa using hu)) (by intro u hu; simp only [List.mem_cons, List.not_mem_nil, or_false] at hu; rcases hu with rfl | rfl | rfl <;> rfl) (by omega) ?_
              intro v8 w8 ho8 hb8 hg8 hat8
              obtain ⟨A8, c8, rfl, hc8⟩ := ho8.shape
              have hb8w : Below w3.drew.heap.size w3.drew w8 := hWb.trans hb8
              have hs8 := HS.out w8 hb8w
              have z8 := hs8.2.2.1
              have hHeldN : (fun W : World => W.cell? ⟨rb, 7, none⟩ = some (.slice (some ⟨g, 0, none⟩) nn c) ∧ W.cell? ⟨g, i * 2 + 1, none⟩ = some (.slice x.A2 x.L.length x.c2)) _ := ⟨hs8.1, hs8.2.1⟩
              refine hK.out _ _ (fun _ => hHeldN) ?_
              clear hK K hHeld
              have hHeld := hHeldN
              clear hHeldN
              try simp only [Act.put, List.setIfInBounds_toArray, List.set_cons_zero, List.set_cons_succ]
              refine uPure (i := 18) (v := ?_) rfl (by kernel_rfl) (by kernel_rfl) (by kernel_rfl) (by kernel_rfl) (fun _ _ _ h => h) (by rfl) ?_ ?_
              rotate_left
              · (intro w; go_simp; try with_reducible rfl)
              try simp only [Act.put, List.setIfInBounds_toArray, List.set_cons_zero, List.set_cons_succ]
              refine uPure (i := 19) (v := ?_) rfl (by kernel_rfl) (by kernel_rfl) (by kernel_rfl) (by kernel_rfl) (fun _ _ _ h => h) (by rfl) ?_ ?_
              rotate_left
              · (intro w; go_simp; try with_reducible rfl)
              try simp only [Act.put, List.setIfInBounds_toArray, List.set_cons_zero, List.set_cons_succ]
              refine uStep (i := 20) rfl (by kernel_rfl) (fun K hK => ?_)
              go_simp
              refine hK.out _ _ (fun h => absurd h (by decide)) ?_
              clear hK K
              try simp only [Act.put, List.setIfInBounds_toArray, List.set_cons_zero, List.set_cons_succ]
              refine uDone (by kernel_rfl) ?_ _
              have hF := RfG.addCh (y := ⟨.cut k, none, 0⟩) (i := i) hs8.2.2.2.1 Hnv.out hil Hxe.out ho8 (fun q hq => hG3.lt q (.inl hq)) (by intro d hd; cases hd)
              have hgY : Y1 g := hG2.ynv g (by rw [Hnv.out]; rfl)
              have Hk := Lib.hid (((((KbP.of_below hb2 : KbP Y1 w1 w2).after hb3).after (Below.refl w3.heap.size w3).drew).after hb8w).setCell (p := ⟨g, i * 2 + 1, none⟩) (.inl hgY) (.slice A8 (x.L.length + 1) c8))
              have Hfin := Lib.hid (show RfG Y1 (JG J1 w3.drew.heap.size w8.heap.size) _ rb (setNd b.1 i ⟨(Fsy.ndAt b.1.nodes i).safe, (Fsy.ndAt b.1.nodes i).chg ++ [.cut k]⟩) _ from by rw [← Hxn.out]; exact hF)
              clear hF hHeld
              go_wp2
              go_ret
              refine ⟨rfl, Y1, JG J1 w3.drew.heap.size w8.heap.size, ⟨_, Hfin.out⟩, hg1.trans ⟨fun b hb => .inl hb, ?_, Hk.out⟩⟩
              rintro b (hb | hb)
              · exact .inl hb
              · exact .inr (Nat.le_trans hb2.size (Nat.le_trans hb3.size hb.1))
          · rw [if_neg n2]
            go_enter Tryz.func49, Tryz.ntmps49
            go_wp2_with (first
                | (go_at_call 81; refine HO.out.mono ?_; rintro e w1 ⟨rfl, Y1, J1, hP, hg1⟩)
                | (go_at_call 43; refine (HND.out w1 Y1 J1 hP).mono ?_; rintro e w2 ⟨rfl, hb2⟩
                   obtain ⟨R, hG2⟩ := hP.below hb2
                   obtain ⟨g, c, x, hnv, hnc, g0, g1, hxn, hxo, hxe⟩ := hG2.nodeAt hil
                   have q7 : w2.cell? ⟨rb, 7, none⟩ = some (.slice (some ⟨g, 0, none⟩) nn c) := by rw [Hnn.out, ← hnv]; exact hG2.bk.cell 7
                   have hnc2 : (nn : Int) ≤ (c : Int) := by have := Hnn.out; omega
                   have HD := Lib.hid (c_rData w2 hxo (by have h := Hnd2.out.1; rw [← hxn] at h; exact h) (by have h := Hnd2.out.2; rw [← hxn] at h; simp only [NR.nd, List.length_map] at h; omega))
                   have hds : x.nd.data.length = sz := by rw [hxn]; exact Hsz.out.symm
                   unfold TwB NR.cs at HD
                   rw [hds] at HD
                   have Hxn := Lib.hid hxn
                   have Hnv := Lib.hid hnv
                   have Hxe := Lib.hid hxe
                   clear hxn hnv hds hxe)
                | (go_at_call 44; refine HD.out.mono ?_; rintro e w3 ⟨A3, c3, rfl, hc3, ho3, hb3⟩))
            go_ret
            exact ⟨rfl, Y1, J1, (hP.below hb2).below hb3, hg1.trans (Grow.of_kb (KbP.of_below (hb2.trans (hb3.mono hb2.size))))⟩
  · rw [if_pos hc]
    obtain ⟨st, cd⟩ := b
    simp only at hc HO
    have hcd : (cd == 0) = false := by rw [beq_eq_false_iff_ne]; exact hc
    unfold ptrV at *
    go_enter Tryz.func49, Tryz.ntmps49
    go_wp2_with (first | (go_at_call 81; refine HO.out.mono ?_; rintro e w1 ⟨rfl, Y1, J1, hP, hg1⟩))
    go_ret
    exact ⟨rfl, Y1, J1, hP, hg1⟩
end Go.Proofs.YtaanmnplfppdeaaGreat
