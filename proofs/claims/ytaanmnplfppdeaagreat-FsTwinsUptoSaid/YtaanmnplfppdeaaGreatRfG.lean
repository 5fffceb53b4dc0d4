/- Layer 1: the document's file system: a death: the walk of Die. -/
import Derived.Test.YtaanmnplfppdeaaGreatRfC
import Derived.Test.YtaanmnplfppdeaaGreatHeldT
namespace Go.Proofs.YtaanmnplfppdeaaGreat
open Go.RowKit Go.Lec Go.Fsy Go.Op Go.Maps
theorem c_rMoved (w : World) {B : Nat} {A : Option Addr} {c : Nat} {l : Dir} (m : Mv) (hr : RdK w B 2 A l.length (l.flatMap nmCs)) (hB : B ≤ w.heap.size) (hl : l.length ≤ 1048576) :
    Calls Tryz.prog 84 #[.slice A l.length c, .agg (rmCs m).toArray] w (DirP w (moved l m)) := by
  cases m with
  | made a i => exact c_moved_made w hr hB hl
  | ren a b i => exact c_moved_ren w hr hB hl
  | rem a => exact c_moved_rem w hr hB hl
theorem twin_take (w4 : World) {B cb bl n : Nat} {Ab : Option Addr} {bb : Bs} (ho : Lec.Own w4 B 5 (.slice Ab bl cb) (bcs bb)) (hnl : n ≤ bl) (he : bl = bb.length) (hb : bl ≤ 268435456) :
    Calls Tryz.prog 80 #[.slice Ab n cb] w4 fun e w' => ∃ A c, e = .returned (.slice A n c) ∧ n ≤ c ∧ Lec.Own w' w4.heap.size 5 (.slice A n c) (bcs (bb.take n)) ∧ Below w4.heap.size w4 w' := by
  have h1 := ho.rd.take_ hnl
  rw [← bcs_take] at h1
  have h2 := c_rTwin w4 (c := cb) h1 (by omega)
  unfold TwB at h2
  rw [show (bb.take n).length = n by rw [List.length_take]; omega] at h2
  exact h2
theorem beq_cast (a b : Nat) : ((a : Int) == (b : Int)) = (a == b) := by
  rw [Bool.eq_iff_iff, beq_iff_eq, beq_iff_eq]
  exact Int.ofNat_inj
/-- The state with some of the moves survived. -/
def sfSt (s : St) (k : Nat) : St := { s with safe := (s.mvs.take k).foldl moved s.safe }
/-- What a death leaves. -/
def RdieP (Y J : Nat → Prop) (w : World) (rb : Nat) (s : St) (e : Ending) (w' : World) : Prop := e = .returned (.tuple #[]) ∧ ∃ J', RfP Y J' w' rb s ∧ Grow Y J w Y J' w'
set_option maxRecDepth 100000 in
set_option maxHeartbeats 4000000 in
theorem c_rDie (w : World) {Y J : Nat → Prop} {rb N : Nat} {s : St} (h : RfP Y J w rb s) (hi : Fsy.Inv s N) (hN : N ≤ 1048576) (hp : s.pl.ok) :
    Calls Tryz.prog 85 #[ptrV rb] w (RdieP Y J w rb (Fsy.die s)) := by
  obtain ⟨R, hG⟩ := h
  have hb0 := (Below.refl w.heap.size w).alloc (Nat.le_refl _) (.cells #[.int .i64 0] 3)
  have hA0 := Bk.new_ w 3 #[.int .i64 0]
  have hG0 := hG.below hb0
  have hD0 : RD Y J w (w.alloc (.cells #[.int .i64 0] 3)) rb w.heap.size s R 0 := by
    have hjl : ∀ b, J b → b < w.heap.size ∧ ¬ Y b := fun b hb => ⟨hG.lt b (.inr hb), hG.yj b hb⟩
    have hyl : ∀ b, Y b → b < w.heap.size := fun b hb => hG.lt b (.inl hb)
    refine ⟨hG0.more (fun b hb => .inl hb) ?_ ?_, hA0, KbP.of_below hb0, Nat.le_refl _, hyl, hjl⟩
    · rintro b (hb | hb) hy
      · exact (hjl b hb).2 hy
      · have := hyl b hy; omega
    · rintro b (hb | hb)
      · have := (hjl b hb).1; simp; omega
      · exact hb.2.2
  obtain ⟨ab, hab⟩ : ∃ x, x = w.heap.size := ⟨_, rfl⟩
  rw [← hab] at hD0 hA0
  obtain ⟨W1, hW1⟩ : ∃ x, x = w.alloc (.cells #[.int .i64 0] 3) := ⟨_, rfl⟩
  rw [← hW1] at hD0 hA0 hG0
  have HK := Lib.hid (c_rKeep W1 (i := 0) (hG0.bk.cell 1) hG0.rk.rd hA0 (by omega) hp.1)
  obtain ⟨Am, cm, hmv, hcm⟩ := hG0.mvs.shape
  obtain ⟨sv, hsv⟩ : ∃ x, x = survive (keepAt s.pl.keep 0) s.mvs.length := ⟨_, rfl⟩
  have hsvl : sv ≤ s.mvs.length := by rw [hsv]; exact survive_le _ _
  have hkr := keepAt_rng hp.2.2.2.1 0
  have hnm := hi.nSafe
  obtain ⟨nm, hnmE⟩ : ∃ x, x = s.mvs.length := ⟨_, rfl⟩
  obtain ⟨k0, hk0E⟩ : ∃ x, x = keepAt s.pl.keep 0 := ⟨_, rfl⟩
  unfold RkP at HK
  rw [← hk0E] at HK hkr hsv
  rw [← hnmE] at hsvl hmv hcm hsv hnm
  have HD0 := Lib.hid hD0
  have HW1 := Lib.hid hW1
  have Hab := Lib.hid hab
  have Hmv := Lib.hid hmv
  have HnmE := Lib.hid hnmE
  have Hk0E := Lib.hid hk0E
  have Hsv := Lib.hid hsv
  have cmv : ∀ (W : World) (R' : RGeo) (s' : St), R'.mv = R.mv → Bk W rb 95 (rfCs s' R') → W.cell? ⟨rb, 10, none⟩ = some (.slice Am nm cm) := fun W R' s' he hb => by rw [← Hmv.out, ← he]; exact hb.cell 10
  have Hcmv := Lib.hid cmv
  clear hG hb0 hA0 hG0 hD0 hab hW1 hmv hnmE hk0E hsv cmv
  unfold ptrV at *
  go_enter Tryz.func85, Tryz.ntmps85
  go_upto_if 25 with (first | (rw [← Hab.out, ← HW1.out]; go_at_call 95; refine HK.out.mono ?_; rintro e w2 ⟨rfl, hA2, hk2⟩; have q10 : w2.cell? ⟨rb, 10, none⟩ = some (.slice Am nm cm) := Hcmv.out w2 R s rfl (HD0.out.kbP hk2 hA2).g.bk))
  have HD2 := Lib.hid (HD0.out.kbP hk2 hA2)
  clear hA2 hk2 HK
  go_cut [4] (fun v wc => v = .int .i64 (sv : Int) ∧ wc = w2)
  case first =>
    by_cases h0 : k0 < 0
    · have hs : sv = nm := by rw [Hsv.out]; unfold survive; rw [if_pos h0]
      have Hs := Lib.hid hs
      have hd : k0 < 0 := h0
      clear hs h0
      go_wp2_with fail
      go_meet
      exact ⟨by rw [Hs.out], rfl⟩
    · obtain ⟨kn, hkn⟩ : ∃ x : Nat, k0 = (x : Int) := ⟨k0.toNat, by omega⟩
      subst hkn
      have hs : sv = kn % (nm + 1) := by rw [Hsv.out]; unfold survive; rw [if_neg h0]; rfl
      have hm : (kn : Int) % ((nm : Int) + 1) = (sv : Int) := by rw [hs, Int.natCast_emod]; rfl
      have hz : (((nm : Int) + 1) == 0) = false := by rw [beq_eq_false_iff_ne]; omega
      clear hs h0
      go_wp2_with fail
      go_meet
      exact ⟨by rw [hm], rfl⟩
  case rest =>
    obtain ⟨rfl, rfl⟩ := hcut
    have i1 : (sv : Int) ≤ (cm : Int) := by omega
    have i0 : (0 : Int) ≤ (sv : Int) := by omega
    go_wp2
    go_loopw [37] (fun i wr => ∃ (k : Nat) (R' : RGeo), k ≤ sv ∧ i = .int .i64 (k : Int) ∧ R'.mv = R.mv ∧ RD Y J w wr rb ab (sfSt s k) R' (adv s.pl.keep 0)) (fun i _ => sv - (intOf i).toNat)
    case atStart => exact ⟨0, R, Nat.zero_le _, rfl, rfl, HD2.out⟩
    case round =>
      obtain ⟨k, R', hk, rfl, hRm, hD⟩ := hrel
      have hkB : k ≤ 1048576 := by omega
      by_cases hlt : k < sv
      · have hkm : k < s.mvs.length := by have := HnmE.out; omega
        have hO : OwnK wr 0 143 4 (.slice Am nm cm) s.mvs.length (s.mvs.flatMap rmCs) := by rw [← Hmv.out, ← hRm]; exact hD.g.mvs
        obtain ⟨b, o, rfl, hbB, hcell⟩ := rdK_at rmCs_len (OwnK.rd hO) hkm rfl (by decide)
        obtain ⟨mk, hmk⟩ : ∃ x, x = s.mvs[k] := ⟨_, rfl⟩
        rw [← hmk] at hcell
        obtain ⟨x0, x1, x2, x3, hu⟩ : ∃ (x0 : Int) (x1 x2 : ByteArray) (x3 : Int), rmCs mk = [.int .i64 x0, .string x1, .string x2, .int .i64 x3] := by cases mk <;> exact ⟨_, _, _, _, rfl⟩
        rw [hu] at hcell
        have hcl := hcell wr (Below.refl _ _)
        have e0 : wr.cell? ⟨b, o + k * 4, none⟩ = some (.int .i64 x0) := hcl 0 _ rfl
        have e1 := hcl 1 _ rfl
        have e2 := hcl 2 _ rfl
        have e3 := hcl 3 _ rfl
        have hdl := movedL_len (s.mvs.take k) s.safe
        rw [List.length_take] at hdl
        have hst : (s.mvs.take (k + 1)).foldl moved s.safe = moved ((s.mvs.take k).foldl moved s.safe) mk := by rw [List.take_succ_eq_append_getElem hkm, List.foldl_append, hmk]; rfl
        have hP3 := Bk.new_ wr 143 #[.int .i64 x0, .string x1, .string x2, .int .i64 x3]
        have hb3 := (Below.refl wr.heap.size wr).alloc (Nat.le_refl _) (.cells #[.int .i64 x0, .string x1, .string x2, .int .i64 x3] 143)
        have hD3 := hD.below hb3.drew
        have habw := hD.cnt.lt
        have hlo := hD.kb.size
        have hki : (k : Int) < (sv : Int) := by omega
        obtain ⟨sf, hsf⟩ : ∃ x, x = (s.mvs.take k).foldl moved s.safe := ⟨_, rfl⟩
        have hSf : (sfSt s k).safe = sf := hsf.symm
        rw [← hsf] at hst hdl
        have hrs := hD3.g.safe.rd
        rw [hSf] at hrs
        have HM := Lib.hid (c_rMoved _ (c := R'.sc) mk hrs (Nat.le_refl _) (by have := HnmE.out; omega))
        rw [hu] at HM
        have q9 : (wr.alloc (.cells #[.int .i64 x0, .string x1, .string x2, .int .i64 x3] 143)).drew.cell? ⟨rb, 9, none⟩ = some (.slice R'.sA sf.length R'.sc) := by rw [← hSf]; exact hD3.g.bk.cell 9
        have p := hP3.cell
        obtain ⟨sl, hsl⟩ : ∃ x, x = sf.length := ⟨_, rfl⟩
        rw [← hsl] at q9 HM
        have HSt := Lib.hid (show sfSt s (k + 1) = { sfSt s k with safe := moved sf mk } by unfold sfSt; rw [hst])
        have HD3 := Lib.hid hD3
        have Hsf := Lib.hid hsf
        have Hsl := Lib.hid hsl
        have HP3 := Lib.hid hP3
        unfold DirP at HM
        clear hcell hcl hst hu hrs hSf hdl hD hD3 hmk hO hkm HD0 hsf hsl
        go_wp2
        have hHeld : (fun W : World => W.cell? ⟨rb, 9, none⟩ = some (.slice R'.sA sl R'.sc) ∧ W.cell? ⟨wr.heap.size, 0, none⟩ = some (.int .i64 x0) ∧ W.cell? ⟨wr.heap.size, 1, none⟩ = some (.string x1) ∧ W.cell? ⟨wr.heap.size, 2, none⟩ = some (.string x2) ∧ W.cell? ⟨wr.heap.size, 3, none⟩ = some (.int .i64 x3)) (wr.alloc (.cells #[.int .i64 x0, .string x1, .string x2, .int .i64 x3] 143)).drew := ⟨q9, p 0, p 1, p 2, p 3⟩
        refine wp_region_T (S := fun W : World => W.cell? ⟨rb, 9, none⟩ = some (.slice R'.sA sl R'.sc) ∧ W.cell? ⟨wr.heap.size, 0, none⟩ = some (.int .i64 x0) ∧ W.cell? ⟨wr.heap.size, 1, none⟩ = some (.string x1) ∧ W.cell? ⟨wr.heap.size, 2, none⟩ = some (.string x2) ∧ W.cell? ⟨wr.heap.size, 3, none⟩ = some (.int .i64 x3)) (m := 9) (by kernel_rfl) ?_
        simp only [List.size_toArray, List.length_cons, List.length_nil, Nat.reduceAdd]
        refine tTake (i := 0) (v := ?_) rfl (by kernel_rfl) (by kernel_rfl) (by kernel_rfl) (by kernel_rfl) (fun _ _ _ h => h) hHeld (by rfl) ?_ ?_
        rotate_left
        · (intro w hSw; (try dsimp only at hSw); go_simp; try with_reducible rfl)
        try simp only [Act.put, List.setIfInBounds_toArray, List.set_cons_zero, List.set_cons_succ]
        refine tTake (i := 1) (v := ?_) rfl (by kernel_rfl) (by kernel_rfl) (by kernel_rfl) (by kernel_rfl) (fun _ _ _ h => h) hHeld (by rfl) ?_ ?_
        rotate_left
        · (intro w hSw; (try dsimp only at hSw); go_simp; try with_reducible rfl)
        try simp only [Act.put, List.setIfInBounds_toArray, List.set_cons_zero, List.set_cons_succ]
        refine tTake (i := 2) (v := ?_) rfl (by kernel_rfl) (by kernel_rfl) (by kernel_rfl) (by kernel_rfl) (fun _ _ _ h => h) hHeld (by rfl) ?_ ?_
        rotate_left
        · (intro w hSw; (try dsimp only at hSw); go_simp; try with_reducible rfl)
        try simp only [Act.put, List.setIfInBounds_toArray, List.set_cons_zero, List.set_cons_succ]
        refine tTake (i := 3) (v := ?_) rfl (by kernel_rfl) (by kernel_rfl) (by kernel_rfl) (by kernel_rfl) (fun _ _ _ h => h) hHeld (by rfl) ?_ ?_
        rotate_left
        · (intro w hSw; (try dsimp only at hSw); go_simp; try with_reducible rfl)
        try simp only [Act.put, List.setIfInBounds_toArray, List.set_cons_zero, List.set_cons_succ]
        refine tTake (i := 4) (v := ?_) rfl (by kernel_rfl) (by kernel_rfl) (by kernel_rfl) (by kernel_rfl) (fun _ _ _ h => h) hHeld (by rfl) ?_ ?_
        rotate_left
        · (intro w hSw; (try dsimp only at hSw); go_simp; try with_reducible rfl)
        try simp only [Act.put, List.setIfInBounds_toArray, List.set_cons_zero, List.set_cons_succ]
        refine tTake (i := 5) (v := ?_) rfl (by kernel_rfl) (by kernel_rfl) (by kernel_rfl) (by kernel_rfl) (fun _ _ _ h => h) hHeld (by rfl) ?_ ?_
        rotate_left
        · (intro w hSw; (try dsimp only at hSw); go_simp; try with_reducible rfl)
        try simp only [Act.put, List.setIfInBounds_toArray, List.set_cons_zero, List.set_cons_succ]
        refine tStep (i := 6) rfl (by kernel_rfl) (fun K hK => ?_)
        go_simp
        go_at_call 84
        refine HM.out.mono ?_
        rintro e w4 ⟨A4, c4, rfl, hc4, ho4, hb4⟩
        have hD4 := HD3.out.below hb4
        have hP4 := HP3.out.drew.below hb4 (by simp)
        have p4 := hP4.cell
        have q94 : w4.cell? ⟨rb, 9, none⟩ = some (.slice R'.sA sl R'.sc) := by rw [Hsl.out, Hsf.out]; exact hD4.g.bk.cell 9
        have z94 := hD4.g.bk.frz 9
        have hHeldN : (fun W : World => W.cell? ⟨rb, 9, none⟩ = some (.slice R'.sA sl R'.sc) ∧ W.cell? ⟨wr.heap.size, 0, none⟩ = some (.int .i64 x0) ∧ W.cell? ⟨wr.heap.size, 1, none⟩ = some (.string x1) ∧ W.cell? ⟨wr.heap.size, 2, none⟩ = some (.string x2) ∧ W.cell? ⟨wr.heap.size, 3, none⟩ = some (.int .i64 x3)) _ := ⟨q94, p4 0, p4 1, p4 2, p4 3⟩
        refine hK.out _ _ (fun _ => hHeldN) ?_
        clear hK K hHeld
        have hHeld := hHeldN
        clear hHeldN
        try simp only [Act.put, List.setIfInBounds_toArray, List.set_cons_zero, List.set_cons_succ]
        refine tStep (i := 7) rfl (by kernel_rfl) (fun K hK => ?_)
        go_simp
        have hHeldN : (fun W : World => W.cell? ⟨rb, 9, none⟩ = some (.slice R'.sA sl R'.sc) ∧ W.cell? ⟨wr.heap.size, 0, none⟩ = some (.int .i64 x0) ∧ W.cell? ⟨wr.heap.size, 1, none⟩ = some (.string x1) ∧ W.cell? ⟨wr.heap.size, 2, none⟩ = some (.string x2) ∧ W.cell? ⟨wr.heap.size, 3, none⟩ = some (.int .i64 x3)) _ := hHeld
        refine hK.out _ _ (fun _ => hHeldN) ?_
        clear hK K hHeld
        have hHeld := hHeldN
        clear hHeldN
        try simp only [Act.put, List.setIfInBounds_toArray, List.set_cons_zero, List.set_cons_succ]
        refine tStep (i := 8) rfl (by kernel_rfl) (fun K hK => ?_)
        go_simp
        have hHeldN : (fun W : World => W.cell? ⟨rb, 9, none⟩ = some (.slice R'.sA sl R'.sc) ∧ W.cell? ⟨wr.heap.size, 0, none⟩ = some (.int .i64 x0) ∧ W.cell? ⟨wr.heap.size, 1, none⟩ = some (.string x1) ∧ W.cell? ⟨wr.heap.size, 2, none⟩ = some (.string x2) ∧ W.cell? ⟨wr.heap.size, 3, none⟩ = some (.int .i64 x3)) _ := hHeld
        refine hK.out _ _ (fun _ => hHeldN) ?_
        clear hK K hHeld
        have hHeld := hHeldN
        clear hHeldN
        try simp only [Act.put, List.setIfInBounds_toArray, List.set_cons_zero, List.set_cons_succ]
        refine tStep (i := 9) rfl (by kernel_rfl) (fun K hK => ?_)
        go_simp
        refine hK.out _ _ (fun h => absurd h (by decide)) ?_
        clear hK K
        try simp only [Act.put, List.setIfInBounds_toArray, List.set_cons_zero, List.set_cons_succ]
        refine tDone (by kernel_rfl) ?_ _
        have hD5 := hD4.setSafe ho4 (by simp; omega) (by simp; omega)
        go_wp2
        go_roundw
        case rel => exact ⟨k + 1, { R' with sA := A4, sc := c4 }, by omega, by go_num, hRm, by rw [HSt.out]; exact hD5⟩
        case measure => simp [intOf]; omega
      · obtain rfl : k = sv := by omega
        have hdd : (s.mvs.take k).foldl moved s.safe = dieDir s := by unfold dieDir; rw [← Hk0E.out, ← HnmE.out, ← Hsv.out]
        have hdok := dieDir_ok hi
        have hdl := dieDir_len hi
        have hDD : sfSt s k = { s with safe := dieDir s } := by unfold sfSt; rw [hdd]
        rw [hDD] at hD
        obtain ⟨D, hDe⟩ : ∃ x, x = dieDir s := ⟨_, rfl⟩
        rw [← hDe] at hD hdok hdl
        have hDm := hD.noMoves
        have z10 := hD.g.bk.frz 10
        have q10' := hD.g.bk.cell 10
        have hrs := hDm.g.safe.rd
        have q9 : (wr.setCell ⟨rb, 10, none⟩ (.slice none 0 0)).cell? ⟨rb, 9, none⟩ = some (.slice R'.sA D.length R'.sc) := hDm.g.bk.cell 9
        have HDm := Lib.hid hDm
        have Hlo := Lib.hid (show w.heap.size ≤ wr.heap.size from hD.kb.size)
        have Habw := Lib.hid hD.cnt.lt
        have HDe := Lib.hid hDe
        have hDl : D.length ≤ 1048576 := by omega
        unfold rfCs at q10'
        have Hap := fun (o : Oper) => o
        clear hdd hDD hDm hD hDe Hap
        go_wp2_with (first
            | (at_builtin; refine wpList_appK_sl (w0 := wr.setCell ⟨rb, 10, none⟩ (.slice none 0 0)) (base := (wr.setCell ⟨rb, 10, none⟩ (.slice none 0 0)).heap.size) rfl _ _ rfl slnm (by decide) rfl (OwnK.nil_ _ _ _ _) (Below.refl _ _) (Nat.le_refl _) rfl hrs (fun u hu => by obtain ⟨x, _, hx⟩ := List.mem_flatMap.1 hu; exact nmCs_one x u hx) (by rw [Nat.zero_add]; exact Nat.le_trans hDl (by decide)) ?_
               intro v5 w5 ho5 hb5 hg5 hs5
               rw [Nat.zero_add, List.nil_append] at ho5
               obtain ⟨A5, c5, rfl, hc5⟩ := ho5.shape
               have hD5 := HDm.out.below hb5
               have q8 := hD5.g.bk.cell 8
               have z8 := hD5.g.bk.frz 8
               have hD6 := hD5.setDir ho5 (by have := Hlo.out; simp; omega) (by have := Habw.out; simp; omega)
               have q86 : (w5.setCell ⟨rb, 8, none⟩ (.slice A5 D.length c5)).cell? ⟨rb, 8, none⟩ = some (.slice A5 D.length c5) := hD6.g.bk.cell 8
               have HNm := Lib.hid (c_rNames _ (c := c5) (l := D) (ptrV rb) hD6.g.dir (by show D.length ≤ _; omega))
               unfold RnmP ptrV at HNm
               unfold rfCs at q8
               have HD6 := Lib.hid hD6
               clear hD5 hD6)
            | (go_at_call 86; refine HNm.out.mono ?_; rintro e w7 ⟨A7, c7, rfl, hc7, hR7, hb7⟩))
        have hD7 : RD Y J w w7 rb ab (rdSt s D s.nodes) _ (adv s.pl.keep 0) := HD6.out.below hb7
        have hnn : (namesOf D).length = D.length := namesOf_len _
        have hWb : w.heap.size ≤ (w5.setCell ⟨rb, 8, none⟩ (.slice A5 D.length c5)).heap.size ∧ ab < (w5.setCell ⟨rb, 8, none⟩ (.slice A5 D.length c5)).heap.size := ⟨HD6.out.kb.size, HD6.out.cnt.lt⟩
        obtain ⟨n6, hn6⟩ : ∃ x, x = (w5.setCell ⟨rb, 8, none⟩ (.slice A5 D.length c5)).heap.size := ⟨_, rfl⟩
        rw [← hn6] at hWb hR7
        have HD7 := Lib.hid hD7
        have Hn6 := Lib.hid hn6
        clear hn6 hD7 HNm q86 ho5 hb5 hg5 hs5 hb7 q8 z8 q9 hrs z10 q10' HDm i0 i1
        go_loopw [70] (fun i wr => ∃ (j a : Nat) (nodes : List Nd) (R' : RGeo), j ≤ D.length ∧ i = .int .i64 (j : Int) ∧ RD Y J w wr rb ab (rdSt s D nodes) R' a ∧ KbP (fun b => Y b ∨ b = ab) w7 wr ∧ dieNames s.pl.keep D ((namesOf D).drop j) nodes a = dieNames s.pl.keep D (namesOf D) s.nodes (adv s.pl.keep 0) ∧ nodes.length = s.nodes.length ∧ (∀ n ∈ nodes, fits n.safe n.chg ∧ n.chg.length ≤ N) ∧ a ≤ 1 + j * N) (fun i _ => D.length - (intOf i).toNat)
        case atStart => exact ⟨0, adv s.pl.keep 0, s.nodes, _, Nat.zero_le _, rfl, HD7.out, KbP.refl _ _, rfl, rfl, hi.nds, by have := adv_le s.pl.keep 0; omega⟩
        case round =>
          obtain ⟨j, a, nodes, R8, hj, rfl, hD, hkp, hrun, hlen, hnds, hlea⟩ := hrel
          by_cases hlt : j < D.length
          · obtain ⟨x, hx⟩ : ∃ x, (namesOf D)[j]? = some x := ⟨_, List.getElem?_eq_getElem (by omega)⟩
            have hxm : x ∈ D.map (·.1) := by have := List.mem_of_getElem? hx; unfold namesOf at this; rwa [List.mem_mergeSort] at this
            obtain ⟨i, hnd⟩ : ∃ i, node D x = some i := by
              obtain ⟨p, hp', rfl⟩ := List.mem_map.1 hxm
              exact ⟨p.2, node_of_mem hdok.1 hp'⟩
            obtain ⟨hx0, hxl, hil⟩ := hdok.2 _ (node_some hnd)
            dsimp only at hx0 hxl hil
            have hRn := hR7.kbP hkp (by rintro b hb (h | h); · have := HD7.out.yl _ h; omega
                                        · omega)
            obtain ⟨nb, no, hA, hnb, hnc⟩ := hRn.rd.2 (by omega)
            have n0 : wr.cell? ⟨nb, no + j, none⟩ = some (.string ⟨x.toArray⟩) := hnc j _ (by simp [hx, svl])
            have hni : nodeI D x = (i : Int) := by unfold nodeI; rw [hnd]
            have hDd := hD.below (Below.refl _ _).drew
            have HNo := Lib.hid (c_rNode wr.drew (n := x) ⟨R8, hDd.g⟩ (by show D.length ≤ _; omega))
            rw [show nodeI (rdSt s D nodes).dir x = (i : Int) from hni] at HNo
            have hil2 : i < nodes.length := by omega
            obtain ⟨g, cN, hnv, hcN⟩ := ownK_ptr hD.g.nodes (show 0 < nodes.length by omega)
            have q7 : wr.drew.cell? ⟨rb, 7, none⟩ = some (.slice (some ⟨g, 0, none⟩) nodes.length cN) := by rw [show Value.slice (some ⟨g, 0, none⟩) nodes.length cN = R8.nv from hnv.symm]; exact hDd.g.bk.cell 7
            obtain ⟨nn, hnN⟩ : ∃ x, x = nodes.length := ⟨_, rfl⟩
            rw [← hnN] at q7 hil2
            subst hA
            have hjc : (j : Int) < (c7 : Int) := by omega
            have hji : (j : Int) < (D.length : Int) := by omega
            have HnN := Lib.hid hnN
            have HDd := Lib.hid hDd
            have Hnv := Lib.hid hnv
            unfold ptrV at HNo
            clear hnN hD hDd hnc hxm hRn hnv
            go_wp2
            have hHeld : (fun W : World => W.cell? ⟨rb, 7, none⟩ = some (.slice (some ⟨g, 0, none⟩) nn cN)) wr.drew := q7
            refine wp_region_held (S := fun W : World => W.cell? ⟨rb, 7, none⟩ = some (.slice (some ⟨g, 0, none⟩) nn cN)) (by kernel_rfl) ?_
            simp only [List.size_toArray, List.length_cons, List.length_nil, Nat.reduceAdd]
            refine heldTake (i := 0) (v := ?_) rfl (by kernel_rfl) (by kernel_rfl) (by kernel_rfl) (fun _ _ _ h => h) hHeld (by rfl) ?_ ?_
            rotate_left
            · (intro w hSw; (try dsimp only at hSw); go_simp; try with_reducible rfl)
            try simp only [Act.put, List.setIfInBounds_toArray, List.set_cons_zero, List.set_cons_succ]
            refine heldTake (i := 1) (v := ?_) rfl (by kernel_rfl) (by kernel_rfl) (by kernel_rfl) (fun _ _ _ h => h) hHeld (by rfl) ?_ ?_
            rotate_left
            · (intro w hSw; (try dsimp only at hSw); go_simp; try with_reducible rfl)
            try simp only [Act.put, List.setIfInBounds_toArray, List.set_cons_zero, List.set_cons_succ]
            refine heldTake (i := 2) (v := ?_) rfl (by kernel_rfl) (by kernel_rfl) (by kernel_rfl) (fun _ _ _ h => h) hHeld (by rfl) ?_ ?_
            rotate_left
            · (intro w hSw; (try dsimp only at hSw); go_simp; try with_reducible rfl)
            try simp only [Act.put, List.setIfInBounds_toArray, List.set_cons_zero, List.set_cons_succ]
            refine heldTake (i := 3) (v := ?_) rfl (by kernel_rfl) (by kernel_rfl) (by kernel_rfl) (fun _ _ _ h => h) hHeld (by rfl) ?_ ?_
            rotate_left
            · (intro w hSw; (try dsimp only at hSw); go_simp; try with_reducible rfl)
            try simp only [Act.put, List.setIfInBounds_toArray, List.set_cons_zero, List.set_cons_succ]
            refine heldTake (i := 4) (v := ?_) rfl (by kernel_rfl) (by kernel_rfl) (by kernel_rfl) (fun _ _ _ h => h) hHeld (by rfl) ?_ ?_
            rotate_left
            · (intro w hSw; (try dsimp only at hSw); go_simp; try with_reducible rfl)
            try simp only [Act.put, List.setIfInBounds_toArray, List.set_cons_zero, List.set_cons_succ]
            refine heldTake (i := 5) (v := ?_) rfl (by kernel_rfl) (by kernel_rfl) (by kernel_rfl) (fun _ _ _ h => h) hHeld (by rfl) ?_ ?_
            rotate_left
            · (intro w hSw; (try dsimp only at hSw); go_simp; try with_reducible rfl)
            try simp only [Act.put, List.setIfInBounds_toArray, List.set_cons_zero, List.set_cons_succ]
            refine heldStep (i := 6) rfl (by kernel_rfl) (fun K hK => ?_)
            go_simp
            go_at_call 43
            refine HNo.out.mono ?_
            rintro e w8 ⟨rfl, hb8⟩
            have hD8 := HDd.out.below hb8
            have q78 : w8.cell? ⟨rb, 7, none⟩ = some (.slice (some ⟨g, 0, none⟩) nn cN) := by rw [HnN.out, show Value.slice (some ⟨g, 0, none⟩) nodes.length cN = R8.nv from Hnv.out.symm]; exact hD8.g.bk.cell 7
            refine hK.out _ _ (q78) (fun hHeld => ?_)
            clear hK K
            try simp only [Act.put, List.setIfInBounds_toArray, List.set_cons_zero, List.set_cons_succ]
            refine heldTake (i := 7) (v := ?_) rfl (by kernel_rfl) (by kernel_rfl) (by kernel_rfl) (fun _ _ _ h => h) hHeld (by rfl) ?_ ?_
            rotate_left
            · (intro w hSw; (try dsimp only at hSw); go_simp; try with_reducible rfl)
            try simp only [Act.put, List.setIfInBounds_toArray, List.set_cons_zero, List.set_cons_succ]
            refine heldTake (i := 8) (v := ?_) rfl (by kernel_rfl) (by kernel_rfl) (by kernel_rfl) (fun _ _ _ h => h) hHeld (by rfl) ?_ ?_
            rotate_left
            · (intro w hSw; (try dsimp only at hSw); go_simp; try with_reducible rfl)
            try simp only [Act.put, List.setIfInBounds_toArray, List.set_cons_zero, List.set_cons_succ]
            refine wpAnyH_done (by kernel_rfl) ?_ _
            obtain ⟨xn, hxe, hxn, hxok⟩ := hD8.g.ndAt (i := i) (by show i < nodes.length; have := HnN.out; omega)
            have hOn := hD8.g.nodes
            rw [Hnv.out] at hOn
            have hnl := hD8.g.nlen
            have hiN : i < R8.NL.length := by rw [hnl]; show i < nodes.length; have := HnN.out; omega
            obtain ⟨b', o', hAe, hgl, hcell⟩ := rdK_at NR.cs_len (OwnK.rd hOn) hiN hnl (by decide)
            cases hAe
            rw [List.getElem?_eq_getElem hiN] at hxe
            rw [Option.some.inj hxe] at hcell
            have hcl := hcell w8 (Below.refl _ _)
            simp only [Nat.zero_add] at hcl
            have g0 : w8.cell? ⟨g, i * 2, none⟩ = some (.slice xn.A xn.sf.length xn.c) := hcl 0 _ rfl
            have g1 : w8.cell? ⟨g, i * 2 + 1, none⟩ = some (.slice xn.A2 xn.L.length xn.c2) := hcl 1 _ rfl
            have hnm8 : ndAt nodes i ∈ nodes := by unfold ndAt; rw [List.getD_eq_getElem?_getD, List.getElem?_eq_getElem (by have := HnN.out; omega)]; exact List.getElem_mem _
            have hft : fits xn.sf (xn.L.map CR.ch) ∧ xn.L.length ≤ N := by
              have h1 := hnds _ hnm8
              rw [show ndAt nodes i = xn.nd from hxn.symm] at h1
              exact ⟨h1.1, by simpa [NR.nd] using h1.2⟩
            have hfh := fits_head hft.1
            have HT := Lib.hid (c_rTwin w8 (c := xn.c) hxok.sf.rd (by omega))
            unfold TwB at HT
            obtain ⟨sl, hsl⟩ : ∃ x, x = xn.sf.length := ⟨_, rfl⟩
            obtain ⟨ln, hln⟩ : ∃ x, x = xn.L.length := ⟨_, rfl⟩
            rw [← hsl] at g0 HT
            rw [← hln] at g1
            have Hln := Lib.hid hln
            have Hsl := Lib.hid hsl
            clear hcell hcl hOn hnm8 hxe hln hsl
            go_wp2_with (first | (go_at_call 80; refine HT.out.mono ?_; rintro e w9 ⟨A9, c9, rfl, hc9, ho9, hb9⟩; have g19 : w9.cell? ⟨g, i * 2 + 1, none⟩ = some (.slice xn.A2 ln xn.c2) := (hb9.cell (p := ⟨g, i * 2 + 1, none⟩) hgl).trans g1))
            have hD9 := hD8.below hb9
            have hx9 := hxok.below hb9
            have hab9 := hD8.cnt.lt
            have hA9 := hD9.cnt
            have hdrN : a ≤ 1 + j * N := hlea
            have hjN : j * N ≤ 1048576 * 1048576 := Nat.mul_le_mul (by omega) hN
            obtain ⟨n8, hn8⟩ : ∃ x, x = w8.heap.size := ⟨_, rfl⟩
            have hw89 := hb9.size
            rw [← hn8] at ho9 hab9 hw89
            have HD9 := Lib.hid hD8
            have Hb9 := Lib.hid (show KbP (fun b => b = ab) w8 w9 from KbP.of_below hb9)
            have hw8 : w.heap.size ≤ n8 := by rw [hn8]; exact hD8.kb.size
            have Hkp9 := Lib.hid (hkp.drew.after hb8)
            have Hx9 := Lib.hid (fun (W : World) (hk : KbP (fun b => b = ab) w8 W) => hxok.kbP hk (fun b hb e => by
              rcases hb with hb | hb
              · have := (hD8.jl b hb).1; have := hD8.lo; omega
              · exact hb.2.1 e))
            have Hft := Lib.hid hft
            have Hxn := Lib.hid hxn
            have Hnl := Lib.hid hnl
            have Ho9 := Lib.hid ho9
            clear hD8 hD9 hx9 hxok hb9 hb8 g0 g1 q7 q78 n0 hHeld HT HDd HNo hxn hnl hiN ho9
            obtain ⟨wo, hwo⟩ : ∃ wo : World, wo = wr := ⟨_, rfl⟩
            subst hwo
            go_loopw [92, 11, 12] (fun iv bv wv wi => ∃ (r a' : Nat) (bb : Bs) (wh : Bool), r ≤ ln ∧ iv = .int .i64 (r : Int) ∧ wv = .bool wh ∧ Lec.Own wi n8 5 bv (bcs bb) ∧ parts s.pl.keep a' wh bb ((xn.L.map CR.ch).drop r) = parts s.pl.keep a true xn.sf (xn.L.map CR.ch) ∧ (wh = true → fits bb ((xn.L.map CR.ch).drop r)) ∧ bb.length ≤ 268435456 ∧ a' ≤ a + r ∧ Bk wi ab 3 #[.int .i64 (a' : Int)] ∧ KbP (fun b => b = ab) w8 wi) (fun iv _ _ _ => ln - (intOf iv).toNat)
            case atStart => exact ⟨0, a, xn.sf, true, Nat.zero_le _, rfl, rfl, by rw [Hsl.out]; rw [Hsl.out] at Ho9; exact Ho9.out, rfl, fun _ => Hft.out.1, hfh, Nat.le_refl _, hA9, Hb9.out⟩
            case round =>
              clear Ho9 hA9
              obtain ⟨r, a', bb, wh, hr, rfl, rfl, ho, hpt, hfb, hbl, ha', hA', hk'⟩ := hrel
              by_cases hrl : r < ln
              · have hrL : r < xn.L.length := by rw [← Hln.out]; exact hrl
                obtain ⟨bl, hblE⟩ : ∃ z, z = bb.length := ⟨_, rfl⟩
                obtain ⟨Ab, cb, rfl, hcb⟩ := ho.shapeN (n := bl) (by rw [hblE]; exact bcs_length bb)
                have HblE := Lib.hid hblE
                have hblB : bl ≤ 268435456 := by rw [hblE]; exact hbl
                clear hblE
                have hxw := Hx9.out wr hk'
                obtain ⟨b2, o2, hA2, hb2, hc2⟩ := rdK_at CR.cs_len hxw.ch.rd hrL rfl (by decide)
                have hcl := hc2 wr (Below.refl _ _)
                have hok := hxw.all _ (List.getElem_mem hrL)
                have hdr : (xn.L.map CR.ch).drop r = xn.L[r].ch :: (xn.L.map CR.ch).drop (r + 1) := by
                  rw [List.drop_eq_getElem_cons (by simpa using hrL)]; simp
                obtain ⟨y, hy⟩ : ∃ y, y = xn.L[r] := ⟨_, rfl⟩
                rw [← hy] at hcl hok hdr
                obtain ⟨z0, z1, Az, nz, cz, hcs⟩ : ∃ (z0 : Bool) (z1 : Int) (Az : Option Addr) (nz cz : Nat), y.cs = [.bool z0, .int .i64 z1, .slice Az nz cz] := by unfold CR.cs; cases y.ch <;> exact ⟨_, _, _, _, _, rfl⟩
                rw [hcs] at hcl
                have g0 : wr.cell? ⟨b2, o2 + r * 3, none⟩ = some (.bool z0) := hcl 0 _ rfl
                have g1 : wr.cell? ⟨b2, o2 + r * 3 + 1, none⟩ = some (.int .i64 z1) := hcl 1 _ rfl
                have g2 : wr.cell? ⟨b2, o2 + r * 3 + 2, none⟩ = some (.slice Az nz cz) := hcl 2 _ rfl
                rw [hdr] at hpt hfb
                have hDi := (HD9.out.kbP hk' hA').below ((Below.refl wr.heap.size wr).alloc (Nat.le_refl _) (.cells #[.bool z0, .int .i64 z1, .slice Az nz cz] 141))
                have HKp := Lib.hid (c_rKeep _ (i := a') (hDi.g.bk.cell 1) hDi.g.rk.rd hDi.cnt (by omega) hp.1)
                have hBx := Bk.new_ wr 141 #[.bool z0, .int .i64 z1, .slice Az nz cz]
                have habw := hA'.lt
                have hkr := keepAt_rng hp.2.2.2.1 a'
                have hav := adv_le s.pl.keep a'
                obtain ⟨kv, hkv⟩ : ∃ x, x = keepAt s.pl.keep a' := ⟨_, rfl⟩
                unfold RkP at HKp
                rw [show (rdSt s D nodes).pl.keep = s.pl.keep from rfl, ← hkv] at HKp
                rw [← hkv] at hkr
                have Hkv := Lib.hid hkv
                have hoA := ho.alloc (.cells #[.bool z0, .int .i64 z1, .slice Az nz cz] 141)
                have hkAr := (KbP.refl (fun b => b = ab) wr).alloc (.cells #[.bool z0, .int .i64 z1, .slice Az nz cz] 141)
                have hkA := hk'.alloc (.cells #[.bool z0, .int .i64 z1, .slice Az nz cz] 141)
                obtain ⟨WA, hWA⟩ : ∃ x, x = wr.alloc (.cells #[.bool z0, .int .i64 z1, .slice Az nz cz] 141) := ⟨_, rfl⟩
                have hsA : WA.heap.size = wr.heap.size + 1 := by rw [hWA]; simp
                rw [← hWA] at HKp hBx hoA hkA hkAr
                have HWA := Lib.hid hWA
                have HkAr := Lib.hid hkAr
                have hjab : ∀ b, JN J w.heap.size ab w8.heap.size b → ¬ b = ab := by
                  rintro b (hb | hb) e
                  · have := (HD9.out.jl b hb).1; have := HD9.out.lo; omega
                  · exact hb.2.1 e
                -- what holds behind the call
                have hcall : ∀ w4 : World, KbP (fun b => b = ab) WA w4 → Lec.Own w4 n8 5 _ (bcs bb) ∧ Bk w4 wr.heap.size 141 #[.bool z0, .int .i64 z1, .slice Az nz cz] ∧ KbP (fun b => b = ab) w8 w4 ∧ n8 ≤ w4.heap.size ∧ wr.heap.size < w4.heap.size ∧ ∀ u, Lec.Own (w4.setCell ⟨wr.heap.size, 2, none⟩ u) n8 5 (.slice Ab bl cb) (bcs bb) := fun w4 hk4 =>
                  have hO4 := OwnK.kbP hoA hk4 (fun gg hgg e => by have := (World.ownsRow.lt hoA gg hgg).1; omega)
                  ⟨hO4, hBx.kbP hk4 (by omega), hkA.trans hk4 (fun b hb => .inl hb), by have := hk4.size; have := hk'.size; omega, by have := hk4.size; omega, fun u => OwnK.kbP hO4 ((KbP.refl (fun b => b = wr.heap.size) w4).setCell (p := ⟨wr.heap.size, 2, none⟩) (.inl rfl) u) (fun gg hgg e => by have := (World.ownsRow.lt ho gg hgg).2; omega)⟩
                have Hcall := Lib.hid hcall
                have hend : ∀ (w5 : World) (bb2 : Bs) (wh2 : Bool) (iv bv wv : Value), iv = .int .i64 ((r : Int) + 1) → wv = .bool wh2 → Lec.Own w5 n8 5 bv (bcs bb2) → parts s.pl.keep a' wh bb (y.ch :: (xn.L.map CR.ch).drop (r + 1)) = parts s.pl.keep (adv s.pl.keep a') wh2 bb2 ((xn.L.map CR.ch).drop (r + 1)) → (wh2 = true → fits bb2 ((xn.L.map CR.ch).drop (r + 1))) → bb2.length ≤ 268435456 → Bk w5 ab 3 #[.int .i64 (adv s.pl.keep a' : Nat)] → KbP (fun b => b = ab) w8 w5 →
                    ∃ (r a' : Nat) (bb : Bs) (wh : Bool), r ≤ ln ∧ iv = .int .i64 (r : Int) ∧ wv = .bool wh ∧ Lec.Own w5 n8 5 bv (bcs bb) ∧ parts s.pl.keep a' wh bb ((xn.L.map CR.ch).drop r) = parts s.pl.keep a true xn.sf (xn.L.map CR.ch) ∧ (wh = true → fits bb ((xn.L.map CR.ch).drop r)) ∧ bb.length ≤ 268435456 ∧ a' ≤ a + r ∧ Bk w5 ab 3 #[.int .i64 (a' : Int)] ∧ KbP (fun b => b = ab) w8 w5 := by
                  intro w5 bb2 wh2 iv bv wv e1 e2 ho2 hp2 hf2 hl2 hA5 hk5
                  exact ⟨r + 1, adv s.pl.keep a', bb2, wh2, by omega, by rw [e1]; go_num, e2, ho2, by rw [← hp2, hpt], hf2, hl2, by omega, hA5, hk5⟩
                have Hend := Lib.hid hend
                have Hcs := Lib.hid hcs
                have hyok := fun b hb => (hok b hb)
                have Hyok := Lib.hid hok
                obtain ⟨ch, hch⟩ : ∃ ch, ch = y.ch := ⟨_, rfl⟩
                rw [← hch] at Hend hfb
                clear hend hcall hWA hkA hoA ho hkv hDi hcs hcl hc2 hxw hok hdr hpt hy hyok hBx
                rw [hA2]
                clear hA2
                cases wh with
                | false =>
                  clear hfb
                  go_wp2_with (first | (rw [← HWA.out]; go_at_call 95; refine HKp.out.mono ?_; rintro e w4 ⟨rfl, hA4, hk4⟩))
                  exact ⟨Hend.out w4 bb false _ _ _ rfl rfl (Hcall.out w4 hk4).1 (by rw [parts]) (fun h => by cases h) hbl hA4 (Hcall.out w4 hk4).2.2.1, by simp [intOf]; omega⟩
                | true =>
                  have hft := hfb rfl
                  clear hfb
                  have hcs := Hcs.out
                  unfold CR.cs at hcs
                  cases ch with
                  | cut n =>
                    rw [← hch] at hcs
                    simp only [List.cons.injEq, Value.bool.injEq, Value.int.injEq, Value.slice.injEq, true_and, and_true] at hcs
                    obtain ⟨rfl, rfl, rfl, rfl, rfl⟩ := hcs
                    have hnl : n ≤ bl := by rw [HblE.out]; exact hft.2.1
                    have hf2 : fits (bb.take n) ((xn.L.map CR.ch).drop (r + 1)) := hft.2.2
                    clear hft
                    have hln2 : (bb.take n).length = n := by rw [List.length_take, ← HblE.out]; exact Nat.min_eq_left hnl
                    have HT2 := Lib.hid (show ∀ w4 : World, KbP (fun b => b = ab) WA w4 → Calls Tryz.prog 80 #[.slice Ab n cb] w4 fun e w' => ∃ A c, e = .returned (.slice A n c) ∧ n ≤ c ∧ Lec.Own w' w4.heap.size 5 (.slice A n c) (bcs (bb.take n)) ∧ Below w4.heap.size w4 w' from fun w4 hk4 => twin_take w4 (Hcall.out w4 hk4).1 hnl HblE.out hblB)
                    have hcut := fun W : World => run_cutH slb Ab bl cb n (Nat.le_trans hnl hcb) .i64 (n : Int) rfl W
                    have Hf2 := Lib.hid hf2
                    have Hln2 := Lib.hid hln2
                    clear hch Hyok hf2 hln2
                    by_cases h0 : kv < 0
                    · have hpc := part_cut bb kv n
                      rw [if_pos (.inl h0)] at hpc
                      have Hpc := Lib.hid hpc
                      clear hpc
                      go_wp2_with (first | (rw [← HWA.out]; go_at_call 95; refine HKp.out.mono ?_; rintro e w4 ⟨rfl, hA4, hk4⟩; have qb := (Hcall.out w4 hk4).2.1.cell) | (go_at_call 80; refine (HT2.out w4 hk4).mono ?_; rintro e w6 ⟨A6, c6, rfl, hc6, ho6, hb6⟩))
                      exact ⟨Hend.out w6 (bb.take n) true _ _ _ rfl rfl (ho6.mono (Hcall.out w4 hk4).2.2.2.1) (by rw [parts, ← Hkv.out, Hpc.out]) (fun _ => Hf2.out) (by rw [Hln2.out]; exact Nat.le_trans hnl hblB) (hA4.below hb6 hA4.lt) ((Hcall.out w4 hk4).2.2.1.after hb6), by simp [intOf]; omega⟩
                    · obtain ⟨kn, hkn⟩ : ∃ x : Nat, kv = (x : Int) := ⟨kv.toNat, by omega⟩
                      by_cases hm : kv % 2 = 1
                      · have hpc := part_cut bb kv n
                        rw [if_pos (.inr hm)] at hpc
                        have Hpc := Lib.hid hpc
                        subst hkn
                        clear hpc
                        go_wp2_with (first | (rw [← HWA.out]; go_at_call 95; refine HKp.out.mono ?_; rintro e w4 ⟨rfl, hA4, hk4⟩; have qb := (Hcall.out w4 hk4).2.1.cell) | (go_at_call 80; refine (HT2.out w4 hk4).mono ?_; rintro e w6 ⟨A6, c6, rfl, hc6, ho6, hb6⟩))
                        exact ⟨Hend.out w6 (bb.take n) true _ _ _ rfl rfl (ho6.mono (Hcall.out w4 hk4).2.2.2.1) (by rw [parts, ← Hkv.out, Hpc.out]) (fun _ => Hf2.out) (by rw [Hln2.out]; exact Nat.le_trans hnl hblB) (hA4.below hb6 hA4.lt) ((Hcall.out w4 hk4).2.2.1.after hb6), by simp [intOf]; omega⟩
                      · have hpc := part_cut bb kv n
                        rw [if_neg (by rintro (h | h); exact h0 h; exact hm h)] at hpc
                        have Hpc := Lib.hid hpc
                        have hm0 : kv % 2 = 0 := by omega
                        subst hkn
                        clear hpc hm
                        go_wp2_with (first | (rw [← HWA.out]; go_at_call 95; refine HKp.out.mono ?_; rintro e w4 ⟨rfl, hA4, hk4⟩; have qb := (Hcall.out w4 hk4).2.1.cell))
                        exact ⟨Hend.out w4 bb false _ _ _ rfl rfl (Hcall.out w4 hk4).1 (by rw [parts, ← Hkv.out, Hpc.out]) (fun h => by cases h) hbl hA4 (Hcall.out w4 hk4).2.2.1, by simp [intOf]; omega⟩
                  | add d =>
                    rw [← hch] at hcs
                    simp only [List.cons.injEq, Value.bool.injEq, Value.int.injEq, Value.slice.injEq, true_and, and_true] at hcs
                    obtain ⟨rfl, rfl, hzA, hzn, hzc⟩ := hcs
                    have hyd := Hyok.out d hch.symm
                    rw [hzA, hzn, hzc] at hyd
                    have hf2 : fits (bb ++ d) ((xn.L.map CR.ch).drop (r + 1)) := hft.2
                    have hsum := fits_head hf2
                    rw [List.length_append, ← HblE.out, hzn] at hsum
                    have hRA := hyd.1.kbP HkAr.out hjab
                    have hJw : ∀ b, JN J w.heap.size ab w8.heap.size b → ¬ b = wr.heap.size := fun b hb e => by
                      have h1 := hk'.size
                      rcases hb with hb | hb
                      · have h2 := (HD9.out.jl b hb).1; omega
                      · omega
                    have HRd := Lib.hid (show ∀ w4 : World, KbP (fun b => b = ab) WA w4 → RdP (JN J w.heap.size ab w8.heap.size) w4 Az nz (bcs d) from fun w4 hk4 => hRA.kbP hk4 hjab)
                    have hnc := hyd.2
                    have Hf2 := Lib.hid hf2
                    have Hzn := Lib.hid hzn
                    have HJw := Lib.hid hJw
                    have h8r : w8.heap.size ≤ wr.heap.size := hk'.size
                    have hn8' : w8.heap.size ≤ n8 := Nat.le_of_eq hn8.symm
                    have Habw := Lib.hid habw
                    clear hch Hyok hf2 hft hzA hzn hzc hyd hRA hJw
                    by_cases h0 : kv < 0
                    · have hpc : Fsy.part bb kv (.add d) = (bb ++ d, true) := by simp [Fsy.part, survive, h0]
                      have Hpc := Lib.hid hpc
                      clear hpc
                      go_wp2_with (first
                          | (rw [← HWA.out]; go_at_call 95; refine HKp.out.mono ?_; rintro e w4 ⟨rfl, hA4, hk4⟩; have qb := (Hcall.out w4 hk4).2.1.cell; have hO4 := Lib.hid (Hcall.out w4 hk4).1; have hR4 := Lib.hid (HRd.out w4 hk4).rd)
                          | (at_builtin; (refine wpList_app_sl (w0 := w4) rfl _ _ rfl slb (by decide) rfl hO4.out (Below.refl n8 w4) (Hcall.out w4 hk4).2.2.2.1 rfl hR4.out bcs_one (by rw [bcs_length, ← HblE.out]; exact Nat.le_trans hsum (by decide)) ?_); intro v6 w6 ho6 hb6 hs6))
                      exact ⟨Hend.out w6 (bb ++ d) true _ _ _ rfl rfl (by rw [bcs_append]; exact ho6) (by rw [parts, ← Hkv.out, Hpc.out]) (fun _ => Hf2.out) (by rw [List.length_append, ← HblE.out, Hzn.out]; exact hsum) (hA4.below hb6 hab9) ((Hcall.out w4 hk4).2.2.1.then_ hb6 hn8'), by simp [intOf]; omega⟩
                    · obtain ⟨kn, hkn⟩ : ∃ x : Nat, kv = (x : Int) := ⟨kv.toNat, by omega⟩
                      obtain ⟨sw, hsw⟩ : ∃ x, x = kn % (nz + 1) := ⟨_, rfl⟩
                      have hswl : sw ≤ nz := by rw [hsw]; have := Nat.mod_lt kn (show 0 < nz + 1 by omega); omega
                      have hm : (kn : Int) % ((nz : Int) + 1) = (sw : Int) := by rw [hsw, Int.natCast_emod]; rfl
                      have hpc : Fsy.part bb kv (.add d) = (bb ++ d.take sw, sw == nz) := by
                        have hs1 : survive kv d.length = sw := by unfold survive; rw [if_neg h0, Hzn.out, hkn, hsw]; rfl
                        show (bb ++ d.take (survive kv d.length), survive kv d.length == d.length) = _
                        rw [hs1, Hzn.out]
                      have hpf : (Fsy.part bb kv (.add d)).2 = true → fits (Fsy.part bb kv (.add d)).1 ((xn.L.map CR.ch).drop (r + 1)) := fun hw => by
                        rw [hpc] at hw ⊢
                        have hw' : sw = nz := by simpa using hw
                        show fits (bb ++ d.take sw) _
                        rw [hw', ← Hzn.out, List.take_length]
                        exact Hf2.out
                      have hpl : (bb ++ d.take sw).length ≤ 268435456 := by
                        rw [List.length_append, List.length_take, ← HblE.out]
                        exact Nat.le_trans (Nat.add_le_add_left (Nat.le_trans (Nat.min_le_left _ _) hswl) _) hsum
                      rw [hpc] at hpf
                      have Hpf := Lib.hid hpf
                      have Hpl := Lib.hid hpl
                      have Hpc := Lib.hid hpc
                      have hcut := fun W : World => run_cutH slb Az nz cz sw (Nat.le_trans hswl hnc) .i64 (sw : Int) rfl W
                      have i1 : (sw : Int) ≤ (cz : Int) := by omega
                      have i0 : (0 : Int) ≤ (sw : Int) := by omega
                      have Hswl := Lib.hid hswl
                      subst hkn
                      have Hsw := Lib.hid hsw
                      clear hpc hpf hpl hsw
                      go_wp2_with (first
                          | (rw [← HWA.out]; go_at_call 95; refine HKp.out.mono ?_; rintro e w4 ⟨rfl, hA4, hk4⟩; have qb := (Hcall.out w4 hk4).2.1.cell; have zb := (Hcall.out w4 hk4).2.1.frz; have hO4 := Lib.hid ((Hcall.out w4 hk4).2.2.2.2.2 (.slice Az sw cz)); have hR4 := Lib.hid (RdP.kbP (HRd.out w4 hk4) ((KbP.refl (fun b => b = wr.heap.size) w4).setCell (p := ⟨wr.heap.size, 2, none⟩) (.inl rfl) (.slice Az sw cz)) HJw.out).rd; have qs := ((Hcall.out w4 hk4).2.1.set_ 2 (.slice Az sw cz)).cell)
                          | (at_builtin; (refine wpList_app_sl (w0 := w4.setCell ⟨wr.heap.size, 2, none⟩ (.slice Az sw cz)) rfl _ _ rfl slb (by decide) rfl hO4.out (Below.refl n8 _) (by rw [World.size_setCell]; exact (Hcall.out w4 hk4).2.2.2.1) rfl (hR4.out.take_ Hswl.out) (fun u hu => bcs_one u (List.mem_of_mem_take hu)) (by rw [bcs_length, ← HblE.out]; exact Nat.le_trans (Nat.add_le_add_left Hswl.out _) (Nat.le_trans hsum (by decide))) ?_); intro v6 w6 ho6 hb6 hs6))
                      exact ⟨Hend.out w6 (bb ++ d.take sw) (sw == nz) _ _ _ rfl (congrArg Value.bool (beq_cast sw nz)) (by rw [bcs_append, bcs_take]; exact ho6) (by rw [parts, ← Hkv.out, Hpc.out]) Hpf.out Hpl.out ((hA4.far (p := ⟨wr.heap.size, 2, none⟩) (Nat.ne_of_lt Habw.out) _).below hb6 hab9) (((Hcall.out w4 hk4).2.2.1.setCell (p := ⟨wr.heap.size, 2, none⟩) (.inr h8r) (.slice Az sw cz)).then_ hb6 hn8'), by simp [intOf]; omega⟩
              · obtain rfl : r = ln := by omega
                have hpt2 : (bb, a') = parts s.pl.keep a true xn.sf (xn.L.map CR.ch) := by rw [← hpt, Hln.out, List.drop_eq_nil_of_le (by simp), parts_nil]
                have hDi := HD9.out.kbP hk' hA'
                have hoB := ho
                unfold Lec.Own at hoB
                rw [bcs_length] at hoB
                obtain ⟨Ab, cb, rfl, hcb⟩ := OwnK.shape hoB
                have hyok : (NR.mk bb Ab cb [] none 0).ok (JN J w.heap.size ab wr.heap.size) wr := ⟨(RdP.newB hoB).more (fun b hb => .inr ⟨by omega, by omega, hb.2⟩), RdKP.nil_, (fun y hy => by cases hy), hcb⟩
                have hDn := hDi.setNd (c := cN) (i := i) Hnv.out (by show i < nodes.length; have := HnN.out; omega) hyok
                have hOw := hDi.g.nodes
                rw [Hnv.out] at hOw
                have za := World.ownsRow.frozenAt hOw (i * 2)
                have zb := World.ownsRow.frozenAt hOw (i * 2 + 1)
                have hgY : Y g := hDi.g.ynv g (by rw [Hnv.out]; rfl)
                have hiN := (show R8.NL.length = nodes.length from Hnl.out)
                obtain ⟨b', o', hAe, hgl', hcell⟩ := rdK_at NR.cs_len (OwnK.rd hOw) (show i < R8.NL.length by rw [hiN]; have := HnN.out; omega) hiN (by decide)
                cases hAe
                have hcl := hcell wr (Below.refl _ _)
                simp only [Nat.zero_add] at hcl
                have ca : wr.cell? ⟨g, i * 2, none⟩ = some _ := hcl 0 _ rfl
                have cb' : wr.cell? ⟨g, i * 2 + 1, none⟩ = some _ := hcl 1 _ rfl
                have hkp' := (((Hkp9.out.trans hk' (fun b hb => .inl (.inr hb))).setCell (p := ⟨g, i * 2, none⟩) (.inl (.inl hgY)) (.slice Ab bb.length cb)).setCell (p := ⟨g, i * 2 + 1, none⟩) (.inl (.inl hgY)) (.slice none 0 0))
                have hrun' : dieNames s.pl.keep D ((namesOf D).drop (j + 1)) (nodes.set i ⟨bb, []⟩) a' = dieNames s.pl.keep D (namesOf D) s.nodes (adv s.pl.keep 0) := by
                  rw [← hrun]
                  obtain ⟨hjl, hjx⟩ := List.getElem?_eq_some_iff.1 hx
                  rw [List.drop_eq_getElem_cons hjl, hjx, dieNames_some hnd, show ndAt nodes i = xn.nd from Hxn.out.symm]
                  show _ = dieNames s.pl.keep D _ (nodes.set i ⟨(parts s.pl.keep a true xn.sf (xn.L.map CR.ch)).1, []⟩) (parts s.pl.keep a true xn.sf (xn.L.map CR.ch)).2
                  rw [← hpt2]
                have Hrel := Lib.hid (show RD Y J w _ rb ab (rdSt s D (nodes.set i ⟨bb, []⟩)) _ a' ∧ KbP (fun b => Y b ∨ b = ab) w7 _ ∧ _ from ⟨hDn, hkp', hrun'⟩)
                have Hnds' := Lib.hid (show ∀ n ∈ nodes.set i ⟨bb, []⟩, fits n.safe n.chg ∧ n.chg.length ≤ N from fun n hn => by
                  rcases List.mem_or_eq_of_mem_set hn with hn | rfl
                  · exact hnds n hn
                  · exact ⟨hbl, Nat.zero_le _⟩)
                have hlea' : a' ≤ 1 + (j + 1) * N := by rw [Nat.add_mul]; have := Hft.out.2; have := Hln.out; omega
                clear hDn hkp' hrun' hcl hcell hyok hoB ho hOw hDi hpt hpt2 hfb hgl'
                go_wp2
                go_roundw
                case rel => exact ⟨j + 1, a', nodes.set i ⟨bb, []⟩, _, by omega, by go_num, Hrel.out.1, Hrel.out.2.1, Hrel.out.2.2, by rw [List.length_set]; exact hlen, Hnds'.out, hlea'⟩
                case measure => simp [intOf]; omega
          · obtain rfl : j = D.length := by omega
            rw [List.drop_eq_nil_of_le (by omega)] at hrun
            have hN2 : nodes = (dieNames s.pl.keep D (namesOf D) s.nodes (adv s.pl.keep 0)).1 := congrArg Prod.fst hrun
            have hdie : Fsy.die s = { rdSt s D nodes with died := true } := by unfold Fsy.die rdSt; rw [← HDe.out, ← hN2]
            have hF := hD.dead
            have z6 := hD.g.bk.frz 6
            have q6 := hD.g.bk.cell 6
            unfold rfCs at q6
            have Hfin := Lib.hid (show RdieP Y J w rb (Fsy.die s) (.returned (.tuple #[])) (wr.setCell ⟨rb, 6, none⟩ (.bool true)) from ⟨rfl, JN J w.heap.size ab (wr.setCell ⟨rb, 6, none⟩ (.bool true)).heap.size, ⟨_, by rw [hdie]; exact hF.g⟩, ⟨fun b hb => .inl hb, fun b hb => Or.imp_right (fun h => h.1) hb, hF.kb⟩⟩)
            clear hF hdie hN2 hrun hD hkp
            go_wp2
            go_end0
            exact Hfin.out
end Go.Proofs.YtaanmnplfppdeaaGreat
