/- Layer 1: the iterator of Each, told to a caller that knows which file comes next. -/
import Derived.Test.YtaanmnplfppdeaaGreatLfA
import Derived.Test.YtaanmnplfppdeaaGreatRangeX
import Derived.Test.YtaanmnplfppdeaaGreatRfP
namespace Go.Proofs.YtaanmnplfppdeaaGreat
open Go.RowKit Go.Lec Go.Fsy Go.Op Go.Maps Go.Shelf
attribute [local go_sem] Oper.semAt_some
set_option maxRecDepth 100000 in
set_option maxHeartbeats 2000000 in
theorem each1_X (n : Nat) (hn : 1 ≤ n) (l Bs fb : Nat) {X I Y : Nat → Prop} {N : Nat} {s : St} (J Jx : List Fl → World → Prop) (Jp : List PanicEntry → World → Prop) (W : World) (hJa : AbidesFrom W.heap.size J) (hY' : ∀ b, Y b → b < W.heap.size)
    (hY : ∀ pre x W1, J pre W1 → (files s)[pre.length]? = some x → pre.length < (files s).length → YieldAt Fence.wide (n - 1) Tryz.prog l #[svl x.1, .int .i64 (x.2.length : Int)] W1 fun e W' =>
      (e = .returned (.bool true) ∧ J (pre ++ [x]) W' ∧ KpC Y W1 W') ∨ (e = .returned (.bool false) ∧ Jx (pre ++ [x]) W') ∨ (∃ ch, e = .panicked ch ∧ Jp ch W'))
    (hBs : Bk W Bs 31 #[ptrV fb]) (h : FsP X I W fb s) (hi : Fsy.Inv s N) (hN : N ≤ 1048576) (h0 : J [] W) :
    CallsIn Fence.wide n Tryz.prog 87 #[.func (.yield l) #[] #[], .pointer (some ⟨Bs, 0, none⟩)] W fun e W' => ((∃ v, e = .returned v) ∧
      ((∃ ys, ys = files s ∧ J ys W') ∨ (∃ pre, True ∧ Jx pre W'))) ∨ (∃ ch, e = .panicked ch ∧ Jp ch W') := by
  have HF := Lib.hid (c_Files W h hi hN)
  have qs := hBs.cell
  have hfn : (files s).length ≤ 1048576 := by
    have hd := hi.nDir
    have he : files s = if s.died then [] else (namesOf s.dir).map (fileOf s s.dir Nd.data) := rfl
    rw [he]
    split
    · exact Nat.zero_le _
    · rw [List.length_map, namesOf_len]; omega
  obtain ⟨L, hL⟩ : ∃ L, L = files s := ⟨_, rfl⟩
  rw [← hL] at HF hY hfn ⊢
  unfold ptrV at *
  clear hBs h hi hN hL
  refine callsIn_of_wp Tryz.func87 rfl trivial ?_ rfl
  simp only [Tryz.ntmps87, List.size_toArray, List.length_cons, List.length_nil, Nat.reduceAdd, Nat.reduceSub, Array.replicate_succ, Array.replicate_zero, List.push_toArray, List.append_toArray, List.nil_append, List.cons_append]
  unfold FilesP at HF
  gi_wp2_with (refine ⟨trivial, ?_⟩; gi_at_call 13; refine (callsIn_wide.2 HF.out).mono ?_; rintro e w2 ⟨A, c, FL, rfl, hc, hFL, hR, hok, hb2⟩)
  have hJ2 := hJa _ W _ none h0 (grown_below hb2) (fun r e => by cases e)
  have HFL := Lib.hid hFL
  have hln : FL.length = L.length := by rw [← hFL, List.length_map]
  have Hln := Lib.hid hln
  obtain ⟨N', hN'⟩ : ∃ x, x = L.length := ⟨_, rfl⟩
  have HN' := Lib.hid hN'
  rw [← hN'] at hc hR hfn hY ⊢
  clear hFL hln hN' hok qs
  have hW2 := hb2.size
  gi_loopw [8] (fun i wr => ∃ k : Nat, k ≤ N' ∧ i = .int .i64 k ∧ J (L.take k) wr ∧ KpC Y w2 wr) (fun i _ => N' - (intOf i).toNat)
  case atStart => exact ⟨0, Nat.zero_le _, rfl, hJ2, KpC.refl _ _⟩
  case round =>
    obtain ⟨k, hk, rfl, hJs, hnx⟩ := hrel
    by_cases hlt : k < N'
    · have hkF : k < FL.length := by have := Hln.out; have := HN'.out; omega
      have hkL : k < L.length := by have := HN'.out; omega
      obtain ⟨b, o, rfl, hbB, hcell⟩ := rdK_at FR.cs_len (hR.kpC hnx (fun b hb hy => by have := hY' b hy; omega)).rd hkF (by have := Hln.out; have := HN'.out; omega) (by decide)
      have hx : (L[k].1 = FL[k].name) ∧ L[k].2 = FL[k].data := by
        have : L[k] = FL[k].fl := by
          have h1 := HFL.out
          subst h1
          simp
        rw [this]; exact ⟨rfl, rfl⟩
      have hc0 : wr.cell? ⟨b, o + k * 2, none⟩ = some (svl L[k].1) := by rw [hx.1]; exact hcell wr (Below.refl _ _) 0 _ rfl
      have hc1 : wr.cell? ⟨b, o + k * 2 + 1, none⟩ = some (.slice FL[k].A L[k].2.length FL[k].c) := by rw [hx.2]; exact hcell wr (Below.refl _ _) 1 _ rfl
      have Htk := Lib.hid (List.take_succ_eq_append_getElem hkL)
      have HB := Bk.new_ wr 40 #[svl L[k].1, .slice FL[k].A L[k].2.length FL[k].c]
      have hb1 := (Below.refl wr.heap.size wr).alloc (Nat.le_refl _) (.cells #[svl L[k].1, .slice FL[k].A L[k].2.length FL[k].c] 40)
      have hJ1 := hJa _ wr _ none hJs (grown_below hb1) (fun r e => by cases e)
      have g0 := HB.cell 0
      have g1 := HB.cell 1
      obtain ⟨fn, tmps, assign, body, hy, hRR⟩ := hY _ L[k] _ hJ1 (by rw [List.length_take, Nat.min_eq_left (by omega)]; exact List.getElem?_eq_getElem hkL) (by rw [List.length_take]; omega)
      have hblt : b < wr.heap.size := hbB
      clear hcell hY hR hx HB
      have hki : (k : Int) < (N' : Int) := by omega
      obtain ⟨nm, hnm⟩ : ∃ x, x = L[k].1 := ⟨_, rfl⟩
      obtain ⟨dl, hdl⟩ : ∃ x, x = L[k].2.length := ⟨_, rfl⟩
      clear hJ1
      rw [← hnm] at hc0 g0 g1 hy hRR hb1
      rw [← hdl] at hc1 g0 g1 hy hRR hb1
      clear hnm hdl
      unfold svl at *
      gi_wp2
      refine hRR.mono ?_
      rintro e W3 (⟨rfl, hJ3, hk3⟩ | ⟨rfl, hJx3⟩ | ⟨ch, rfl, hJp⟩)
      · gi_wp2
        go_roundw
        case rel => exact ⟨k + 1, by omega, by go_num, by rw [Htk.out]; exact hJ3, hnx.trans ((KpC.of_below hb1).trans hk3)⟩
        case measure => simp [intOf]; omega
      · gi_wp2
        refine bodyPost_ret (results_none rfl _ _ _) rfl ?_
        exact .inl ⟨⟨_, rfl⟩, .inr ⟨_, trivial, hJx3⟩⟩
      · exact ⟨rfl, .inr ⟨ch, rfl, hJp⟩⟩
    · obtain rfl : k = N' := by omega
      clear hY
      gi_wp2
      go_end0
      have he : L.take k = L := List.take_of_length_le (by rw [← HN'.out]; exact Nat.le_refl _)
      exact .inl ⟨⟨_, rfl⟩, .inl ⟨_, rfl, he ▸ hJs⟩⟩
theorem each_X (n : Nat) (hn : 1 ≤ n) (Bs fb : Nat) {X I Y : Nat → Prop} {N : Nat} {s : St} (w : World) (hY : ∀ b, Y b → b < w.heap.size) (hBs : Bk w Bs 31 #[ptrV fb]) (h : FsP X I w fb s) (hi : Fsy.Inv s N) (hN : N ≤ 1048576) :
    SeqX Tryz.prog n 87 #[.pointer (some ⟨Bs, 0, none⟩)] (fun x : Fl => #[svl x.1, .int .i64 (x.2.length : Int)]) (fun pre x _ => (files s)[pre.length]? = some x) (KpC Y) (fun ys => ys = files s) (fun _ => True) (files s).length w := fun l J Jx Jp W hW hJ hYd h0 =>
  each1_X n hn l Bs fb J Jx Jp W hJ (fun b hb => Nat.lt_of_lt_of_le (hY b hb) hW.size) hYd (hBs.below hW hBs.lt) (h.below hW) hi hN h0
end Go.Proofs.YtaanmnplfppdeaaGreat
/- Layer 1: both file systems tell the same: the walk of same. -/
namespace Go.Fsy
open Go.RowKit Go.Maps Go.Lec
theorem FilesP.flr {w w' : World} {L : List Fl} {A : Option Addr} {FL : List FR} (hL : FL.map FR.fl = L) (hR : RdKP (fun b => w.heap.size ≤ b) w' 2 A L.length (FL.flatMap FR.cs)) (hok : ∀ x ∈ FL, x.ok (fun b => w.heap.size ≤ b) w') : FlR w' A L.length FL :=
  ⟨by rw [← hL, List.length_map], hR.rd, fun x hx => (hok x hx).1.rd⟩
section
variable {X : Nat → Prop} {A W W' : World}
theorem KpC.grownN {row : Option Nat} (h : KpC X A W) (hg : W.grownBy W' row) (hr : ∀ r, row = some r → ∃ o : Obj, W.heap[r]? = some o ∧ o.isCells = false) : KpC X A W' :=
  h.trans ⟨hg.size, fun k o ho hc _ => (hg.block k (Array.getElem?_eq_some_iff.1 ho).1 (fun e => by
    obtain ⟨o', ho', hc'⟩ := hr k e.symm
    rw [ho] at ho'; cases ho'; rw [hc] at hc'; cases hc')).trans ho⟩
theorem Bk.kpC {b : Nat} {t : TypeId} {cs : Array Value} (h : Bk W b t cs) (hk : KpC X W W') (hX : ¬ X b) : Bk W' b t cs := hk.blk b _ h rfl hX
end
theorem files_len {s : St} {N : Nat} (h : Inv s N) : (files s).length ≤ N := by
  have := h.nDir
  unfold files
  split
  · exact Nat.zero_le _
  · rw [List.length_map, namesOf_len]; omega
theorem safeFiles_len {s : St} {N : Nat} (h : Inv s N) : (safeFiles s).length ≤ N := by
  have := h.nSafe
  rw [safeFiles, List.length_map, namesOf_len]; omega
end Go.Fsy
namespace Go.Proofs.YtaanmnplfppdeaaGreat
open Go.RowKit Go.Lec Go.Fsy Go.Op Go.Maps Go.Shelf
attribute [local go_sem] Oper.semAt_some
theorem run_eql_each (w : World) (g : Fn) (f c : Array Value) : (binOp .eql 108 (.func g f c) .nilFunc).run Tryz.prog w = .ok (.bool false) w := by
  have h : ∀ d : Nat, (Op.equalIn (d + 1) 108 (.func g f c) .nilFunc).run Tryz.prog w = .ok false w := fun d => by
    simp [Op.equalIn, run_underlying Tryz.underlying108]
  simp only [binOp]
  simp [Op.equal, Op.maxDepth, h 9999]
set_option maxRecDepth 100000 in
set_option maxHeartbeats 8000000 in
theorem c_same (w : World) {B fb rb N : Nat} {s : St} (h : Two B w fb rb s) (hi : Fsy.Inv s N) (hN : N ≤ 1048576) :
    Calls Tryz.prog 27 #[ptrV fb, ptrV rb] w fun e w' => e = .returned (.bool true) ∧ Below w.heap.size w w' := by
  obtain ⟨X, I, Y, J, hf, hr, ha, hx, hy⟩ := h
  have hrlt : rb < w.heap.size := by obtain ⟨R, hR⟩ := hr; exact hR.lt rb (.inl hR.yrb)
  have HF := Lib.hid (fun (W : World) (hb : Below w.heap.size w W) => c_Files W (hf.below hb) hi hN)
  have HRF := Lib.hid (fun (W : World) (hb : Below w.heap.size w W) => c_rFiles W (hr.below hb) hi hN)
  have HSf := Lib.hid (fun (W : World) (hb : Below w.heap.size w W) => c_Safe W (hf.below hb) hi hN)
  have HRS := Lib.hid (fun (W : World) (hb : Below w.heap.size w W) => c_rSafe W (hr.below hb) hi hN)
  have HOp := Lib.hid (fun (W : World) (hb : Below w.heap.size w W) => c_Ops W (hf.below hb))
  have HDd := Lib.hid (fun (W : World) (hb : Below w.heap.size w W) => c_Dead W (hf.below hb))
  have HUs := Lib.hid (fun (W : World) (hb : Below w.heap.size w W) => c_Used W (hf.below hb) hi hN)
  have HRU := Lib.hid (fun (W : World) (hb : Below w.heap.size w W) => c_rUsed W (hr.below hb) hi hN)
  have HS := Lib.hid (fun (W : World) (hb : Below w.heap.size w W) => show W.cell? ⟨rb, 5, none⟩ = some (.int .i64 (s.cnt : Int)) ∧ W.cell? ⟨rb, 6, none⟩ = some (.bool s.died) from by
    obtain ⟨R, hR⟩ := hr.below hb
    exact ⟨hR.bk.cell 5, hR.bk.cell 6⟩)
  have HFs := Lib.hid (fun (W : World) (hb : Below w.heap.size w W) => hf.below hb)
  have hfl := files_len hi
  have hsl := safeFiles_len hi
  obtain ⟨L, hL⟩ : ∃ L, L = files s := ⟨_, rfl⟩
  obtain ⟨SL, hSL⟩ : ∃ L, L = safeFiles s := ⟨_, rfl⟩
  unfold FilesP ptrV at *
  rw [← hL] at HF HRF hfl
  rw [← hSL] at HSf HRS hsl
  obtain ⟨ln, hln⟩ : ∃ n, n = L.length := ⟨_, rfl⟩
  obtain ⟨sn, hsn⟩ : ∃ n, n = SL.length := ⟨_, rfl⟩
  obtain ⟨us, hus⟩ : ∃ n, n = used s := ⟨_, rfl⟩
  obtain ⟨ct, hct⟩ : ∃ n, n = s.cnt := ⟨_, rfl⟩
  obtain ⟨dd, hdd⟩ : ∃ n, n = s.died := ⟨_, rfl⟩
  rw [← hln] at HF HRF hfl
  rw [← hsn] at HSf HRS hsl
  rw [← hus] at HUs HRU
  rw [← hct] at HOp HS
  rw [← hdd] at HDd HS
  have Hln := Lib.hid hln
  have Hsn := Lib.hid hsn
  have HL := Lib.hid hL
  clear hf hr hx hy ha hL hSL hln hsn hus hct hdd
  have hb0 := (Below.refl w.heap.size w).alloc (Nat.le_refl _) (.cells #[.bool false] 4)
  have R0 := Bk.new_ w 4 #[.bool false]
  refine (callsIn_wide (n := 5)).1 ?_
  refine callsIn_of_wp_marks Tryz.func27 rfl trivial ?_ rfl
  simp only [Tryz.ntmps27, List.size_toArray, List.length_cons, List.length_nil, Nat.reduceAdd, Nat.reduceSub, Array.replicate_succ, Array.replicate_zero, List.push_toArray, List.append_toArray, List.nil_append, List.cons_append]
  refine wpIn_wide.2 ?_
  go_wp2
  obtain ⟨w0, hw0⟩ : ∃ W, W = w.alloc (.cells #[.bool false] 4) := ⟨_, rfl⟩
  rw [← hw0] at hb0 R0 ⊢
  clear hw0
  have hHeld : (fun W : World => W.cell? ⟨rb, 5, none⟩ = some (.int .i64 (ct : Int)) ∧ W.cell? ⟨rb, 6, none⟩ = some (.bool dd)) w0.drew := HS.out w0.drew hb0.drew
  refine wp_region_noPanic ?_
  refine wp_region_held (S := fun W : World => W.cell? ⟨rb, 5, none⟩ = some (.int .i64 (ct : Int)) ∧ W.cell? ⟨rb, 6, none⟩ = some (.bool dd)) (by kernel_rfl) ?_
  simp only [List.size_toArray, List.length_cons, List.length_nil, Nat.reduceAdd]
  refine heldTake (i := 0) (v := ?_) rfl (by kernel_rfl) (by kernel_rfl) (by kernel_rfl) (fun _ _ _ h => h) hHeld (by rfl) ?_ ?_
  rotate_left
  · (intro w hSw; (try dsimp only at hSw); go_simp; try with_reducible rfl)
  try simp only [Act.put, List.setIfInBounds_toArray, List.set_cons_zero, List.set_cons_succ]
  refine heldTake (i := 2) (v := ?_) rfl (by kernel_rfl) (by kernel_rfl) (by kernel_rfl) (fun _ _ _ h => h) hHeld (by rfl) ?_ ?_
  rotate_left
  · (intro w hSw; (try dsimp only at hSw); go_simp; try with_reducible rfl)
  try simp only [Act.put, List.setIfInBounds_toArray, List.set_cons_zero, List.set_cons_succ]
  refine heldStep (i := 1) rfl (by kernel_rfl) (fun K hK => ?_)
  go_simp
  go_at_call 13
  refine (HF.out w0.drew hb0.drew).mono ?_
  rintro e w1 ⟨A1, c1, F1, rfl, hc1, hF1, hR1, ho1, hb1⟩
  have b1 := hb0.drew.trans (hb1.mono hb0.size)
  refine hK.out _ _ (HS.out w1 b1) (fun hHeld => ?_)
  clear hK K
  try simp only [Act.put, List.setIfInBounds_toArray, List.set_cons_zero, List.set_cons_succ]
  refine heldStep (i := 3) rfl (by kernel_rfl) (fun K hK => ?_)
  go_simp
  go_at_call 57
  refine (HRF.out w1 b1).mono ?_
  rintro e w2 ⟨A2, c2, F2, rfl, hc2, hF2, hR2, ho2, hb2⟩
  have b2 := b1.trans (hb2.mono b1.size)
  refine hK.out _ _ (HS.out w2 b2) (fun hHeld => ?_)
  clear hK K
  try simp only [Act.put, List.setIfInBounds_toArray, List.set_cons_zero, List.set_cons_succ]
  refine heldStep (i := 4) rfl (by kernel_rfl) (fun K hK => ?_)
  go_simp
  go_at_call 15
  have r1 : FlR w2 A1 ln F1 := FlR.below (by rw [Hln.out] at hR1 ⊢; exact FilesP.flr hF1 hR1 ho1) hb2
  have r2 : FlR w2 A2 ln F2 := by rw [Hln.out] at hR2 ⊢; exact FilesP.flr hF2 hR2 ho2
  refine (c_rSame w2 r1 r2 (hF1.trans hF2.symm) (by omega)).mono ?_
  rintro e w3 ⟨rfl, hb3⟩
  have b3 := b2.trans (hb3.mono b2.size)
  refine hK.out _ _ (HS.out w3 b3) (fun hHeld => ?_)
  clear hK K
  try simp only [Act.put, List.setIfInBounds_toArray, List.set_cons_zero, List.set_cons_succ]
  refine heldTake (i := 5) (v := ?_) rfl (by kernel_rfl) (by kernel_rfl) (by kernel_rfl) (fun _ _ _ h => h) hHeld (by rfl) ?_ ?_
  rotate_left
  · (intro w hSw; (try dsimp only at hSw); go_simp; try with_reducible rfl)
  try simp only [Act.put, List.setIfInBounds_toArray, List.set_cons_zero, List.set_cons_succ]
  refine heldTake (i := 6) (v := ?_) rfl (by kernel_rfl) (by kernel_rfl) (by kernel_rfl) (fun _ _ _ h => h) hHeld (by rfl) ?_ ?_
  rotate_left
  · (intro w hSw; (try dsimp only at hSw); go_simp; try with_reducible rfl)
  try simp only [Act.put, List.setIfInBounds_toArray, List.set_cons_zero, List.set_cons_succ]
  refine heldTake (i := 7) (v := ?_) rfl (by kernel_rfl) (by kernel_rfl) (by kernel_rfl) (fun _ _ _ h => h) hHeld (by rfl) ?_ ?_
  rotate_left
  · (intro w hSw; (try dsimp only at hSw); go_simp; try with_reducible rfl)
  try simp only [Act.put, List.setIfInBounds_toArray, List.set_cons_zero, List.set_cons_succ]
  refine heldTake (i := 9) (v := ?_) rfl (by kernel_rfl) (by kernel_rfl) (by kernel_rfl) (fun _ _ _ h => h) hHeld (by rfl) ?_ ?_
  rotate_left
  · (intro w hSw; (try dsimp only at hSw); go_simp; try with_reducible rfl)
  try simp only [Act.put, List.setIfInBounds_toArray, List.set_cons_zero, List.set_cons_succ]
  refine heldStep (i := 8) rfl (by kernel_rfl) (fun K hK => ?_)
  go_simp
  go_at_call 16
  refine (HSf.out w3 b3).mono ?_
  rintro e w4 ⟨A4, c4, F4, rfl, hc4, hF4, hR4, ho4, hb4⟩
  have b4 := b3.trans (hb4.mono b3.size)
  refine hK.out _ _ (HS.out w4 b4) (fun hHeld => ?_)
  clear hK K
  try simp only [Act.put, List.setIfInBounds_toArray, List.set_cons_zero, List.set_cons_succ]
  refine heldStep (i := 10) rfl (by kernel_rfl) (fun K hK => ?_)
  go_simp
  go_at_call 58
  refine (HRS.out w4 b4).mono ?_
  rintro e w5 ⟨A5, c5, F5, rfl, hc5, hF5, hR5, ho5, hb5⟩
  have b5 := b4.trans (hb5.mono b4.size)
  refine hK.out _ _ (HS.out w5 b5) (fun hHeld => ?_)
  clear hK K
  try simp only [Act.put, List.setIfInBounds_toArray, List.set_cons_zero, List.set_cons_succ]
  refine heldStep (i := 11) rfl (by kernel_rfl) (fun K hK => ?_)
  go_simp
  go_at_call 15
  have r4 : FlR w5 A4 sn F4 := FlR.below (by rw [Hsn.out] at hR4 ⊢; exact FilesP.flr hF4 hR4 ho4) hb5
  have r5 : FlR w5 A5 sn F5 := by rw [Hsn.out] at hR5 ⊢; exact FilesP.flr hF5 hR5 ho5
  refine (c_rSame w5 r4 r5 (hF4.trans hF5.symm) (by omega)).mono ?_
  rintro e w6 ⟨rfl, hb6⟩
  have b6 := b5.trans (hb6.mono b5.size)
  refine hK.out _ _ (HS.out w6 b6) (fun hHeld => ?_)
  clear hK K
  try simp only [Act.put, List.setIfInBounds_toArray, List.set_cons_zero, List.set_cons_succ]
  refine heldTake (i := 12) (v := ?_) rfl (by kernel_rfl) (by kernel_rfl) (by kernel_rfl) (fun _ _ _ h => h) hHeld (by rfl) ?_ ?_
  rotate_left
  · (intro w hSw; (try dsimp only at hSw); go_simp; try with_reducible rfl)
  try simp only [Act.put, List.setIfInBounds_toArray, List.set_cons_zero, List.set_cons_succ]
  refine heldTake (i := 13) (v := ?_) rfl (by kernel_rfl) (by kernel_rfl) (by kernel_rfl) (fun _ _ _ h => h) hHeld (by rfl) ?_ ?_
  rotate_left
  · (intro w hSw; (try dsimp only at hSw); go_simp; try with_reducible rfl)
  try simp only [Act.put, List.setIfInBounds_toArray, List.set_cons_zero, List.set_cons_succ]
  refine heldTake (i := 14) (v := ?_) rfl (by kernel_rfl) (by kernel_rfl) (by kernel_rfl) (fun _ _ _ h => h) hHeld (by rfl) ?_ ?_
  rotate_left
  · (intro w hSw; (try dsimp only at hSw); go_simp; try with_reducible rfl)
  try simp only [Act.put, List.setIfInBounds_toArray, List.set_cons_zero, List.set_cons_succ]
  refine heldTake (i := 15) (v := ?_) rfl (by kernel_rfl) (by kernel_rfl) (by kernel_rfl) (fun _ _ _ h => h) hHeld (by rfl) ?_ ?_
  rotate_left
  · (intro w hSw; (try dsimp only at hSw); go_simp; try with_reducible rfl)
  try simp only [Act.put, List.setIfInBounds_toArray, List.set_cons_zero, List.set_cons_succ]
  refine heldTake (i := 17) (v := ?_) rfl (by kernel_rfl) (by kernel_rfl) (by kernel_rfl) (fun _ _ _ h => h) hHeld (by rfl) ?_ ?_
  rotate_left
  · (intro w hSw; (try dsimp only at hSw); go_simp; try with_reducible rfl)
  try simp only [Act.put, List.setIfInBounds_toArray, List.set_cons_zero, List.set_cons_succ]
  refine heldTake (i := 18) (v := ?_) rfl (by kernel_rfl) (by kernel_rfl) (by kernel_rfl) (fun _ _ _ h => h) hHeld (by rfl) ?_ ?_
  rotate_left
  · (intro w hSw; (try dsimp only at hSw); go_simp; try with_reducible rfl)
  try simp only [Act.put, List.setIfInBounds_toArray, List.set_cons_zero, List.set_cons_succ]
  refine heldTake (i := 19) (v := ?_) rfl (by kernel_rfl) (by kernel_rfl) (by kernel_rfl) (fun _ _ _ h => h) hHeld (by rfl) ?_ ?_
  rotate_left
  · (intro w hSw; (try dsimp only at hSw); go_simp; try with_reducible rfl)
  try simp only [Act.put, List.setIfInBounds_toArray, List.set_cons_zero, List.set_cons_succ]
  refine heldTake (i := 20) (v := ?_) rfl (by kernel_rfl) (by kernel_rfl) (by kernel_rfl) (fun _ _ _ h => h) hHeld (by rfl) ?_ ?_
  rotate_left
  · (intro w hSw; (try dsimp only at hSw); go_simp; try with_reducible rfl)
  try simp only [Act.put, List.setIfInBounds_toArray, List.set_cons_zero, List.set_cons_succ]
  refine heldStep (i := 16) rfl (by kernel_rfl) (fun K hK => ?_)
  go_simp
  go_at_call 19
  refine (HOp.out w6 b6).mono ?_
  rintro e w7 ⟨rfl, rfl⟩
  refine hK.out _ _ (hHeld) (fun hHeld => ?_)
  clear hK K
  try simp only [Act.put, List.setIfInBounds_toArray, List.set_cons_zero, List.set_cons_succ]
  refine heldTake (i := 21) (v := ?_) rfl (by kernel_rfl) (by kernel_rfl) (by kernel_rfl) (fun _ _ _ h => h) hHeld (by rfl) ?_ ?_
  rotate_left
  · (intro w hSw; (try dsimp only at hSw); go_simp; try with_reducible rfl)
  try simp only [Act.put, List.setIfInBounds_toArray, List.set_cons_zero, List.set_cons_succ]
  refine heldTake (i := 22) (v := ?_) rfl (by kernel_rfl) (by kernel_rfl) (by kernel_rfl) (fun _ _ _ h => h) hHeld (by rfl) ?_ ?_
  rotate_left
  · (intro w hSw; (try dsimp only at hSw); go_simp; try with_reducible rfl)
  try simp only [Act.put, List.setIfInBounds_toArray, List.set_cons_zero, List.set_cons_succ]
  refine heldTake (i := 23) (v := ?_) rfl (by kernel_rfl) (by kernel_rfl) (by kernel_rfl) (fun _ _ _ h => h) hHeld (by rfl) ?_ ?_
  rotate_left
  · (intro w hSw; (try dsimp only at hSw); go_simp; try with_reducible rfl)
  try simp only [Act.put, List.setIfInBounds_toArray, List.set_cons_zero, List.set_cons_succ]
  refine heldTake (i := 24) (v := ?_) rfl (by kernel_rfl) (by kernel_rfl) (by kernel_rfl) (fun _ _ _ h => h) hHeld (by rfl) ?_ ?_
  rotate_left
  · (intro w hSw; (try dsimp only at hSw); go_simp; try with_reducible rfl)
  try simp only [Act.put, List.setIfInBounds_toArray, List.set_cons_zero, List.set_cons_succ]
  refine heldTake (i := 26) (v := ?_) rfl (by kernel_rfl) (by kernel_rfl) (by kernel_rfl) (fun _ _ _ h => h) hHeld (by rfl) ?_ ?_
  rotate_left
  · (intro w hSw; (try dsimp only at hSw); go_simp; try with_reducible rfl)
  try simp only [Act.put, List.setIfInBounds_toArray, List.set_cons_zero, List.set_cons_succ]
  refine heldTake (i := 27) (v := ?_) rfl (by kernel_rfl) (by kernel_rfl) (by kernel_rfl) (fun _ _ _ h => h) hHeld (by rfl) ?_ ?_
  rotate_left
  · (intro w hSw; (try dsimp only at hSw); go_simp; try with_reducible rfl)
  try simp only [Act.put, List.setIfInBounds_toArray, List.set_cons_zero, List.set_cons_succ]
  refine heldTake (i := 28) (v := ?_) rfl (by kernel_rfl) (by kernel_rfl) (by kernel_rfl) (fun _ _ _ h => h) hHeld (by rfl) ?_ ?_
  rotate_left
  · (intro w hSw; (try dsimp only at hSw); go_simp; try with_reducible rfl)
  try simp only [Act.put, List.setIfInBounds_toArray, List.set_cons_zero, List.set_cons_succ]
  refine heldTake (i := 29) (v := ?_) rfl (by kernel_rfl) (by kernel_rfl) (by kernel_rfl) (fun _ _ _ h => h) hHeld (by rfl) ?_ ?_
  rotate_left
  · (intro w hSw; (try dsimp only at hSw); go_simp; try with_reducible rfl)
  try simp only [Act.put, List.setIfInBounds_toArray, List.set_cons_zero, List.set_cons_succ]
  refine heldStep (i := 25) rfl (by kernel_rfl) (fun K hK => ?_)
  go_simp
  go_at_call 12
  refine (HDd.out w7 b6).mono ?_
  rintro e w8 ⟨rfl, rfl⟩
  refine hK.out _ _ (hHeld) (fun hHeld => ?_)
  clear hK K
  try simp only [Act.put, List.setIfInBounds_toArray, List.set_cons_zero, List.set_cons_succ]
  refine heldTake (i := 30) (v := ?_) rfl (by kernel_rfl) (by kernel_rfl) (by kernel_rfl) (fun _ _ _ h => h) hHeld (by rfl) ?_ ?_
  rotate_left
  · (intro w hSw; (try dsimp only at hSw); go_simp; try with_reducible rfl)
  try simp only [Act.put, List.setIfInBounds_toArray, List.set_cons_zero, List.set_cons_succ]
  refine heldTake (i := 31) (v := ?_) rfl (by kernel_rfl) (by kernel_rfl) (by kernel_rfl) (fun _ _ _ h => h) hHeld (by rfl) ?_ ?_
  rotate_left
  · (intro w hSw; (try dsimp only at hSw); go_simp; try with_reducible rfl)
  try simp only [Act.put, List.setIfInBounds_toArray, List.set_cons_zero, List.set_cons_succ]
  refine heldTake (i := 32) (v := ?_) rfl (by kernel_rfl) (by kernel_rfl) (by kernel_rfl) (fun _ _ _ h => h) hHeld (by rfl) ?_ ?_
  rotate_left
  · (intro w hSw; (try dsimp only at hSw); go_simp; try with_reducible rfl)
  try simp only [Act.put, List.setIfInBounds_toArray, List.set_cons_zero, List.set_cons_succ]
  refine heldTake (i := 33) (v := ?_) rfl (by kernel_rfl) (by kernel_rfl) (by kernel_rfl) (fun _ _ _ h => h) hHeld (by rfl) ?_ ?_
  rotate_left
  · (intro w hSw; (try dsimp only at hSw); go_simp; try with_reducible rfl)
  try simp only [Act.put, List.setIfInBounds_toArray, List.set_cons_zero, List.set_cons_succ]
  refine heldTake (i := 35) (v := ?_) rfl (by kernel_rfl) (by kernel_rfl) (by kernel_rfl) (fun _ _ _ h => h) hHeld (by rfl) ?_ ?_
  rotate_left
  · (intro w hSw; (try dsimp only at hSw); go_simp; try with_reducible rfl)
  try simp only [Act.put, List.setIfInBounds_toArray, List.set_cons_zero, List.set_cons_succ]
  refine heldStep (i := 34) rfl (by kernel_rfl) (fun K hK => ?_)
  go_simp
  go_at_call 59
  refine (HUs.out w8 b6).mono ?_
  rintro e w9 ⟨rfl, hb9⟩
  have b9 := b6.trans (hb9.mono b6.size)
  refine hK.out _ _ (HS.out w9 b9) (fun hHeld => ?_)
  clear hK K
  try simp only [Act.put, List.setIfInBounds_toArray, List.set_cons_zero, List.set_cons_succ]
  refine heldStep (i := 36) rfl (by kernel_rfl) (fun K hK => ?_)
  go_simp
  go_at_call 60
  refine (HRU.out w9 b9).mono ?_
  rintro e w10 ⟨rfl, hb10⟩
  have b10 := b9.trans (hb10.mono b9.size)
  refine hK.out _ _ (HS.out w10 b10) (fun hHeld => ?_)
  clear hK K
  try simp only [Act.put, List.setIfInBounds_toArray, List.set_cons_zero, List.set_cons_succ]
  refine heldTake (i := 37) (v := ?_) rfl (by kernel_rfl) (by kernel_rfl) (by kernel_rfl) (fun _ _ _ h => h) hHeld (by rfl) ?_ ?_
  rotate_left
  · (intro w hSw; (try dsimp only at hSw); go_simp; try with_reducible rfl)
  try simp only [Act.put, List.setIfInBounds_toArray, List.set_cons_zero, List.set_cons_succ]
  refine heldTake (i := 38) (v := ?_) rfl (by kernel_rfl) (by kernel_rfl) (by kernel_rfl) (fun _ _ _ h => h) hHeld (by rfl) ?_ ?_
  rotate_left
  · (intro w hSw; (try dsimp only at hSw); go_simp; try with_reducible rfl)
  try simp only [Act.put, List.setIfInBounds_toArray, List.set_cons_zero, List.set_cons_succ]
  refine wpAnyH_done (by kernel_rfl) ?_ _
  refine NoPanic.normal ?_
  have Q1 := R0.drew.below hb1 R0.drew.lt
  have Q2 := Q1.below hb2 Q1.lt
  have Q3 := Q2.below hb3 Q2.lt
  have Q4 := Q3.below hb4 Q3.lt
  have Q5 := Q4.below hb5 Q4.lt
  have Q6 := Q5.below hb6 Q5.lt
  have Q9 := Q6.below hb9 Q6.lt
  have Q10 := Q9.below hb10 Q9.lt
  have HEa := Lib.hid (c_Each w10 fb)
  have hz1 : w.heap.size < w0.heap.size := R0.lt
  clear Q1 Q2 Q3 Q4 Q5 Q6 Q9 R0 hb1 hb2 hb3 hb4 hb5 hb6 hb9 hb10 b1 b2 b3 b4 b5 b6 b9 r1 r2 r4 r5 hR1 hR2 hR4 hR5 ho1 ho2 ho4 ho5 hF1 hF2 hF4 hF5 hHeld hc1 hc2 hc4 hc5 HF HSf HRS HOp HDd HUs HRU HS
  unfold ptrV at *
  go_wp2_with fail
  refine HEa.out.mono ?_
  rintro e w11 ⟨rfl, hw11⟩
  have Bi := Bk.new_ w10 31 #[.pointer (some ⟨fb, 0, none⟩)]
  have hb11 := (Below.refl w10.heap.size w10).alloc (Nat.le_refl _) (.cells #[.pointer (some ⟨fb, 0, none⟩)] 31)
  rw [← hw11] at Bi hb11
  obtain ⟨bi, hbi⟩ : ∃ x, x = w10.heap.size := ⟨_, rfl⟩
  rw [← hbi] at Bi ⊢
  have b11 := b10.trans (hb11.mono b10.size)
  have Q11 := Q10.below hb11 Q10.lt
  have hnf := run_eql_each
  have hcn := fun (lb : Array Value) (W : World) => hnf W (.func 87) #[] lb
  clear hw11 HEa hbi hnf Q10 hb11
  go_wp2
  have hS1 := each_X 4 (by omega) bi fb (Y := fun _ => False) w11 (fun _ h => h.elim) Bi (HFs.out w11 b11) hi hN
  refine (wpIn_wide (n := 5)).1 ?_
  refine range_F (n := 5) (by omega) (gf := 87) (lb := #[.pointer (some ⟨bi, 0, none⟩)]) rfl (enters_of Tryz.func87 (by kernel_rfl) rfl)
    hS1 kpC_t kpC_b (Below.refl _ _) (fun _ => rfl)
    (fun _ W => Below w11.heap.size w11 W) (fun c' _ W => c' = .exit 0 ∧ Below w11.heap.size w11 W) (ownFrom_below (Nat.le_refl _) (Nat.le_refl _))
    (fun c' => (ownFrom_pure _ _).and (ownFrom_below (Nat.le_refl _) (Nat.le_refl _))) (Below.refl _ _) (KpC.refl _) (fun t x => (t.setIfInBounds 54 (svl x.1)).setIfInBounds 55 (.int .i64 (x.2.length : Int))) ?assign ?body ?done ?stop
  case assign =>
    intro l x W
    gi_wp2
    exact ⟨by simp, trivial⟩
  case body =>
    intro l pre x W hI _ _
    gi_wp2
    exact ⟨KeepsFrom.refl _ _, rfl, hI⟩
  case' done =>
    rintro D ys W hD _ hBW hK
    dsimp only
  case' stop =>
    rintro D c' pre W hD _ ⟨rfl, hBW⟩ hK
    gi_wp2
  all_goals
    have hDs : D < W.heap.size := (Array.getElem?_eq_some_iff.1 hK).1
    have hz6 := hBW.size
    have bW := b11.trans (hBW.mono b11.size)
    have HH := Lib.hid (HRF.out W bW)
    go_wp2_with (first | (go_at_call 57; refine HH.out.mono ?_; rintro e w8 ⟨A6, c6, F6, rfl, hc6, hF6, hR6, ho6, hb8⟩))
    have c1 : FlR w8 A6 ln F6 := by rw [Hln.out] at hR6 ⊢; exact FilesP.flr hF6 hR6 ho6
    have hb8w := b11.trans ((hBW.trans (hb8.mono hz6)).mono b11.size)
    have N9 := Bk.new_ w8 35 #[.slice A6 ln c6]
    have hb9 := (Below.refl w8.heap.size w8).alloc (Nat.le_refl _) (.cells #[.slice A6 ln c6] 35)
    have K9 := Bk.new_ (w8.alloc (.cells #[.slice A6 ln c6] 35)) 3 #[.int .i64 0]
    have L9 := N9.alloc (.cells #[.int .i64 0] 3)
    have hb9' := hb9.alloc hb9.size (.cells #[.int .i64 0] 3)
    have c9 := c1.below hb9'
    have hz9 : ((w8.alloc (.cells #[.slice A6 ln c6] 35)).alloc (.cells #[.int .i64 0] 3)).heap.size = w8.heap.size + 1 + 1 := by simp
    rw [World.size_alloc] at K9
    have M9 : ((w8.alloc (.cells #[.slice A6 ln c6] 35)).alloc (.cells #[.int .i64 0] 3)).heap[D]? = some (.deferred (some [])) := (hb9'.block D (by have := hb8.size; omega)).trans ((hb8.block D hDs).trans hK)
    have b9 := hb8w.trans (hb9'.mono hb8w.size)
    have Q9 : Bk ((w8.alloc (.cells #[.slice A6 ln c6] 35)).alloc (.cells #[.int .i64 0] 3)) w.heap.size 4 #[.bool false] := ((Q11.below hBW Q11.lt).below hb8 (Q11.below hBW Q11.lt).lt).below hb9' ((Q11.below hBW Q11.lt).below hb8 (Q11.below hBW Q11.lt).lt).lt
    have Bi9 := ((Bi.below hBW Bi.lt).below hb8 (Bi.below hBW Bi.lt).lt).below hb9' ((Bi.below hBW Bi.lt).below hb8 (Bi.below hBW Bi.lt).lt).lt
    obtain ⟨w9, hw9⟩ : ∃ x, x = (w8.alloc (.cells #[.slice A6 ln c6] 35)).alloc (.cells #[.int .i64 0] 3) := ⟨_, rfl⟩
    rw [← hw9] at K9 L9 c9 hz9 M9 b9 Q9 Bi9 ⊢
    obtain ⟨kb, hkb⟩ : ∃ x, x = w8.heap.size + 1 := ⟨_, rfl⟩
    obtain ⟨lb, hlb⟩ : ∃ x, x = w8.heap.size := ⟨_, rfl⟩
    rw [← hlb] at L9
    rw [← hkb] at K9 ⊢
    rw [← hlb]
    have hS2 := each_X 4 (by omega) bi fb (Y := fun b => b = kb) w9 (fun b h => by omega) Bi9 (HFs.out w9 b9) hi hN
    have hDk : D < kb := by have := hb8.size; omega
    have hDl : D < w9.heap.size := by have := hb8.size; omega
    have hz9w : w.heap.size < w11.heap.size := Q11.lt
    have hk89 : KpC (fun b => b = kb) w8 w9 := by rw [hw9]; exact KpC.of_below hb9'
    have hwk : w.heap.size < kb := by have := hb8.size; omega
    have h8k : w8.heap.size < kb := by omega
    have hlbk : lb < kb := by omega
    have hlkb : kb < w9.heap.size := by omega
    have Hc1 := Lib.hid c1
    have HF6 := Lib.hid hF6
    have HQ9 := Lib.hid Q9
    have HL9 := Lib.hid L9
    have b9l : w.heap.size ≤ w9.heap.size := b9.size
    have hdw : w.heap.size ≤ D := Nat.le_trans (Nat.le_of_lt hz9w) hD
    clear hw9 hkb hlb c1 c9 HH hF6 hR6 ho6 hb9 hb9' N9 hb8w hK Q9 L9
    refine (wpIn_wide (n := 5)).1 ?_
    refine range_F (n := 5) (by omega) (gf := 87) (lb := #[.pointer (some ⟨bi, 0, none⟩)]) rfl (enters_of Tryz.func87 (by kernel_rfl) rfl)
      hS2 kpC_t kpC_b (Below.refl _ _) (fun _ => rfl)
      (fun pre W => (Bk W kb 3 #[.int .i64 (pre.length : Int)] ∧ W.heap[D]? = some (.deferred (some []))) ∧ KpC (fun b => b = kb) w9 W ∧ Below w.heap.size w W) (fun c' _ W => False)
      (fun s X Y row h hg hr => ⟨⟨bk_kept h.1.1 hg (fun r e => (hr r e).2), (hg.block D (Array.getElem?_eq_some_iff.1 h.1.2).1 (fun e => by have := (hr D e.symm).1; omega)).trans h.1.2⟩, h.2.1.grownN hg (fun r e => (hr r e).2), h.2.2.grown hg h.2.2.size (fun k e => by have := (hr k e).1; omega)⟩)
      (fun c' s X Y row h hg hr => h) ⟨⟨K9, M9⟩, KpC.refl _ _, b9⟩ (KpC.refl _) (fun t x => (((t.setIfInBounds 59 (svl x.1)).setIfInBounds 60 (.int .i64 (x.2.length : Int))).setIfInBounds 8 (svl x.1)).setIfInBounds 9 (.int .i64 (x.2.length : Int))) ?_ ?_ ?_ ?_
    · intro l x W
      gi_wp2
      exact ⟨by simp, trivial⟩
    · rintro l pre x V ⟨⟨h1, h2⟩, h3, h4⟩ hy hlen
      rw [← HL.out] at hy hlen
      rw [← Hln.out] at hlen
      obtain ⟨k, hk⟩ : ∃ k, k = pre.length := ⟨_, rfl⟩
      rw [← hk] at h1 hy hlen
      have hkF : k < F6.length := by rw [Hc1.out.len]; exact hlen
      obtain ⟨b', o', rfl, hb', hcell⟩ := rdK_at FR.cs_len Hc1.out.rd hkF Hc1.out.len (by decide)
      have hx : x = F6[k].fl := by
        rw [← HF6.out, List.getElem?_map, List.getElem?_eq_getElem hkF] at hy
        exact (Option.some.inj hy).symm
      have hkk := hk89.trans h3
      have g0 : V.cell? ⟨b', o' + k * 2, none⟩ = some (svl F6[k].name) := hkk.cell (hcell w8 (Below.refl _ _) 0 _ rfl) (fun e => by have : b' = kb := e; omega)
      have g1 : V.cell? ⟨b', o' + k * 2 + 1, none⟩ = some (.slice F6[k].A F6[k].data.length F6[k].c) := hkk.cell (hcell w8 (Below.refl _ _) 1 _ rfl) (fun e => by have : b' = kb := e; omega)
      have l7 := (Bk.kpC HL9.out h3 (fun e => by omega)).cell
      have k7 := h1.cell
      have kz := h1.frz
      obtain ⟨m, hm⟩ : ∃ m, m = F6[k] := ⟨_, rfl⟩
      rw [← hm] at hx g0 g1
      obtain ⟨nm, dt, fA, fc⟩ := m
      subst hx
      have Hk := Lib.hid hk
      have i1 : (0 : Int) ≤ (k : Int) := by omega
      have i2 : (k : Int) < (ln : Int) := by omega
      have i3 : decide ((ln : Int) ≤ (k : Int)) = false := decide_eq_false (by omega)
      have i5 : ¬ ((ln : Int) ≤ (k : Int)) := by omega
      clear hcell hy hm hkk hk
      unfold svl FR.fl at *
      dsimp only at *
      simp only [List.setIfInBounds_toArray, List.set_cons_zero, List.set_cons_succ]
      gi_wp2
      refine ⟨(KeepsOthers.setCell _ _ _).from _, KpC.of_kb ((KbP.refl (fun b => b = kb) V).setCell (p := ⟨kb, 0, none⟩) (.inl rfl) _), ⟨⟨?_, ?_⟩, h3.trans (KpC.of_kb ((KbP.refl (fun b => b = kb) V).setCell (p := ⟨kb, 0, none⟩) (.inl rfl) _)), h4.setCell (p := ⟨kb, 0, none⟩) (Nat.le_of_lt hwk) _⟩⟩
      · rw [List.length_append, List.length_singleton, ← Hk.out]
        exact h1.set_ 0 _
      · exact (Below.heap_setCell _ _ _ _ (by dsimp only; omega)).trans h2
    · rintro D2 xs V hD2 hxs ⟨⟨h1, h2⟩, h3, h4⟩ hM
      have hxl : xs.length = ln := by rw [hxs, ← HL.out, Hln.out]
      rw [hxl] at h1
      have hD2l : D2 < V.heap.size := (Array.getElem?_eq_some_iff.1 hM).1
      have Rr := Bk.kpC HQ9.out h3 (fun e => by omega)
      have l7 := (Bk.kpC HL9.out h3 (fun e => by omega)).cell
      have k7 := h1.cell
      have r7 := Rr.cell
      have rz := Rr.frz
      have hDD : D ≠ D2 := by omega
      have hwD2 : w.heap.size ≠ D2 := by omega
      have hwD : w.heap.size ≠ D := by omega
      have e9 := (Rr.set_ 0 (.bool true)).cell 0
      have hKa : (V.setCell ⟨w.heap.size, 0, none⟩ (.bool true)).heap[D2]? = some (.deferred (some [])) := (Below.heap_setCell V ⟨w.heap.size, 0, none⟩ (.bool true) D2 (fun e => hwD2 e.symm)).trans hM
      have hKb : (V.setCell ⟨w.heap.size, 0, none⟩ (.bool true)).heap[D]? = some (.deferred (some [])) := (Below.heap_setCell V ⟨w.heap.size, 0, none⟩ (.bool true) D (fun e => hwD e.symm)).trans h2
      have hbf : Below w.heap.size w (V.setCell ⟨w.heap.size, 0, none⟩ (.bool true)) := h4.setCell (p := ⟨w.heap.size, 0, none⟩) (Nat.le_refl _) (.bool true)
      dsimp only
      clear h1 h2 h3 hM HL9 HQ9 hxs hxl
      go_wp2
      obtain ⟨Wf, hWf⟩ : ∃ x, x = V.setCell ⟨w.heap.size, 0, none⟩ (.bool true) := ⟨_, rfl⟩
      rw [← hWf] at e9 hKa hKb hbf ⊢
      clear hWf
      have hKc := ((grownBy_putObj' Wf D2 (.deferred none)).block D (Array.getElem?_eq_some_iff.1 hKb).1 (fun e => hDD (Option.some.inj e))).trans hKb
      refine ⟨by simp, .inl ⟨_, _, rfl, run_takeDeferred hKa, ?_⟩⟩
      refine ⟨by simp, .inl ⟨_, _, rfl, run_takeDeferred hKc, ?_⟩⟩
      have f3 := cell_kept (v := .bool true) e9 (grownBy_putObj' _ D2 (.deferred none)) (fun r' e => by cases e; exact ⟨_, hKa, rfl⟩)
      have f4 := cell_kept (v := .bool true) f3 (grownBy_putObj' _ D (.deferred none)) (fun r' e => by cases e; exact ⟨_, hKc, rfl⟩)
      refine ⟨.bool true, ?_, rfl, (hbf.trans (belowK_b (w := w) (Nat.le_refl _) _ D2 _ _ (by omega) hKa rfl rfl)).trans (belowK_b (w := w) (Nat.le_refl _) _ D _ _ (by omega) hKc rfl rfl)⟩
      simp [results, Tryz.results27, go_sem, f4]
    · intro D c' pre W _ _ h
      exact h.elim
end Go.Proofs.YtaanmnplfppdeaaGreat
/- Layer 1: both file systems behind operations: the walk of made. -/
namespace Go.Fsy
theorem take_map {α β : Type} (f : α → β) (l : List α) (k : Nat) : (l.map f).take k = (l.take k).map f := by rw [List.map_take]
end Go.Fsy
namespace Go.Proofs.YtaanmnplfppdeaaGreat
open Go.RowKit Go.Lec Go.Fsy Go.Op Go.Maps
theorem Two.mk' {B : Nat} {w w1 w2 : World} {fb rb : Nat} {s : St} {X I Y J : Nat → Prop} (hB : B ≤ w.heap.size) (hf : FsP X I w1 fb s) (hx : ∀ b, X b → w.heap.size ≤ b) (hb1 : Below w.heap.size w w1) (hr : RfP Y J w2 rb s) (hy : ∀ b, Y b → w1.heap.size ≤ b) (hj : ∀ b, J b → w1.heap.size ≤ b) (hb2 : Below w1.heap.size w1 w2) : Two B w2 fb rb s :=
  ⟨X, I, Y, J, hf.below hb2, hr, ⟨fun b h1 h2 => by have := hf.lt b (.inl h1); have := hy b h2; omega, fun b h1 h2 => by have := hf.lt b (.inl h1); have := hj b h2; omega, fun b h1 h2 => by have := hf.lt b (.inr h1); have := hy b h2; omega⟩,
    fun b h => Nat.le_trans hB (hx b h), fun b h => Nat.le_trans hB (Nat.le_trans hb1.size (hy b h))⟩
/-- What both are behind operations. -/
def MadeP (B : Nat) (w : World) (s : St) (e : Ending) (w' : World) : Prop := ∃ fb rb, e = .returned (.tuple #[ptrV fb, ptrV rb, .bool true]) ∧ Two B w' fb rb s ∧ Below B w w'
set_option maxRecDepth 100000 in
set_option maxHeartbeats 4000000 in
theorem c_made (w : World) {B n c : Nat} {p : Pl} {AK AF AU A : Option Addr} {cK cF cU : Nat} {L : List OpR} (hP : PlOk (fun b => b < B) w p AK cK AF cF AU cU) (hpo : p.ok) (h : OpsR B w A n L) (hn : n ≤ 3000) (hB : B ≤ w.heap.size) :
    Calls Tryz.prog 11 #[plV p AK cK AF cF AU cU, .slice A n c] w (MadeP B w (runs (new p) (L.map OpR.o))) := by
  have hb0 := (Below.refl w.heap.size w).alloc (Nat.le_refl _) (.cells #[.int .i64 p.crash, .slice AK p.keep.length cK, .slice AF p.fail.length cF, .slice AU p.full.length cU, .int .i64 p.room] 24)
  have hB0 := Bk.new_ w 24 #[.int .i64 p.crash, .slice AK p.keep.length cK, .slice AF p.fail.length cF, .slice AU p.full.length cU, .int .i64 p.room]
  have hP0 := hP.below hb0
  have HN1 := Lib.hid (c_FsNew (w.alloc (.cells #[.int .i64 p.crash, .slice AK p.keep.length cK, .slice AF p.fail.length cF, .slice AU p.full.length cU, .int .i64 p.room] 24)).drew (hP0.below (Below.refl _ _).drew) hpo.1 hpo.2.1 hpo.2.2.1)
  have HN2 := Lib.hid (fun (W : World) (hb : Below (w.alloc (.cells #[.int .i64 p.crash, .slice AK p.keep.length cK, .slice AF p.fail.length cF, .slice AU p.full.length cU, .int .i64 p.room] 24)).drew.heap.size (w.alloc (.cells #[.int .i64 p.crash, .slice AK p.keep.length cK, .slice AF p.fail.length cF, .slice AU p.full.length cU, .int .i64 p.room] 24)).drew W) => c_rNew W ((hP0.below (Below.refl _ _).drew).below hb) hpo.1 hpo.2.1 hpo.2.2.1)
  obtain ⟨ls, hls⟩ : ∃ ls, ls = L.map OpR.o := ⟨_, rfl⟩
  rw [← hls]
  have hll : ls.length = n := by rw [hls, List.length_map, h.len]
  have Hls := Lib.hid hls
  have Hll := Lib.hid hll
  have H := Lib.hid h
  have hps : ∀ o ∈ ls, o.p.ok := by
    intro o ho
    rw [hls] at ho
    obtain ⟨x, hx, rfl⟩ := List.mem_map.1 ho
    exact (h.ok x hx).pk
  have Hi := Lib.hid (fun k => (Inv.new p).runs (l := ls.take k))
  have Hpl := Lib.hid (fun k => runs_pl (s := new p) (l := ls.take k) hpo (fun o ho => hps o (List.mem_of_mem_take ho)))
  have Hb0 := Lib.hid hb0
  have qb := hB0.cell
  unfold NewP RnewP plV ptrV at *
  clear hP hP0 h hls hll hps hb0
  go_enter Tryz.func11, Tryz.ntmps11
  go_wp2
  have hHeld : (fun W : World => W.cell? ⟨w.heap.size, 0, none⟩ = some (.int .i64 p.crash) ∧ W.cell? ⟨w.heap.size, 1, none⟩ = some (.slice AK p.keep.length cK) ∧ W.cell? ⟨w.heap.size, 2, none⟩ = some (.slice AF p.fail.length cF) ∧ W.cell? ⟨w.heap.size, 3, none⟩ = some (.slice AU p.full.length cU) ∧ W.cell? ⟨w.heap.size, 4, none⟩ = some (.int .i64 p.room)) (w.alloc (.cells #[.int .i64 p.crash, .slice AK p.keep.length cK, .slice AF p.fail.length cF, .slice AU p.full.length cU, .int .i64 p.room] 24)).drew := ⟨qb 0, qb 1, qb 2, qb 3, qb 4⟩
  refine wp_region_T (S := fun W : World => W.cell? ⟨w.heap.size, 0, none⟩ = some (.int .i64 p.crash) ∧ W.cell? ⟨w.heap.size, 1, none⟩ = some (.slice AK p.keep.length cK) ∧ W.cell? ⟨w.heap.size, 2, none⟩ = some (.slice AF p.fail.length cF) ∧ W.cell? ⟨w.heap.size, 3, none⟩ = some (.slice AU p.full.length cU) ∧ W.cell? ⟨w.heap.size, 4, none⟩ = some (.int .i64 p.room)) (m := 6) (by kernel_rfl) ?_
  simp only [List.size_toArray, List.length_cons, List.length_nil, Nat.reduceAdd]
  refine tTake (i := 0) (v := ?_) rfl (by kernel_rfl) (by kernel_rfl) (by kernel_rfl) (by kernel_rfl) (fun _ _ _ h => h) hHeld (by rfl) ?_ ?_
  rotate_left
  · (intro w hSw; (try dsimp only at hSw); go_simp; try with_reducible rfl)
  try simp only [Act.put, List.setIfInBounds_toArray, List.set_cons_zero, List.set_cons_succ]
  refine tTake (i := 2) (v := ?_) rfl (by kernel_rfl) (by kernel_rfl) (by kernel_rfl) (by kernel_rfl) (fun _ _ _ h => h) hHeld (by rfl) ?_ ?_
  rotate_left
  · (intro w hSw; (try dsimp only at hSw); go_simp; try with_reducible rfl)
  try simp only [Act.put, List.setIfInBounds_toArray, List.set_cons_zero, List.set_cons_succ]
  refine tStep (i := 1) rfl (by kernel_rfl) (fun K hK => ?_)
  go_simp
  go_at_call 24
  refine HN1.out.mono ?_
  rintro e w1 ⟨fb, X, I, rfl, hf1, hx1, hi1, hb1⟩
  have q1 := (hB0.drew.below hb1 hB0.drew.lt).cell
  have hHeldN : (fun W : World => W.cell? ⟨w.heap.size, 0, none⟩ = some (.int .i64 p.crash) ∧ W.cell? ⟨w.heap.size, 1, none⟩ = some (.slice AK p.keep.length cK) ∧ W.cell? ⟨w.heap.size, 2, none⟩ = some (.slice AF p.fail.length cF) ∧ W.cell? ⟨w.heap.size, 3, none⟩ = some (.slice AU p.full.length cU) ∧ W.cell? ⟨w.heap.size, 4, none⟩ = some (.int .i64 p.room)) _ := ⟨q1 0, q1 1, q1 2, q1 3, q1 4⟩
  refine hK.out _ _ (fun _ => hHeldN) ?_
  clear hK K hHeld
  have hHeld := hHeldN
  clear hHeldN
  try simp only [Act.put, List.setIfInBounds_toArray, List.set_cons_zero, List.set_cons_succ]
  refine tStep (i := 3) rfl (by kernel_rfl) (fun K hK => ?_)
  go_simp
  go_at_call 25
  refine (HN2.out w1 hb1).mono ?_
  rintro e w2 ⟨rb, Y, J, rfl, hr2, hy2, hj2, hb2⟩
  have q2 := ((hB0.drew.below hb1 hB0.drew.lt).below hb2 (hB0.drew.below hb1 hB0.drew.lt).lt).cell
  have hHeldN : (fun W : World => W.cell? ⟨w.heap.size, 0, none⟩ = some (.int .i64 p.crash) ∧ W.cell? ⟨w.heap.size, 1, none⟩ = some (.slice AK p.keep.length cK) ∧ W.cell? ⟨w.heap.size, 2, none⟩ = some (.slice AF p.fail.length cF) ∧ W.cell? ⟨w.heap.size, 3, none⟩ = some (.slice AU p.full.length cU) ∧ W.cell? ⟨w.heap.size, 4, none⟩ = some (.int .i64 p.room)) _ := ⟨q2 0, q2 1, q2 2, q2 3, q2 4⟩
  refine hK.out _ _ (fun _ => hHeldN) ?_
  clear hK K hHeld
  have hHeld := hHeldN
  clear hHeldN
  try simp only [Act.put, List.setIfInBounds_toArray, List.set_cons_zero, List.set_cons_succ]
  refine tStep (i := 4) rfl (by kernel_rfl) (fun K hK => ?_)
  go_simp
  have hHeldN : (fun W : World => W.cell? ⟨w.heap.size, 0, none⟩ = some (.int .i64 p.crash) ∧ W.cell? ⟨w.heap.size, 1, none⟩ = some (.slice AK p.keep.length cK) ∧ W.cell? ⟨w.heap.size, 2, none⟩ = some (.slice AF p.fail.length cF) ∧ W.cell? ⟨w.heap.size, 3, none⟩ = some (.slice AU p.full.length cU) ∧ W.cell? ⟨w.heap.size, 4, none⟩ = some (.int .i64 p.room)) _ := hHeld
  refine hK.out _ _ (fun _ => hHeldN) ?_
  clear hK K hHeld
  have hHeld := hHeldN
  clear hHeldN
  try simp only [Act.put, List.setIfInBounds_toArray, List.set_cons_zero, List.set_cons_succ]
  refine tStep (i := 5) rfl (by kernel_rfl) (fun K hK => ?_)
  go_simp
  have hHeldN : (fun W : World => W.cell? ⟨w.heap.size, 0, none⟩ = some (.int .i64 p.crash) ∧ W.cell? ⟨w.heap.size, 1, none⟩ = some (.slice AK p.keep.length cK) ∧ W.cell? ⟨w.heap.size, 2, none⟩ = some (.slice AF p.fail.length cF) ∧ W.cell? ⟨w.heap.size, 3, none⟩ = some (.slice AU p.full.length cU) ∧ W.cell? ⟨w.heap.size, 4, none⟩ = some (.int .i64 p.room)) _ := hHeld
  refine hK.out _ _ (fun _ => hHeldN) ?_
  clear hK K hHeld
  have hHeld := hHeldN
  clear hHeldN
  try simp only [Act.put, List.setIfInBounds_toArray, List.set_cons_zero, List.set_cons_succ]
  refine tDone (by kernel_rfl) ?_ _
  have hT : Two B w2 fb rb (new p) := Two.mk' (w := (w.alloc (.cells #[.int .i64 p.crash, .slice AK p.keep.length cK, .slice AF p.fail.length cF, .slice AU p.full.length cU, .int .i64 p.room] 24)).drew) (Nat.le_trans hB Hb0.out.drew.size) hf1 hx1 hb1 hr2 hy2 hj2 hb2
  have hbw2 : Below B w w2 := ((Hb0.out.drew).trans (hb1.mono Hb0.out.drew.size)).trans (hb2.mono (Nat.le_trans Hb0.out.drew.size hb1.size)) |>.mono hB
  clear hHeld q1 q2 qb hf1 hx1 hi1 hb1 hr2 hy2 hj2 hb2 hB0 HN1 HN2 Hb0
  go_wp2
  go_loopw [19] (fun i wr => ∃ k : Nat, k ≤ n ∧ i = .int .i64 (k : Int) ∧ Two B wr fb rb (runs (new p) (ls.take k)) ∧ Below B w wr) (fun i _ => n - (intOf i).toNat)
  case atStart => exact ⟨0, Nat.zero_le _, rfl, hT, hbw2⟩
  case round =>
    obtain ⟨k, hk, rfl, hTk, hbl⟩ := hrel
    clear hT hbw2
    by_cases hlt : k < n
    · have hkL : k < L.length := by rw [H.out.len]; exact hlt
      have hkl : k < ls.length := by rw [Hll.out]; exact hlt
      have HO := H.out.below hbl
      obtain ⟨b, o, rfl, hbB, hcell⟩ := rdK_at OpR.cs_len HO.rd.rd hkL HO.len (by decide)
      have hok := HO.ok _ (List.getElem_mem hkL)
      have hx : ls[k] = L[k].o := by have := Hls.out; subst this; simp
      have hrs : runs (new p) (ls.take (k + 1)) = (doOp (runs (new p) (ls.take k)) ls[k]).1 := by rw [List.take_succ_eq_append_getElem hkl, runs_snoc]
      rw [hx] at hrs
      have hcl := hcell wr (Below.refl _ _)
      obtain ⟨x, hxx⟩ : ∃ x, x = L[k] := ⟨_, rfl⟩
      rw [← hxx] at hcl hok hrs
      have g : ∀ j u, x.cs[j]? = some u → wr.cell? ⟨b, o + k * 10 + j, none⟩ = some u := hcl
      have g0 : wr.cell? ⟨b, o + k * 10, none⟩ = some (.int .i64 x.o.kind) := g 0 _ rfl
      have g1 : wr.cell? ⟨b, o + k * 10 + 1, none⟩ = some (svl x.o.name) := g 1 _ rfl
      have g2 : wr.cell? ⟨b, o + k * 10 + 2, none⟩ = some (svl x.o.dst) := g 2 _ rfl
      have g3 : wr.cell? ⟨b, o + k * 10 + 3, none⟩ = some (.slice x.A x.o.data.length x.c) := g 3 _ rfl
      have g4 : wr.cell? ⟨b, o + k * 10 + 4, none⟩ = some (.int .i64 x.o.n) := g 4 _ rfl
      have g5 : wr.cell? ⟨b, o + k * 10 + 5, none⟩ = some (.int .i64 x.o.p.crash) := g 5 _ rfl
      have g6 : wr.cell? ⟨b, o + k * 10 + 6, none⟩ = some (.slice x.AK x.o.p.keep.length x.cK) := g 6 _ rfl
      have g7 : wr.cell? ⟨b, o + k * 10 + 7, none⟩ = some (.slice x.AF x.o.p.fail.length x.cF) := g 7 _ rfl
      have g8 : wr.cell? ⟨b, o + k * 10 + 8, none⟩ = some (.slice x.AU x.o.p.full.length x.cU) := g 8 _ rfl
      have g9 : wr.cell? ⟨b, o + k * 10 + 9, none⟩ = some (.int .i64 x.o.p.room) := g 9 _ rfl
      clear g
      have hbx := (Below.refl wr.heap.size wr).alloc (Nat.le_refl _) (.cells x.cs.toArray 30)
      have hBx := Nat.le_trans hB hbl.size
      have hB1 := (Bk.new_ wr 30 x.cs.toArray).cell
      have hik := Hi.out k
      have hl2 : (ls.take k).length ≤ 3000 := by rw [List.length_take]; omega
      have HDo := Lib.hid (c_do _ (hTk.below hbx) hik (by omega) (Hpl.out k) (hok.below (hbx.mono hBx)) (Nat.le_trans hBx hbx.size))
      have Hrs := Lib.hid hrs
      have Hbx := Lib.hid (hbl.trans (hbx.mono hBx))
      unfold OpR.cs ptrV at HDo
      unfold OpR.cs at hB1
      clear hcell hx hrs hcl hok hxx HO hTk hik hbx hl2
      unfold svl at *
      go_wp2_with (first | (go_at_call 26; refine HDo.out.mono ?_; rintro e w5 ⟨rfl, hT5, hb5⟩))
      go_roundw
      case rel => exact ⟨k + 1, by omega, by go_num, by rw [Hrs.out]; exact hT5, Hbx.out.trans hb5⟩
      case measure => simp [intOf]; omega
    · obtain rfl : k = n := by omega
      have hfin : Two B wr fb rb (runs (new p) ls) := by rwa [← Hll.out, List.take_length] at hTk
      go_wp2
      refine bodyPost_ret (v := .tuple #[.pointer (some ⟨fb, 0, none⟩), .pointer (some ⟨rb, 0, none⟩), .bool true]) (by simp [results, Tryz.results11, go_sem]) rfl ?_
      exact ⟨fb, rb, rfl, hfin, hbl⟩
end Go.Proofs.YtaanmnplfppdeaaGreat
