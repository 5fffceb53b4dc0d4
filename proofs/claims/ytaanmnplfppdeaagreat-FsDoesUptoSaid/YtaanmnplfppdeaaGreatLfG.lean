/- Layer 1: the walk of FsDoes. -/
import Derived.Test.YtaanmnplfppdeaaGreatLfD
namespace Go.Proofs.YtaanmnplfppdeaaGreat
open Go.RowKit Go.Lec Go.Fsy Go.Op Go.Maps
set_option maxRecDepth 100000 in
set_option maxHeartbeats 4000000 in
theorem w_FsDoes (w : World) {n c : Nat} {p : Pl} {AK AF AU A : Option Addr} {cK cF cU : Nat} {L : List OpR} (hP : PlOk (fun b => b < w.heap.size) w p AK cK AF cF AU cU) (hpo : p.ok) (h : OpsR w.heap.size w A n L) (hn : n ≤ 1048576) :
    Calls Tryz.prog 7 #[plV p AK cK AF cF AU cU, .slice A n c] w fun e w' => e = .returned (.bool true) ∧ Below w.heap.size w w' := by
  have hb0 := (Below.refl w.heap.size w).alloc (Nat.le_refl _) (.cells #[.int .i64 p.crash, .slice AK p.keep.length cK, .slice AF p.fail.length cF, .slice AU p.full.length cU, .int .i64 p.room] 24)
  have hB0 := Bk.new_ w 24 #[.int .i64 p.crash, .slice AK p.keep.length cK, .slice AF p.fail.length cF, .slice AU p.full.length cU, .int .i64 p.room]
  have HPl := Lib.hid (fun (W : World) (hb : Below w.heap.size w W) => hP.kbP (kbP_of_below hb) (fun b h1 h2 => by omega))
  have HFi := Lib.hid (fun (W : World) (hb : Below w.heap.size w W) => c_fits W (c := c) (h.below hb) hn)
  obtain ⟨ls, hls⟩ : ∃ ls, ls = L.map OpR.o := ⟨_, rfl⟩
  rw [← hls] at HFi
  have hll : ls.length = n := by rw [hls, List.length_map, h.len]
  have Hls := Lib.hid hls
  have Hll := Lib.hid hll
  have H := Lib.hid h
  have hps : ∀ o ∈ ls, o.p.ok := by
    intro o ho
    rw [hls] at ho
    obtain ⟨x, hx, rfl⟩ := List.mem_map.1 ho
    exact (h.ok x hx).pk
  have Hi := Lib.hid (fun k => (Inv.new p).runs (l := ls.take k))
  have Hpl := Lib.hid (fun k => runs_pl (s := new p) (l := ls.take k) hpo (fun o ho => hps o (List.mem_of_mem_take ho)))
  have Hb0 := Lib.hid hb0
  unfold plV at *
  clear hP h hls hll hps hb0
  cases hfw : few ls with
  | false =>
    rw [hfw] at HFi
    clear hfw
    go_enter Tryz.func7, Tryz.ntmps7
    go_wp2_with (first
      | (go_at_call 9; refine (c_awake _).mono ?_; rintro e wA ⟨rfl, hbA⟩; have bA := Hb0.out.trans (hbA.mono Hb0.out.size))
      | (go_at_call 10; refine (HFi.out wA bA).mono ?_; rintro e wF ⟨rfl, hbF⟩))
    go_ret
    exact ⟨rfl, bA.trans (hbF.mono bA.size)⟩
  | true =>
    have hn3 : n ≤ 3000 := by have := few_len hfw; rw [Hll.out] at this; exact this
    rw [hfw] at HFi
    clear hfw hn
    go_enter Tryz.func7, Tryz.ntmps7
    go_wp2_with (first
      | (go_at_call 9; refine (c_awake _).mono ?_; rintro e wA ⟨rfl, hbA⟩; have bA := Hb0.out.trans (hbA.mono Hb0.out.size); have BA := hB0.below hbA hB0.lt)
      | (go_at_call 10; refine (HFi.out wA bA).mono ?_; rintro e wF ⟨rfl, hbF⟩))
    have bF := bA.trans (hbF.mono bA.size)
    have BF := BA.below hbF BA.lt
    have qb := BF.cell
    have HN1 := Lib.hid (c_FsNew wF.drew (HPl.out wF.drew bF.drew) hpo.1 hpo.2.1 hpo.2.2.1)
    have HN2 := Lib.hid (fun (W : World) (hb : Below wF.drew.heap.size wF.drew W) => c_rNew W (HPl.out W (bF.drew.trans (hb.mono bF.drew.size))) hpo.1 hpo.2.1 hpo.2.2.1)
    unfold NewP RnewP plV ptrV at *
    clear hbA bA BA hbF HFi hB0 Hb0
    have hHeld : (fun W : World => W.cell? ⟨w.heap.size, 0, none⟩ = some (.int .i64 p.crash) ∧ W.cell? ⟨w.heap.size, 1, none⟩ = some (.slice AK p.keep.length cK) ∧ W.cell? ⟨w.heap.size, 2, none⟩ = some (.slice AF p.fail.length cF) ∧ W.cell? ⟨w.heap.size, 3, none⟩ = some (.slice AU p.full.length cU) ∧ W.cell? ⟨w.heap.size, 4, none⟩ = some (.int .i64 p.room)) wF.drew := ⟨qb 0, qb 1, qb 2, qb 3, qb 4⟩
    refine wp_region_T (S := fun W : World => W.cell? ⟨w.heap.size, 0, none⟩ = some (.int .i64 p.crash) ∧ W.cell? ⟨w.heap.size, 1, none⟩ = some (.slice AK p.keep.length cK) ∧ W.cell? ⟨w.heap.size, 2, none⟩ = some (.slice AF p.fail.length cF) ∧ W.cell? ⟨w.heap.size, 3, none⟩ = some (.slice AU p.full.length cU) ∧ W.cell? ⟨w.heap.size, 4, none⟩ = some (.int .i64 p.room)) (m := 6) (by kernel_rfl) ?_
    simp only [List.size_toArray, List.length_cons, List.length_nil, Nat.reduceAdd]
    refine tTake (i := 0) (v := ?_) rfl (by kernel_rfl) (by kernel_rfl) (by kernel_rfl) (by kernel_rfl) (fun _ _ _ h => h) hHeld (by rfl) ?_ ?_
    rotate_left
    · (intro w hSw; (try dsimp only at hSw); go_simp; try with_reducible rfl)
    try simp only [Act.put, List.setIfInBounds_toArray, List.set_cons_zero, List.set_cons_succ]
    refine tTake (i := 2) (v := ?_) rfl (by kernel_rfl) (by kernel_rfl) (by kernel_rfl) (by kernel_rfl) (fun _ _ _ h => h) hHeld (by rfl) ?_ ?_
    rotate_left
    · (intro w hSw; (try dsimp only at hSw); go_simp; try with_reducible rfl)
    try simp only [Act.put, List.setIfInBounds_toArray, List.set_cons_zero, List.set_cons_succ]
    refine tStep (i := 1) rfl (by kernel_rfl) (fun K hK => ?_)
    go_simp
    go_at_call 24
    refine HN1.out.mono ?_
    rintro e w1 ⟨fb, X, I, rfl, hf1, hx1, hi1, hb1⟩
    have q1 := (BF.drew.below hb1 BF.drew.lt).cell
    have hHeldN : (fun W : World => W.cell? ⟨w.heap.size, 0, none⟩ = some (.int .i64 p.crash) ∧ W.cell? ⟨w.heap.size, 1, none⟩ = some (.slice AK p.keep.length cK) ∧ W.cell? ⟨w.heap.size, 2, none⟩ = some (.slice AF p.fail.length cF) ∧ W.cell? ⟨w.heap.size, 3, none⟩ = some (.slice AU p.full.length cU) ∧ W.cell? ⟨w.heap.size, 4, none⟩ = some (.int .i64 p.room)) _ := ⟨q1 0, q1 1, q1 2, q1 3, q1 4⟩
    refine hK.out _ _ (fun _ => hHeldN) ?_
    clear hK K hHeld
    have hHeld := hHeldN
    clear hHeldN
    try simp only [Act.put, List.setIfInBounds_toArray, List.set_cons_zero, List.set_cons_succ]
    refine tStep (i := 3) rfl (by kernel_rfl) (fun K hK => ?_)
    go_simp
    go_at_call 25
    refine (HN2.out w1 hb1).mono ?_
    rintro e w2 ⟨rb, Y, J, rfl, hr2, hy2, hj2, hb2⟩
    have q2 := ((BF.drew.below hb1 BF.drew.lt).below hb2 (BF.drew.below hb1 BF.drew.lt).lt).cell
    have hHeldN : (fun W : World => W.cell? ⟨w.heap.size, 0, none⟩ = some (.int .i64 p.crash) ∧ W.cell? ⟨w.heap.size, 1, none⟩ = some (.slice AK p.keep.length cK) ∧ W.cell? ⟨w.heap.size, 2, none⟩ = some (.slice AF p.fail.length cF) ∧ W.cell? ⟨w.heap.size, 3, none⟩ = some (.slice AU p.full.length cU) ∧ W.cell? ⟨w.heap.size, 4, none⟩ = some (.int .i64 p.room)) _ := ⟨q2 0, q2 1, q2 2, q2 3, q2 4⟩
    refine hK.out _ _ (fun _ => hHeldN) ?_
    clear hK K hHeld
    have hHeld := hHeldN
    clear hHeldN
    try simp only [Act.put, List.setIfInBounds_toArray, List.set_cons_zero, List.set_cons_succ]
    refine tStep (i := 4) rfl (by kernel_rfl) (fun K hK => ?_)
    go_simp
    have hHeldN : (fun W : World => W.cell? ⟨w.heap.size, 0, none⟩ = some (.int .i64 p.crash) ∧ W.cell? ⟨w.heap.size, 1, none⟩ = some (.slice AK p.keep.length cK) ∧ W.cell? ⟨w.heap.size, 2, none⟩ = some (.slice AF p.fail.length cF) ∧ W.cell? ⟨w.heap.size, 3, none⟩ = some (.slice AU p.full.length cU) ∧ W.cell? ⟨w.heap.size, 4, none⟩ = some (.int .i64 p.room)) _ := hHeld
    refine hK.out _ _ (fun _ => hHeldN) ?_
    clear hK K hHeld
    have hHeld := hHeldN
    clear hHeldN
    try simp only [Act.put, List.setIfInBounds_toArray, List.set_cons_zero, List.set_cons_succ]
    refine tStep (i := 5) rfl (by kernel_rfl) (fun K hK => ?_)
    go_simp
    have hHeldN : (fun W : World => W.cell? ⟨w.heap.size, 0, none⟩ = some (.int .i64 p.crash) ∧ W.cell? ⟨w.heap.size, 1, none⟩ = some (.slice AK p.keep.length cK) ∧ W.cell? ⟨w.heap.size, 2, none⟩ = some (.slice AF p.fail.length cF) ∧ W.cell? ⟨w.heap.size, 3, none⟩ = some (.slice AU p.full.length cU) ∧ W.cell? ⟨w.heap.size, 4, none⟩ = some (.int .i64 p.room)) _ := hHeld
    refine hK.out _ _ (fun _ => hHeldN) ?_
    clear hK K hHeld
    have hHeld := hHeldN
    clear hHeldN
    try simp only [Act.put, List.setIfInBounds_toArray, List.set_cons_zero, List.set_cons_succ]
    refine tDone (by kernel_rfl) ?_ _
    have hT : Two w.heap.size w2 fb rb (new p) := Two.mk' (w := wF.drew) bF.drew.size hf1 hx1 hb1 hr2 hy2 hj2 hb2
    have hbw2 : Below w.heap.size w w2 := (bF.drew.trans (hb1.mono bF.drew.size)).trans (hb2.mono (Nat.le_trans bF.drew.size hb1.size))
    clear hHeld q1 q2 qb hf1 hx1 hi1 hb1 hr2 hy2 hj2 hb2 BF HN1 HN2
    go_wp2
    go_loopw [22] (fun i wr => ∃ k : Nat, k ≤ n ∧ i = .int .i64 (k : Int) ∧ Two w.heap.size wr fb rb (runs (new p) (ls.take k)) ∧ Below w.heap.size w wr) (fun i _ => n - (intOf i).toNat)
    case atStart => exact ⟨0, Nat.zero_le _, rfl, hT, hbw2⟩
    case round =>
      clear hT hbw2
      obtain ⟨k, hk, rfl, hTk, hbl⟩ := hrel
      by_cases hlt : k < n
      · have hkL : k < L.length := by rw [H.out.len]; exact hlt
        have hkl : k < ls.length := by rw [Hll.out]; exact hlt
        have HO := H.out.below hbl
        obtain ⟨b, o, rfl, hbB, hcell⟩ := rdK_at OpR.cs_len HO.rd.rd hkL HO.len (by decide)
        have hok := HO.ok _ (List.getElem_mem hkL)
        have hx : ls[k] = L[k].o := by have := Hls.out; subst this; simp
        have hrs : runs (new p) (ls.take (k + 1)) = (doOp (runs (new p) (ls.take k)) ls[k]).1 := by rw [List.take_succ_eq_append_getElem hkl, runs_snoc]
        rw [hx] at hrs
        have hcl := hcell wr (Below.refl _ _)
        obtain ⟨x, hxx⟩ : ∃ x, x = L[k] := ⟨_, rfl⟩
        rw [← hxx] at hcl hok hrs
        have g : ∀ j u, x.cs[j]? = some u → wr.cell? ⟨b, o + k * 10 + j, none⟩ = some u := hcl
        have g0 : wr.cell? ⟨b, o + k * 10, none⟩ = some (.int .i64 x.o.kind) := g 0 _ rfl
        have g1 : wr.cell? ⟨b, o + k * 10 + 1, none⟩ = some (svl x.o.name) := g 1 _ rfl
        have g2 : wr.cell? ⟨b, o + k * 10 + 2, none⟩ = some (svl x.o.dst) := g 2 _ rfl
        have g3 : wr.cell? ⟨b, o + k * 10 + 3, none⟩ = some (.slice x.A x.o.data.length x.c) := g 3 _ rfl
        have g4 : wr.cell? ⟨b, o + k * 10 + 4, none⟩ = some (.int .i64 x.o.n) := g 4 _ rfl
        have g5 : wr.cell? ⟨b, o + k * 10 + 5, none⟩ = some (.int .i64 x.o.p.crash) := g 5 _ rfl
        have g6 : wr.cell? ⟨b, o + k * 10 + 6, none⟩ = some (.slice x.AK x.o.p.keep.length x.cK) := g 6 _ rfl
        have g7 : wr.cell? ⟨b, o + k * 10 + 7, none⟩ = some (.slice x.AF x.o.p.fail.length x.cF) := g 7 _ rfl
        have g8 : wr.cell? ⟨b, o + k * 10 + 8, none⟩ = some (.slice x.AU x.o.p.full.length x.cU) := g 8 _ rfl
        have g9 : wr.cell? ⟨b, o + k * 10 + 9, none⟩ = some (.int .i64 x.o.p.room) := g 9 _ rfl
        clear g
        have hbx := (Below.refl wr.heap.size wr).alloc (Nat.le_refl _) (.cells x.cs.toArray 30)
        have hBx := Nat.le_trans (Nat.le_refl w.heap.size) hbl.size
        have hB1 := (Bk.new_ wr 30 x.cs.toArray).cell
        have hik := Hi.out k
        have hl2 : (ls.take k).length ≤ 3000 := by rw [List.length_take]; omega
        have HDo := Lib.hid (c_do _ (hTk.below hbx) hik (by omega) (Hpl.out k) (hok.below (hbx.mono hBx)) (Nat.le_trans hBx hbx.size))
        have Hrs := Lib.hid hrs
        have Hbx := Lib.hid (hbl.trans (hbx.mono hBx))
        unfold OpR.cs ptrV at HDo
        unfold OpR.cs at hB1
        clear hcell hx hrs hcl hok hxx HO hTk hik hbx hl2
        unfold svl at *
        have Hik2 := Lib.hid (Hi.out (k + 1))
        have hl3 : (ls.take (k + 1)).length ≤ 3000 := by rw [List.length_take]; omega
        rw [Hrs.out] at Hik2
        go_wp2_with (first
          | (go_at_call 26; refine HDo.out.mono ?_; rintro e w5 ⟨rfl, hT5, hb5⟩; have HSm := Lib.hid (c_same w5 hT5 Hik2.out (by omega)); unfold ptrV at HSm)
          | (go_at_call 27; refine HSm.out.mono ?_; rintro e w6 ⟨rfl, hb6⟩))
        have b5 := Hbx.out.trans hb5
        go_roundw
        case rel => exact ⟨k + 1, by omega, by go_num, by rw [Hrs.out]; exact hT5.below hb6, b5.trans (hb6.mono b5.size)⟩
        case measure => simp [intOf]; omega
      · obtain rfl : k = n := by omega
        go_wp2
        go_ret
        exact ⟨rfl, hbl⟩
end Go.Proofs.YtaanmnplfppdeaaGreat
