/- Layer 1: the walk of FsTwins. -/
import Derived.Test.YtaanmnplfppdeaaGreatLfD
namespace Go.Proofs.YtaanmnplfppdeaaGreat
open Go.RowKit Go.Lec Go.Fsy Go.Op Go.Maps
theorem OpOk.more {B B' : Nat} {w : World} {x : OpR} (h : OpOk B w x) (hB : B ≤ B') : OpOk B' w x := by
  have hI : ∀ b, b < B → b < B' := fun b hb => Nat.lt_of_lt_of_le hb hB
  exact ⟨h.d.more hI, h.dc, ⟨h.p.rk.more hI, h.p.rf.more hI, h.p.ru.more hI, h.p.nk, h.p.nf, h.p.nu⟩, h.pk, h.n1, h.n2, h.nm, h.tl, h.dl⟩
theorem OpsR.more {B B' n : Nat} {w : World} {A : Option Addr} {L : List OpR} (h : OpsR B w A n L) (hB : B ≤ B') : OpsR B' w A n L :=
  ⟨h.len, h.rd.more (fun b hb => Nat.lt_of_lt_of_le hb hB), fun x hx => (h.ok x hx).more hB⟩
set_option maxRecDepth 100000 in
set_option maxHeartbeats 4000000 in
theorem w_FsTwins (w : World) {n c n2 c2 : Nat} {p : Pl} {AK AF AU A A2 : Option Addr} {cK cF cU : Nat} {L M : List OpR} (hP : PlOk (fun b => b < w.heap.size) w p AK cK AF cF AU cU) (hpo : p.ok) (h : OpsR w.heap.size w A n L) (hn : n ≤ 1048576) (h2 : OpsR w.heap.size w A2 n2 M) (hn2 : n2 ≤ 1048576) :
    Calls Tryz.prog 8 #[plV p AK cK AF cF AU cU, .slice A n c, .slice A2 n2 c2] w fun e w' => e = .returned (.bool true) ∧ Below w.heap.size w w' := by
  have hb0 := (Below.refl w.heap.size w).alloc (Nat.le_refl _) (.cells #[.int .i64 p.crash, .slice AK p.keep.length cK, .slice AF p.fail.length cF, .slice AU p.full.length cU, .int .i64 p.room] 24)
  have hB0 := Bk.new_ w 24 #[.int .i64 p.crash, .slice AK p.keep.length cK, .slice AF p.fail.length cF, .slice AU p.full.length cU, .int .i64 p.room]
  have HPl := Lib.hid (fun (W : World) (hb : Below w.heap.size w W) => hP.kbP (kbP_of_below hb) (fun b h1 h2 => by omega))
  have HFi := Lib.hid (fun (W : World) (hb : Below w.heap.size w W) => c_fits W (c := c) (h.below hb) hn)
  have HFj := Lib.hid (fun (W : World) (hb : Below w.heap.size w W) => c_fits W (c := c2) (h2.below hb) hn2)
  have hll : (L.map OpR.o).length = n := by rw [List.length_map, h.len]
  have H := Lib.hid h
  have H2 := Lib.hid h2
  have hps : ∀ o ∈ L.map OpR.o, o.p.ok := by
    intro o ho
    obtain ⟨x, hx, rfl⟩ := List.mem_map.1 ho
    exact (h.ok x hx).pk
  have hps2 : ∀ o ∈ M.map OpR.o, o.p.ok := by
    intro o ho
    obtain ⟨x, hx, rfl⟩ := List.mem_map.1 ho
    exact (h2.ok x hx).pk
  have Hi := Lib.hid ((Inv.new p).runs (l := L.map OpR.o))
  have Hpl := Lib.hid (runs_pl (s := new p) (l := L.map OpR.o) hpo hps)
  obtain ⟨s, hs⟩ : ∃ s, s = runs (new p) (L.map OpR.o) := ⟨_, rfl⟩
  have Hb0 := Lib.hid hb0
  unfold plV at *
  cases hfw : few (L.map OpR.o) with
  | false =>
    rw [hfw] at HFi
    clear hfw hP h hll hps hb0 h2
    go_enter Tryz.func8, Tryz.ntmps8
    go_wp2_with (first
      | (go_at_call 9; refine (c_awake _).mono ?_; rintro e wA ⟨rfl, hbA⟩; have bA := Hb0.out.trans (hbA.mono Hb0.out.size))
      | (go_at_call 10; (with_reducible refine (HFi.out wA bA).mono ?_); rintro e wF ⟨rfl, hbF⟩))
    go_ret
    exact ⟨rfl, bA.trans (hbF.mono bA.size)⟩
  | true =>
    have hn3 : n ≤ 3000 := by have := few_len hfw; rw [hll] at this; exact this
    rw [hfw] at HFi
    rw [hll] at Hi
    rw [← hs] at Hi Hpl
    cases hfw2 : few (M.map OpR.o) with
    | false =>
      rw [hfw2] at HFj
      clear hfw hfw2 hP h hll hps hb0 h2 hs
      go_enter Tryz.func8, Tryz.ntmps8
      go_wp2_with (first
        | (go_at_call 9; refine (c_awake _).mono ?_; rintro e wA ⟨rfl, hbA⟩; have bA := Hb0.out.trans (hbA.mono Hb0.out.size))
        | (go_at_call 10; (with_reducible refine (HFi.out wA bA).mono ?_); rintro e wF ⟨rfl, hbF⟩; have bF := bA.trans (hbF.mono bA.size))
        | (go_at_call 10; (with_reducible refine (HFj.out wF bF).mono ?_); rintro e wG ⟨rfl, hbG⟩))
      go_ret
      exact ⟨rfl, bF.trans (hbG.mono bF.size)⟩
    | true =>
      have hm3 : n2 ≤ 3000 := by have := few_len hfw2; rw [List.length_map, h2.len] at this; exact this
      rw [hfw2] at HFj
      have HM := Lib.hid (fun (W : World) (hb : Below w.heap.size w W) => c_made W (c := c) (HPl.out W hb) hpo (H.out.below hb) hn3 hb.size)
      rw [← hs] at HM
      obtain ⟨ls, hls⟩ : ∃ ls, ls = M.map OpR.o := ⟨_, rfl⟩
      rw [← hls] at hps2
      have hml : ls.length = n2 := by rw [hls, List.length_map, h2.len]
      have Hls := Lib.hid hls
      have Hll := Lib.hid hml
      have Hi2 := Lib.hid (fun k => Hi.out.runs (l := ls.take k))
      have Hpl2 := Lib.hid (fun k => runs_pl (s := s) (l := ls.take k) Hpl.out (fun o ho => hps2 o (List.mem_of_mem_take ho)))
      unfold MadeP plV ptrV at *
      clear hfw hfw2 hn hn2 hP h hll hps hps2 hb0 hs h2 hls hml
      go_enter Tryz.func8, Tryz.ntmps8
      go_wp2_with (first
        | (go_at_call 9; refine (c_awake _).mono ?_; rintro e wA ⟨rfl, hbA⟩; have bA := Hb0.out.trans (hbA.mono Hb0.out.size); have BA := hB0.below hbA hB0.lt)
        | (go_at_call 10; (with_reducible refine (HFi.out wA bA).mono ?_); rintro e wF ⟨rfl, hbF⟩; have bF := bA.trans (hbF.mono bA.size); have BF := (BA.below hbF BA.lt))
        | (go_at_call 10; (with_reducible refine (HFj.out wF bF).mono ?_); rintro e wG ⟨rfl, hbG⟩; have bG := bF.trans (hbG.mono bF.size); have BG := (BF.below hbG BF.lt).cell)
        | (go_at_call 11; refine (HM.out wG bG).mono ?_; rintro e wM ⟨fb, rb, rfl, hT, hbM⟩
           have HTM := Lib.hid hT
           obtain ⟨X, I, Y, J, hf, hr, ha, _, hY⟩ := hT
           have bM := bG.trans hbM
           have HC1 := Lib.hid (c_Clone wM hf Hi.out (by omega) Hpl.out)
           unfold CloneP ptrV at HC1)
        | (go_at_call 28; refine HC1.out.mono ?_; rintro e w1 ⟨gb, Xg, Ig, rfl, hg, hxg, hig, hb1⟩
           have hr1 := hr.below hb1
           have hTg : Two w.heap.size w1 gb rb s := ⟨Xg, Ig, Y, J, hg, hr1, ⟨fun b h1 h2 => by have := hxg b h1; have := hr.lt b (.inl h2); omega, fun b h1 h2 => by have := hxg b h1; have := hr.lt b (.inr h2); omega, fun b h1 h2 => (hig b h1).elim (fun h => ha.iy b h h2) (fun h => by have := hr.lt b (.inl h2); omega)⟩, fun b hb => Nat.le_trans bM.size (hxg b hb), hY⟩
           have HS1 := Lib.hid (c_same w1 hTg Hi.out (by omega))
           unfold ptrV at HS1)
        | (go_at_call 27; refine HS1.out.mono ?_; rintro e w2 ⟨rfl, hb2⟩
           have HC2 := Lib.hid (c_rClone w2 (hr1.below hb2) Hi.out (by omega) Hpl.out)
           unfold RclP ptrV at HC2)
        | (go_at_call 29; refine HC2.out.mono ?_; rintro e w3 ⟨ob, Yo, Jo, rfl, ho, hyo, hjo, hb3⟩
           have hTo : Two wM.heap.size w3 gb ob s := ⟨Xg, Ig, Yo, Jo, (hg.below hb2).below hb3, ho, ⟨fun b h1 h2 => by have := hg.lt b (.inl h1); have := hyo b h2; have := hb2.size; omega, fun b h1 h2 => (hjo b h2).elim (fun h => by have := hxg b h1; have := hr.lt b (.inr h); omega) (fun h => by have := hg.lt b (.inl h1); have := hb2.size; omega), fun b h1 h2 => by have := hg.lt b (.inr h1); have := hyo b h2; have := hb2.size; omega⟩, hxg, fun b hb => by have := hyo b hb; have := hb1.size; have := hb2.size; omega⟩
           have hb3w : Below wM.heap.size wM w3 := (hb1.trans (hb2.mono hb1.size)).trans (hb3.mono (Nat.le_trans hb1.size hb2.size))))
      have HTM2 := Lib.hid (fun (W : World) (hb : Below wM.heap.size wM W) => HTM.out.below hb)
      clear hTg hg ho hyo hjo hxg hig hr1 hf hr ha hY HC1 HC2 HS1 HTM hb1 hb2 hb3 hB0 BA BF bA bF hbA hbF hbG hbM bG
      go_loopw [47] (fun i wr => ∃ k : Nat, k ≤ n2 ∧ i = .int .i64 (k : Int) ∧ Two wM.heap.size wr gb ob (runs s (ls.take k)) ∧ Below wM.heap.size wM wr) (fun i _ => n2 - (intOf i).toNat)
      case atStart => exact ⟨0, Nat.zero_le _, rfl, hTo, hb3w⟩
      case round =>
        clear hTo hb3w
        obtain ⟨k, hk, rfl, hTk, hbl⟩ := hrel
        by_cases hlt : k < n2
        · have hkL : k < M.length := by rw [H2.out.len]; exact hlt
          have hkl : k < ls.length := by rw [Hll.out]; exact hlt
          have HO := (((H2.out.below bM).more bM.size).below hbl)
          obtain ⟨b, o, rfl, hbB, hcell⟩ := rdK_at OpR.cs_len HO.rd.rd hkL HO.len (by decide)
          have hok := HO.ok _ (List.getElem_mem hkL)
          have hx : ls[k] = M[k].o := by have := Hls.out; subst this; simp
          have hrs : runs s (ls.take (k + 1)) = (doOp (runs s (ls.take k)) ls[k]).1 := by rw [List.take_succ_eq_append_getElem hkl, runs_snoc]
          rw [hx] at hrs
          have hcl := hcell wr (Below.refl _ _)
          obtain ⟨x, hxx⟩ : ∃ x, x = M[k] := ⟨_, rfl⟩
          rw [← hxx] at hcl hok hrs
          have g : ∀ j u, x.cs[j]? = some u → wr.cell? ⟨b, o + k * 10 + j, none⟩ = some u := hcl
          have g0 : wr.cell? ⟨b, o + k * 10, none⟩ = some (.int .i64 x.o.kind) := g 0 _ rfl
          have g1 : wr.cell? ⟨b, o + k * 10 + 1, none⟩ = some (svl x.o.name) := g 1 _ rfl
          have g2 : wr.cell? ⟨b, o + k * 10 + 2, none⟩ = some (svl x.o.dst) := g 2 _ rfl
          have g3 : wr.cell? ⟨b, o + k * 10 + 3, none⟩ = some (.slice x.A x.o.data.length x.c) := g 3 _ rfl
          have g4 : wr.cell? ⟨b, o + k * 10 + 4, none⟩ = some (.int .i64 x.o.n) := g 4 _ rfl
          have g5 : wr.cell? ⟨b, o + k * 10 + 5, none⟩ = some (.int .i64 x.o.p.crash) := g 5 _ rfl
          have g6 : wr.cell? ⟨b, o + k * 10 + 6, none⟩ = some (.slice x.AK x.o.p.keep.length x.cK) := g 6 _ rfl
          have g7 : wr.cell? ⟨b, o + k * 10 + 7, none⟩ = some (.slice x.AF x.o.p.fail.length x.cF) := g 7 _ rfl
          have g8 : wr.cell? ⟨b, o + k * 10 + 8, none⟩ = some (.slice x.AU x.o.p.full.length x.cU) := g 8 _ rfl
          have g9 : wr.cell? ⟨b, o + k * 10 + 9, none⟩ = some (.int .i64 x.o.p.room) := g 9 _ rfl
          clear g
          have hbx := (Below.refl wr.heap.size wr).alloc (Nat.le_refl _) (.cells x.cs.toArray 30)
          have hBx := hbl.size
          have hB1 := (Bk.new_ wr 30 x.cs.toArray).cell
          have hik := Hi2.out k
          have hl2 : (ls.take k).length ≤ 3000 := by rw [List.length_take]; omega
          have HDo := Lib.hid (c_do _ (hTk.below hbx) hik (by omega) (Hpl2.out k) (hok.below (hbx.mono hBx)) (Nat.le_trans hBx hbx.size))
          have Hrs := Lib.hid hrs
          have Hbx := Lib.hid (hbl.trans (hbx.mono hBx))
          unfold OpR.cs ptrV at HDo
          unfold OpR.cs at hB1
          clear hcell hx hrs hcl hok hxx HO hTk hik hbx hl2
          unfold svl at *
          go_wp2_with (first | (go_at_call 26; refine HDo.out.mono ?_; rintro e w5 ⟨rfl, hT5, hb5⟩))
          go_roundw
          case rel => exact ⟨k + 1, by omega, by go_num, by rw [Hrs.out]; exact hT5, Hbx.out.trans hb5⟩
          case measure => simp [intOf]; omega
        · obtain rfl : k = n2 := by omega
          have hfin : Two wM.heap.size wr gb ob (runs s ls) := by rwa [← Hll.out, List.take_length] at hTk
          have hif := Hi2.out k
          rw [← Hll.out, List.take_length, Hll.out] at hif
          have HA := Lib.hid (c_same wr hfin hif (by omega))
          have HB := Lib.hid (fun (W : World) (hb : Below wM.heap.size wM W) => c_same W (HTM2.out W hb) Hi.out (by omega))
          unfold ptrV at HA HB
          clear hTk hfin hif
          go_wp2_with (first
            | (go_at_call 27; (with_reducible refine HA.out.mono ?_); rintro e w8 ⟨rfl, hb8⟩; have b8 := hbl.trans (hb8.mono hbl.size))
            | (go_at_call 27; (with_reducible refine (HB.out w8 b8).mono ?_); rintro e w9 ⟨rfl, hb9⟩; have b9 := b8.trans (hb9.mono b8.size)))
          go_ret
          exact ⟨rfl, bM.trans (b9.mono bM.size)⟩
end Go.Proofs.YtaanmnplfppdeaaGreat
