/- Layer 1: the walk of FsPrefix. -/
import Derived.Test.YtaanmnplfppdeaaGreatLsB
import Derived.Test.YtaanmnplfppdeaaGreatLsE
import Derived.BigQuiet
namespace Go.Proofs.YtaanmnplfppdeaaGreat
open Go.RowKit Go.Lec Go.Fsy Go.Op Go.Maps
theorem rdUp {w w' : World} {A : Option Addr} {n : Nat} {xs : List Value} (h : Rd w w.heap.size A n xs) (hb : Below w.heap.size w w') : Rd w' w'.heap.size A n xs := (RdP.below (I := fun _ => True) ⟨h, fun _ _ _ => trivial⟩ hb).rd
set_option maxRecDepth 100000 in
set_option maxHeartbeats 4000000 in
theorem w_FsPrefix (w : World) {n c : Nat} {p q : Pl} {AK AF AU BK BF BU A : Option Addr} {cK cF cU dK dF dU : Nat} {L : List OpR} (hP : PlOk (fun b => b < w.heap.size) w p AK cK AF cF AU cU) (hpo : p.ok) (h : OpsR w.heap.size w A n L) (hn : n ≤ 1048576)
    (hQ : PlOk (fun b => b < w.heap.size) w q BK dK BF dF BU dU) (hqo : q.ok) :
    Calls Tryz.prog 3 #[plV p AK cK AF cF AU cU, .slice A n c, plV q BK dK BF dF BU dU] w fun e w' => e = .returned (.bool true) ∧ Below w.heap.size w w' := by
  have hb0 := ((Below.refl w.heap.size w).alloc (Nat.le_refl _) (.cells (plCs p AK cK AF cF AU cU) 24)).alloc (by simp) (.cells (plCs q BK dK BF dF BU dU) 24)
  have N2 := Bk.new_ (w.alloc (.cells (plCs p AK cK AF cF AU cU) 24)) 24 (plCs q BK dK BF dF BU dU)
  have N1 := (Bk.new_ w 24 (plCs p AK cK AF cF AU cU)).alloc (.cells (plCs q BK dK BF dF BU dU) 24)
  simp only [World.size_alloc] at N2
  obtain ⟨w0, hw0⟩ : ∃ x, x = ((w.alloc (.cells (plCs p AK cK AF cF AU cU) 24)).alloc (.cells (plCs q BK dK BF dF BU dU) 24)) := ⟨_, rfl⟩
  rw [← hw0] at hb0 N1 N2
  have hz0 := hb0.size
  have hI : ∀ b, b < w.heap.size → b < w0.heap.size := fun b hb => by omega
  have mk : ∀ {p : Pl} {AK AF AU : Option Addr} {cK cF cU : Nat}, PlOk (fun b => b < w.heap.size) w p AK cK AF cF AU cU → ∀ W : World, Below w0.heap.size w0 W → PlOk (fun b => b < w0.heap.size) W p AK cK AF cF AU cU := fun hP W hb => by
    have h1 := hP.kbP (kbP_of_below (hb0.trans (hb.mono hz0))) (fun b h1 h2 => by omega)
    exact ⟨h1.rk.more hI, h1.rf.more hI, h1.ru.more hI, h1.nk, h1.nf, h1.nu⟩
  have HPl := Lib.hid (mk hP)
  have HQl := Lib.hid (mk hQ)
  have H0 : OpsR w0.heap.size w0 A n L := by
    have h1 := h.below hb0
    exact ⟨h1.len, h1.rd.more hI, fun x hx => ⟨(h1.ok x hx).d.more hI, (h1.ok x hx).dc, ⟨(h1.ok x hx).p.rk.more hI, (h1.ok x hx).p.rf.more hI, (h1.ok x hx).p.ru.more hI, (h1.ok x hx).p.nk, (h1.ok x hx).p.nf, (h1.ok x hx).p.nu⟩, (h1.ok x hx).pk, (h1.ok x hx).n1, (h1.ok x hx).n2, (h1.ok x hx).nm, (h1.ok x hx).tl, (h1.ok x hx).dl⟩⟩
  have HFi := Lib.hid (fun (W : World) (hb : Below w0.heap.size w0 W) => c_fits W (c := c) (H0.below hb) hn)
  obtain ⟨ls, hls⟩ : ∃ ls, ls = L.map OpR.o := ⟨_, rfl⟩
  have hll : ls.length = n := by rw [hls, List.length_map, h.len]
  have H := Lib.hid H0
  have hps : ∀ o ∈ ls, o.p.ok := by
    intro o ho
    rw [hls] at ho
    obtain ⟨x, hx, rfl⟩ := List.mem_map.1 ho
    exact (h.ok x hx).pk
  have Hi := Lib.hid ((Inv.new p).runs (l := ls))
  have Hpl := Lib.hid (runs_pl (s := new p) (l := ls) hpo hps)
  have Hpd := Lib.hid (fun hl => runs_preD (s := new p) (l := ls) (new_preD p) hl)
  obtain ⟨s, hs⟩ : ∃ s, s = runs (new p) ls := ⟨_, rfl⟩
  have Hb0 := Lib.hid hb0
  have Hw0 := Lib.hid hw0
  have Hls := Lib.hid hls
  have Hll := Lib.hid hll
  rw [← hs] at Hi Hpl Hpd
  rw [← hls] at HFi
  cases hfw : few ls with
  | false =>
    rw [hfw] at HFi
    unfold plV plCs at *
    clear hfw hP h hll hps hb0 hQ mk H0 hw0 hls
    go_enter Tryz.func3, Tryz.ntmps3
    go_wp2_with (first
      | (rw [← Hw0.out]; go_at_call 9; refine (c_awake _).mono ?_; rintro e wA ⟨rfl, hbA⟩)
      | (go_at_call 10; refine (HFi.out wA hbA).mono ?_; rintro e wF ⟨rfl, hbF⟩))
    go_ret
    exact ⟨rfl, (Hb0.out.trans (hbA.mono hz0)).trans (hbF.mono (Nat.le_trans hz0 hbA.size))⟩
  | true =>
    have hn3 : n ≤ 3000 := by have := few_len hfw; rw [hll] at this; exact this
    rw [hfw] at HFi
    rw [hll] at Hi
    have HM := Lib.hid (fun (W : World) (hb : Below w0.heap.size w0 W) => c_made W (c := c) (HPl.out W hb) hpo (H.out.below hb) hn3 hb.size)
    rw [← hls, ← hs] at HM
    unfold MadeP plV plCs ptrV at *
    clear hfw hn hP h hll hps hb0 hs hQ mk H0 hw0 hls
    go_enter Tryz.func3, Tryz.ntmps3
    go_wp2_with (first
      | (rw [← Hw0.out]; go_at_call 9; refine (c_awake _).mono ?_; rintro e wA ⟨rfl, bA⟩)
      | (go_at_call 10; refine (HFi.out wA bA).mono ?_; rintro e wF ⟨rfl, hbF⟩; have bF := bA.trans (hbF.mono bA.size)))
    go_loopw [25] (fun i wr => ∃ k : Nat, k ≤ n ∧ i = .int .i64 (k : Int) ∧ (ls.take k).all plainOp = true ∧ Below w0.heap.size w0 wr) (fun i _ => n - (intOf i).toNat)
    case atStart => exact ⟨0, Nat.zero_le _, rfl, rfl, bF⟩
    case round =>
      clear bF hbF bA
      obtain ⟨k, hk, rfl, hall, hbl⟩ := hrel
      by_cases hlt : k < n
      · have hkL : k < L.length := by rw [H.out.len]; exact hlt
        have hkl : k < ls.length := by rw [Hll.out]; exact hlt
        have HO := H.out.below hbl
        obtain ⟨b, o, rfl, hbB, hcell⟩ := rdK_at OpR.cs_len HO.rd.rd hkL HO.len (by decide)
        have hx : ls[k] = L[k].o := by have := Hls.out; subst this; simp
        have hst : ∀ v, plainOp L[k].o = v → (ls.take (k + 1)).all plainOp = v := fun v hv => by
          rw [List.take_succ_eq_append_getElem hkl, List.all_append, hall, hx, Bool.true_and, List.all_cons, hv]
          simp
        have hcl := hcell wr (Below.refl _ _)
        obtain ⟨x, hxx⟩ : ∃ x, x = L[k] := ⟨_, rfl⟩
        rw [← hxx] at hcl hst
        have g : ∀ j u, x.cs[j]? = some u → wr.cell? ⟨b, o + k * 10 + j, none⟩ = some u := hcl
        have g0 : wr.cell? ⟨b, o + k * 10, none⟩ = some (.int .i64 x.o.kind) := g 0 _ rfl
        have g1 : wr.cell? ⟨b, o + k * 10 + 1, none⟩ = some (svl x.o.name) := g 1 _ rfl
        have g2 : wr.cell? ⟨b, o + k * 10 + 2, none⟩ = some (svl x.o.dst) := g 2 _ rfl
        have g3 : wr.cell? ⟨b, o + k * 10 + 3, none⟩ = some (.slice x.A x.o.data.length x.c) := g 3 _ rfl
        have g4 : wr.cell? ⟨b, o + k * 10 + 4, none⟩ = some (.int .i64 x.o.n) := g 4 _ rfl
        have g5 : wr.cell? ⟨b, o + k * 10 + 5, none⟩ = some (.int .i64 x.o.p.crash) := g 5 _ rfl
        have g6 : wr.cell? ⟨b, o + k * 10 + 6, none⟩ = some (.slice x.AK x.o.p.keep.length x.cK) := g 6 _ rfl
        have g7 : wr.cell? ⟨b, o + k * 10 + 7, none⟩ = some (.slice x.AF x.o.p.fail.length x.cF) := g 7 _ rfl
        have g8 : wr.cell? ⟨b, o + k * 10 + 8, none⟩ = some (.slice x.AU x.o.p.full.length x.cU) := g 8 _ rfl
        have g9 : wr.cell? ⟨b, o + k * 10 + 9, none⟩ = some (.int .i64 x.o.p.room) := g 9 _ rfl
        clear g
        have hbx := (Below.refl wr.heap.size wr).alloc (Nat.le_refl _) (.cells x.cs.toArray 30)
        have hB1 := (Bk.new_ wr 30 x.cs.toArray).cell
        have Hbx := Lib.hid (fun o : Obj => hbl.trans (((Below.refl wr.heap.size wr).alloc (Nat.le_refl _) o).mono hbl.size))
        have Hst := Lib.hid hst
        unfold OpR.cs at hB1
        obtain ⟨kd, hkd⟩ : ∃ y, y = x.o.kind := ⟨_, rfl⟩
        have hpo : plainOp x.o = (kd == 1 || (kd == 2 || (kd == 4 || kd == 7))) := by rw [hkd]; rfl
        have Hpo := Lib.hid hpo
        rw [← hkd] at g0 hB1
        clear hcell hx hcl hxx HO hbx hst hpo hkd
        unfold svl at *
        by_cases k1 : kd = 1
        · subst k1
          go_wp2
          go_roundw
          case rel => exact ⟨k + 1, by omega, by go_num, Hst.out true (by rw [Hpo.out]; decide), Hbx.out _⟩
          case measure => simp [intOf]; omega
        by_cases k2 : kd = 2
        · subst k2
          go_wp2
          go_roundw
          case rel => exact ⟨k + 1, by omega, by go_num, Hst.out true (by rw [Hpo.out]; decide), Hbx.out _⟩
          case measure => simp [intOf]; omega
        by_cases k4 : kd = 4
        · subst k4
          go_wp2
          go_roundw
          case rel => exact ⟨k + 1, by omega, by go_num, Hst.out true (by rw [Hpo.out]; decide), Hbx.out _⟩
          case measure => simp [intOf]; omega
        by_cases k7 : kd = 7
        · subst k7
          go_wp2
          go_roundw
          case rel => exact ⟨k + 1, by omega, by go_num, Hst.out true (by rw [Hpo.out]; decide), Hbx.out _⟩
          case measure => simp [intOf]; omega
        have b1 : (kd != 1) = true := by rw [bne_iff_ne]; exact k1
        have b2 : (kd != 2) = true := by rw [bne_iff_ne]; exact k2
        have b4 : (kd != 4) = true := by rw [bne_iff_ne]; exact k4
        have b7 : (kd != 7) = true := by rw [bne_iff_ne]; exact k7
        go_wp2
        go_ret
        exact ⟨rfl, Hb0.out.trans ((Hbx.out _).mono hz0)⟩
      · obtain rfl : k = n := by omega
        have hpd := Hpd.out (by rwa [← Hll.out, List.take_length] at hall)
        have B1 := (N1.below hbl N1.lt).cell
        have HM2 := Lib.hid (HM.out wr hbl)
        clear hall
        cases hdd : s.died with
        | true =>
          have Hdd := Lib.hid hdd
          clear hdd hpd
          go_wp2_with (first
            | (go_at_call 11; refine HM2.out.mono ?_; rintro e wM ⟨fb, rb, rfl, hT, hbM⟩
               have bM := hbl.trans hbM
               have HDd := Lib.hid (o_Dead hT.one)
               rw [Hdd.out] at HDd
               unfold ptrV at HDd)
            | (go_at_call 12; refine HDd.out.mono ?_; rintro e w1 ⟨rfl, hww⟩; obtain rfl := hww.symm))
          go_ret
          exact ⟨rfl, Hb0.out.trans (bM.mono hz0)⟩
        | false =>
          have hlaw := prefix_law Hi.out (hpd hdd) hdd q
          have i2 := Hi.out.start q
          obtain ⟨s2, hs2⟩ : ∃ x, x = Fsy.start s q := ⟨_, rfl⟩
          rw [← hs2] at hlaw i2
          obtain ⟨L1, hL1⟩ : ∃ x, x = files s := ⟨_, rfl⟩
          obtain ⟨L2, hL2⟩ : ∃ x, x = files s2 := ⟨_, rfl⟩
          rw [← hL1, ← hL2] at hlaw
          have hlb1 : L1.length ≤ 1048576 := by rw [hL1]; have := files_len Hi.out; omega
          have hlb2 : L2.length ≤ 1048576 := by rw [hL2]; have := files_len i2; omega
          obtain ⟨n1, hn1⟩ : ∃ x, x = L1.length := ⟨_, rfl⟩
          obtain ⟨n2, hn2⟩ : ∃ x, x = L2.length := ⟨_, rfl⟩
          rw [← hn1] at hlb1
          rw [← hn2] at hlb2
          have Hlaw := Lib.hid hlaw
          have Hi2 := Lib.hid i2
          have HL1 := Lib.hid hL1
          have HL2 := Lib.hid hL2
          have Hn1 := Lib.hid hn1
          have Hn2 := Lib.hid hn2
          have Hs2 := Lib.hid hs2
          have Hdd := Lib.hid hdd
          clear hdd hpd hlaw i2 hL1 hL2 hn1 hn2 hs2
          go_wp2_with (first
            | (go_at_call 11; refine HM2.out.mono ?_; rintro e wM ⟨fb, rb, rfl, hT, hbM⟩
               have bM := hbl.trans hbM
               have hO1 := hT.one
               have HDd := Lib.hid (o_Dead hO1)
               rw [Hdd.out] at HDd
               have HFl := Lib.hid (o_Files hO1 Hi.out (by omega))
               rw [← HL1.out] at HFl
               unfold ptrV at HDd HFl)
            | (go_at_call 12; refine HDd.out.mono ?_; rintro e w1 ⟨rfl, hww⟩; obtain rfl := hww.symm)
            | (go_at_call 13; (with_reducible refine HFl.out.mono ?_); intro e w2 hfl
               obtain ⟨A2, c2, F2, rfl, hF2, hr2, hb2⟩ := FilesP.out hfl
               rw [← Hn1.out] at hr2 ⊢
               clear HFl
               have b2 := bM.trans (hb2.mono bM.size)
               have hO2 := (hO1.fresh (K' := fun b => wM.heap.size ≤ b ∧ b < w2.heap.size) (fun b hb => .inr hb.1)).below hb2
               have B2 := (N2.below b2 N2.lt).cell
               have HS := Lib.hid (o_Start hO2 b2.size (fun b hb => hb.2) Hi.out (by omega) Hpl.out (HQl.out w2 b2) hqo)
               rw [← Hs2.out] at HS
               unfold OneP plV ptrV at HS)
            | (go_at_call 14; (with_reducible refine HS.out.mono ?_); rintro e w3 ⟨rfl, hO3, hb3, hk3⟩
               clear HS
               have b3 := b2.trans hb3
               have hr3 := hr2.kbP hk3
               have HFl' := Lib.hid (o_Files hO3 Hi2.out (by omega))
               rw [← HL2.out] at HFl'
               unfold ptrV at HFl')
            | (go_at_call 13; (with_reducible refine HFl'.out.mono ?_); intro e w4 hfl
               obtain ⟨A4, c4, F4, rfl, hF4, hr4, hb4⟩ := FilesP.out hfl
               rw [← Hn2.out] at hr4 ⊢
               have b4 := b3.trans (hb4.mono b3.size)
               have hr34 := hr3.below hb4))
          have HG1 := Lib.hid hr34.flr
          have HC1 := Lib.hid hr34.cap
          have HG2 := Lib.hid hr4.flr
          have HF1 := Lib.hid hF2
          have HF2 := Lib.hid hF4
          have B4 := Lib.hid b4
          clear hT hO1 HDd HFl' hfl hb2 hb3 hb4 hk3 hO2 hO3 hr2 hr3 hr34 hr4 B1 B2 hF2 hF4 hbM bM b2 b3 N1 N2
          go_loopw [68] (fun i wr => ∃ k : Nat, k ≤ n2 ∧ i = .int .i64 (k : Int) ∧ Below w4.heap.size w4 wr) (fun i _ => n2 - (intOf i).toNat)
          case atStart => exact ⟨0, Nat.zero_le _, rfl, Below.refl _ _⟩
          case round =>
            obtain ⟨k, hk, rfl, hbo⟩ := hrel
            by_cases hlt : k < n2
            · have hG2 := HG2.out.below hbo
              have hkF : k < F4.length := by rw [hG2.len]; exact hlt
              obtain ⟨b, o, rfl, hbB, hcell⟩ := rdK_at FR.cs_len hG2.rd hkF hG2.len (by decide)
              have hkL : k < L2.length := by rw [← Hn2.out]; exact hlt
              have hxe : L2[k] = F4[k].fl := by have := HF2.out; subst this; simp
              obtain ⟨y, hy, hy1, hy2⟩ := Hlaw.out L2[k] (List.getElem_mem hkL)
              have hany : L1.any (begins F4[k].fl) = true := List.any_eq_true.2 ⟨y, hy, by rw [← hxe]; exact begins_of hy1 hy2⟩
              have g0 : wr.cell? ⟨b, o + k * 2, none⟩ = some (svl F4[k].name) := hcell wr (Below.refl _ _) 0 _ rfl
              have g1 : wr.cell? ⟨b, o + k * 2 + 1, none⟩ = some (.slice F4[k].A F4[k].data.length F4[k].c) := hcell wr (Below.refl _ _) 1 _ rfl
              have hxr := hG2.ok _ (List.getElem_mem hkF)
              obtain ⟨x, hx⟩ : ∃ x, x = F4[k] := ⟨_, rfl⟩
              rw [← hx] at g0 g1 hany hxr
              obtain ⟨nx, dx, Ax, cx⟩ := x
              have hbx := (Below.refl wr.heap.size wr).alloc (Nat.le_refl _) (.cells #[svl nx, .slice Ax dx.length cx] 40)
              have hB1 := Bk.new_ wr 40 #[svl nx, .slice Ax dx.length cx]
              have hB1c := hB1.cell
              obtain ⟨lx, hlx⟩ : ∃ l, l = dx.length := ⟨_, rfl⟩
              simp only at g0 g1 hxr hany
              rw [← hlx] at g1 hbx hB1 hB1c hxr
              have Hlx := Lib.hid hlx
              have Hany := Lib.hid hany
              clear hcell hxe hy hy1 hy2 hx hlx hany hG2
              unfold svl FR.fl at *
              go_wp2
              obtain ⟨wx, hwx⟩ : ∃ W, W = wr.alloc (.cells #[.string ⟨nx.toArray⟩, .slice Ax lx cx] 40) := ⟨_, rfl⟩
              rw [← hwx] at hbx hB1 hB1c ⊢
              have hbwx : Below w4.heap.size w4 wx := hbo.trans (hbx.mono hbo.size)
              have hxr2 := rdUp hxr hbx
              obtain ⟨xb, hxb⟩ : ∃ z, z = wr.heap.size := ⟨_, rfl⟩
              rw [← hxb] at hB1 hB1c ⊢
              clear hwx hxb hxr hbx hB1c
              go_loopw [15, 74] (fun v i wq => ∃ j : Nat, j ≤ n1 ∧ i = .int .i64 (j : Int) ∧ v = .bool ((L1.take j).any (begins (nx, dx))) ∧ Below wx.heap.size wx wq) (fun _ i _ => n1 - (intOf i).toNat)
              case atStart => exact ⟨0, Nat.zero_le _, rfl, rfl, Below.refl _ _⟩
              case round =>
                obtain ⟨j, hj, rfl, rfl, hbq⟩ := hrel
                by_cases hlj : j < n1
                · have hbwq : Below w4.heap.size w4 wr := hbwx.trans (hbq.mono hbwx.size)
                  have hG1 := HG1.out.below hbwq
                  have hjF : j < F2.length := by rw [hG1.len]; exact hlj
                  obtain ⟨b2, o2, rfl, hbB2, hcell2⟩ := rdK_at FR.cs_len hG1.rd hjF hG1.len (by decide)
                  have hjL : j < L1.length := by rw [← Hn1.out]; exact hlj
                  have hye : L1[j] = F2[j].fl := by have := HF1.out; subst this; simp [FR.fl]
                  have hst : (L1.take (j + 1)).any (begins (nx, dx)) = ((L1.take j).any (begins (nx, dx)) || begins (nx, dx) F2[j].fl) := by
                    rw [List.take_succ_eq_append_getElem hjL, List.any_append, hye]; simp
                  have y0 : wr.cell? ⟨b2, o2 + j * 2, none⟩ = some (svl F2[j].name) := hcell2 wr (Below.refl _ _) 0 _ rfl
                  have y1 : wr.cell? ⟨b2, o2 + j * 2 + 1, none⟩ = some (.slice F2[j].A F2[j].data.length F2[j].c) := hcell2 wr (Below.refl _ _) 1 _ rfl
                  have hyr := hG1.ok _ (List.getElem_mem hjF)
                  have hyc := HC1.out _ (List.getElem_mem hjF)
                  have hx1 := (hB1.below hbq hB1.lt)
                  have hxr3 := rdUp hxr2 hbq
                  obtain ⟨y, hy⟩ : ∃ x, x = F2[j] := ⟨_, rfl⟩
                  rw [← hy] at y0 y1 hst hyr hyc
                  obtain ⟨ny, dy, Ay, cy⟩ := y
                  obtain ⟨ly, hly⟩ : ∃ l, l = dy.length := ⟨_, rfl⟩
                  simp only at y0 y1 hst hyr hyc
                  rw [← hly] at y1 hyr hyc
                  have Hst := Lib.hid hst
                  have Hly := Lib.hid hly
                  have hbe : begins (nx, dx) (ny, dy) = (nx == ny && (decide (lx ≤ ly) && (dy.take lx == dx))) := by rw [Hlx.out, hly]; rfl
                  have Hbe := Lib.hid hbe
                  obtain ⟨fd, hfd⟩ : ∃ v, v = (L1.take j).any (begins (nx, dx)) := ⟨_, rfl⟩
                  rw [← hfd] at Hst ⊢
                  have hbqx := (Below.refl wr.heap.size wr).alloc (Nat.le_refl _) (.cells #[svl ny, .slice Ay ly cy] 40)
                  have hB2 := Bk.new_ wr 40 #[svl ny, .slice Ay ly cy]
                  have hx2 := (hx1.below hbqx hx1.lt)
                  have Hbq := Lib.hid (hbq.trans (hbqx.mono hbq.size))
                  have e1 := hB2.cell
                  have e2 := hx2.cell
                  have e3 := fun m : Nat => (hB2.drewN m).cell
                  have e4 := fun m : Nat => (hx2.drewN m).cell
                  have t2 := fun m : Nat => run_str (P := Tryz.prog) Tryz.underlying28 Tryz.underlying5 Tryz.underlying9 (c := cx) ((rdUp hxr3 hbqx).drewN m)
                  have hyr2 := rdUp hyr hbqx
                  clear hcell2 hye hst hy hly hbe hfd hx1 hxr3 hyr hbqx hG1 hbq
                  unfold svl FR.fl at *
                  have i2 : (j : Int) < (n1 : Int) := by omega
                  cases fd with
                  | true =>
                    go_wp2
                    go_quiet (fail)
                    go_wp2
                    go_roundw
                    case rel => exact ⟨j + 1, by omega, by go_num, by rw [Hst.out, Hbe.out]; simp [Bool.true_or], below_drewN Hbq.out _⟩
                    case measure => simp [intOf]; omega
                  | false =>
                    by_cases hnm : nx = ny
                    · subst hnm
                      by_cases hle : lx ≤ ly
                      · have hle' : (lx : Int) ≤ (ly : Int) := by omega
                        have hcut := fun W : World => run_cutH slb Ay ly cy lx (Nat.le_trans hle hyc) .i64 (lx : Int) rfl W
                        have hi1 : (lx : Int) ≤ (cy : Int) := by omega
                        have t1 := fun m : Nat => run_str (P := Tryz.prog) Tryz.underlying28 Tryz.underlying5 Tryz.underlying9 (c := cy) (l := dy.take lx) ((show Rd _ _ Ay lx (bcs (dy.take lx)) from by have h := hyr2.take_ hle; rw [← bcs_take] at h; exact h).drewN m)
                        have hdl := decide_eq_true hle
                        by_cases hpe : dy.take lx = dx
                        · have hpb : (dy.take lx == dx) = true := by rw [beq_iff_eq]; exact hpe
                          rw [hpe] at t1
                          have Hpb := Lib.hid hpb
                          clear hpb hpe
                          go_wp2
                          go_quiet (fail)
                          go_wp2
                          go_roundw
                          case rel => exact ⟨j + 1, by omega, by go_num, by rw [Hst.out, Hbe.out]; simp [hdl, Hpb.out], below_drewN Hbq.out _⟩
                          case measure => simp [intOf]; omega
                        · have hpb : (dy.take lx == dx) = false := by rw [beq_eq_false_iff_ne]; exact hpe
                          clear hpe
                          go_wp2
                          go_quiet (fail)
                          go_wp2
                          go_roundw
                          case rel => exact ⟨j + 1, by omega, by go_num, by rw [Hst.out, Hbe.out]; simp [hpb], below_drewN Hbq.out _⟩
                          case measure => simp [intOf]; omega
                      · have hle' : ¬ (lx : Int) ≤ (ly : Int) := by omega
                        go_wp2
                        go_quiet (fail)
                        go_wp2
                        go_roundw
                        case rel => exact ⟨j + 1, by omega, by go_num, by rw [Hst.out, Hbe.out]; simp [hle], below_drewN Hbq.out _⟩
                        case measure => simp [intOf]; omega
                    · have hnb : (nx == ny) = false := by rw [beq_eq_false_iff_ne]; exact hnm
                      go_wp2
                      go_quiet (fail)
                      go_wp2
                      go_roundw
                      case rel => exact ⟨j + 1, by omega, by go_num, by rw [Hst.out, Hbe.out]; simp [hnb], below_drewN Hbq.out _⟩
                      case measure => simp [intOf]; omega
                · obtain rfl : j = n1 := by omega
                  have hf : (L1.take j).any (begins (nx, dx)) = true := by rw [Hn1.out, List.take_length]; exact Hany.out
                  rw [hf]
                  go_wp2
                  go_roundw
                  case rel => exact ⟨k + 1, by omega, by go_num, hbwx.trans (hbq.mono hbwx.size)⟩
                  case measure => simp [intOf]; omega
            · obtain rfl : k = n2 := by omega
              go_wp2
              go_ret
              exact ⟨rfl, Hb0.out.trans ((B4.out.trans (hbo.mono B4.out.size)).mono hz0)⟩
end Go.Proofs.YtaanmnplfppdeaaGreat
