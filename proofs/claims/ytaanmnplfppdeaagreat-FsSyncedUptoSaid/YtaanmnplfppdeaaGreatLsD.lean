/- Layer 1: what was synced is settled: plain laws; the walk of FsSynced. -/
import Derived.Test.YtaanmnplfppdeaaGreatLsB
namespace Go.Fsy
/-- Behind the first k names, synced. -/
structure Syn (N : Nat) (s : St) (k : Nat) (t : St) : Prop where
  died : t.died = false
  dir : t.dir = s.dir
  len : t.nodes.length = s.nodes.length
  chg : ∀ i (h : i < (namesOf s.dir).length), i < k → ∀ j, node s.dir (namesOf s.dir)[i] = some j → (ndAt t.nodes j).chg = []
  inv : Inv t (N + k)
  pl : t.pl = s.pl
theorem Syn.start {N : Nat} {s : St} (h : Inv s N) (hd : s.died = false) : Syn N s 0 s := ⟨hd, rfl, rfl, fun i h h0 => absurd h0 (by omega), h, rfl⟩
theorem Syn.step {N k : Nat} {s t : St} (h : Syn N s k t) (hs : dirOk s.nodes.length s.dir) (hk : k < (namesOf s.dir).length) (hc : (sync t (namesOf s.dir)[k]).2 = 0) : Syn N s (k + 1) (sync t (namesOf s.dir)[k]).1 := by
  have hm := mem_namesOf.1 (List.getElem_mem hk)
  obtain ⟨p, hp, he⟩ := List.mem_map.1 hm
  have hn : node s.dir (namesOf s.dir)[k] = some p.2 := by rw [← he]; exact node_of_mem hs.1 hp
  have hpl := (hs.2 p hp).2.2
  have hi := h.inv.sync (namesOf s.dir)[k]
  have hb0 : (Fsy.begin t).2 = 0 := by
    by_cases hb : (Fsy.begin t).2 = 0
    · exact hb
    · unfold sync at hc; rw [if_pos hb] at hc; exact hc
  obtain ⟨hbe, hdl⟩ := begin_live hb0
  have hsy : sync t (namesOf s.dir)[k] = (setNd (count t) p.2 ⟨(ndAt t.nodes p.2).data, []⟩, 0) := by
    unfold sync
    rw [if_neg (by rw [hb0]; decide), hbe]
    show (match node t.dir (namesOf s.dir)[k] with | none => _ | some i => _) = _
    rw [h.dir, hn]
    rfl
  rw [hsy] at hi ⊢
  refine ⟨h.died, h.dir, ?_, ?_, hi, h.pl⟩
  · show (t.nodes.set p.2 _).length = _
    rw [List.length_set]; exact h.len
  · intro i hil hik j hj
    show (ndAt (t.nodes.set p.2 ⟨(ndAt t.nodes p.2).data, []⟩) j).chg = []
    rw [ndAt_put]
    split
    · rfl
    · rename_i hne
      by_cases hik2 : i = k
      · subst hik2
        rw [hn] at hj
        cases hj
        exact absurd ⟨rfl, by rw [h.len]; exact hpl⟩ hne
      · exact h.chg i hil (by omega) j hj
theorem Syn.settled {N : Nat} {s t : St} (h : Syn N s (namesOf s.dir).length t) (hs : dirOk s.nodes.length s.dir) (hc : (syncDir t).2 = 0) : Settled (syncDir t).1 ∧ (syncDir t).1.died = false := by
  have hb0 : (Fsy.begin t).2 = 0 := by
    by_cases hb : (Fsy.begin t).2 = 0
    · exact hb
    · unfold syncDir at hc; rw [if_pos hb] at hc; exact hc
  obtain ⟨hbe, hdl⟩ := begin_live hb0
  have hsy : (syncDir t).1 = settle (count t) := by
    unfold syncDir at hc ⊢
    rw [if_neg (by rw [hb0]; decide)] at hc ⊢
    split
    · rename_i hf
      rw [if_pos hf] at hc
      exact absurd (show (11 : Int) = 0 from hc) (by decide)
    · rw [hbe]
  rw [hsy]
  refine ⟨⟨rfl, rfl, ?_⟩, hdl⟩
  intro p hp
  have hp' : p ∈ s.dir := by rw [← h.dir]; exact hp
  obtain ⟨i, hi, he⟩ := List.getElem_of_mem (mem_namesOf.2 (List.mem_map.2 ⟨p, hp', rfl⟩))
  exact h.chg i hi hi p.2 (by rw [he]; exact node_of_mem hs.1 hp')
theorem synced_law {t : St} {N : Nat} (h : Inv t N) (hs : Settled t) (hd : t.died = false) (q : Pl) : files (start t q) = files t ∧ safeFiles (start t q) = files t := by
  have f := start_files h hs hd q
  refine ⟨f, ?_⟩
  rw [files_settled (h.start q) (settled_start h (diedOk_alive hd) q) (start_died t q), f]
theorem syncDir_pl (t : St) : (syncDir t).1.pl = t.pl := by
  unfold syncDir
  split
  · exact begin_pl' t
  · split <;> exact begin_pl' t
end Go.Fsy
namespace Go.Proofs.YtaanmnplfppdeaaGreat
open Go.RowKit Go.Lec Go.Fsy Go.Op Go.Maps
set_option maxRecDepth 100000 in
set_option maxHeartbeats 4000000 in
theorem w_FsSynced (w : World) {n c : Nat} {p q : Pl} {AK AF AU BK BF BU A : Option Addr} {cK cF cU dK dF dU : Nat} {L : List OpR} (hP : PlOk (fun b => b < w.heap.size) w p AK cK AF cF AU cU) (hpo : p.ok) (h : OpsR w.heap.size w A n L) (hn : n ≤ 1048576)
    (hQ : PlOk (fun b => b < w.heap.size) w q BK dK BF dF BU dU) (hqo : q.ok) :
    Calls Tryz.prog 5 #[plV p AK cK AF cF AU cU, .slice A n c, plV q BK dK BF dF BU dU] w fun e w' => e = .returned (.bool true) ∧ Below w.heap.size w w' := by
  have hb0 := ((Below.refl w.heap.size w).alloc (Nat.le_refl _) (.cells (plCs p AK cK AF cF AU cU) 24)).alloc (by simp) (.cells (plCs q BK dK BF dF BU dU) 24)
  have N2 := Bk.new_ (w.alloc (.cells (plCs p AK cK AF cF AU cU) 24)) 24 (plCs q BK dK BF dF BU dU)
  have N1 := (Bk.new_ w 24 (plCs p AK cK AF cF AU cU)).alloc (.cells (plCs q BK dK BF dF BU dU) 24)
  simp only [World.size_alloc] at N2
  obtain ⟨w0, hw0⟩ : ∃ x, x = ((w.alloc (.cells (plCs p AK cK AF cF AU cU) 24)).alloc (.cells (plCs q BK dK BF dF BU dU) 24)) := ⟨_, rfl⟩
  rw [← hw0] at hb0 N1 N2
  have hz0 := hb0.size
  have hI : ∀ b, b < w.heap.size → b < w0.heap.size := fun b hb => by omega
  have mk : ∀ {p : Pl} {AK AF AU : Option Addr} {cK cF cU : Nat}, PlOk (fun b => b < w.heap.size) w p AK cK AF cF AU cU → ∀ W : World, Below w0.heap.size w0 W → PlOk (fun b => b < w0.heap.size) W p AK cK AF cF AU cU := fun hP W hb => by
    have h1 := hP.kbP (kbP_of_below (hb0.trans (hb.mono hz0))) (fun b h1 h2 => by omega)
    exact ⟨h1.rk.more hI, h1.rf.more hI, h1.ru.more hI, h1.nk, h1.nf, h1.nu⟩
  have HPl := Lib.hid (mk hP)
  have HQl := Lib.hid (mk hQ)
  have H0 : OpsR w0.heap.size w0 A n L := by
    have h1 := h.below hb0
    exact ⟨h1.len, h1.rd.more hI, fun x hx => ⟨(h1.ok x hx).d.more hI, (h1.ok x hx).dc, ⟨(h1.ok x hx).p.rk.more hI, (h1.ok x hx).p.rf.more hI, (h1.ok x hx).p.ru.more hI, (h1.ok x hx).p.nk, (h1.ok x hx).p.nf, (h1.ok x hx).p.nu⟩, (h1.ok x hx).pk, (h1.ok x hx).n1, (h1.ok x hx).n2, (h1.ok x hx).nm, (h1.ok x hx).tl, (h1.ok x hx).dl⟩⟩
  have HFi := Lib.hid (fun (W : World) (hb : Below w0.heap.size w0 W) => c_fits W (c := c) (H0.below hb) hn)
  have hll : (L.map OpR.o).length = n := by rw [List.length_map, h.len]
  have H := Lib.hid H0
  have hps : ∀ o ∈ L.map OpR.o, o.p.ok := by
    intro o ho
    obtain ⟨x, hx, rfl⟩ := List.mem_map.1 ho
    exact (h.ok x hx).pk
  have Hi := Lib.hid ((Inv.new p).runs (l := L.map OpR.o))
  have Hpl := Lib.hid (runs_pl (s := new p) (l := L.map OpR.o) hpo hps)
  obtain ⟨s, hs⟩ : ∃ s, s = runs (new p) (L.map OpR.o) := ⟨_, rfl⟩
  have Hb0 := Lib.hid hb0
  have Hw0 := Lib.hid hw0
  rw [← hs] at Hi Hpl
  cases hfw : few (L.map OpR.o) with
  | false =>
    rw [hfw] at HFi
    unfold plV plCs at *
    clear hfw hP h hll hps hb0 hQ mk H0 hw0
    go_enter Tryz.func5, Tryz.ntmps5
    go_wp2_with (first
      | (rw [← Hw0.out]; go_at_call 9; refine (c_awake _).mono ?_; rintro e wA ⟨rfl, hbA⟩)
      | (go_at_call 10; refine (HFi.out wA hbA).mono ?_; rintro e wF ⟨rfl, hbF⟩))
    go_ret
    exact ⟨rfl, (Hb0.out.trans (hbA.mono hz0)).trans (hbF.mono (Nat.le_trans hz0 hbA.size))⟩
  | true =>
    have hn3 : n ≤ 3000 := by have := few_len hfw; rw [hll] at this; exact this
    rw [hfw] at HFi
    rw [hll] at Hi
    have HM := Lib.hid (fun (W : World) (hb : Below w0.heap.size w0 W) => c_made W (c := c) (HPl.out W hb) hpo (H.out.below hb) hn3 hb.size)
    rw [← hs] at HM
    have Hdk := Lib.hid Hi.out.dir
    have hdln : s.dir.length ≤ 9000 := by have := Hi.out.nDir; omega
    have hnl := namesOf_len s.dir
    have Hno := Lib.hid (fun (k : Nat) (hk : k < (namesOf s.dir).length) => namesOf_node (s := s) Hdk.out hk)
    unfold MadeP plV plCs ptrV at *
    clear hfw hn hP h hll hps hb0 hs hQ mk H0 hw0
    cases hdd : s.died with
    | true =>
      have Hdd := Lib.hid hdd
      clear hdd
      go_enter Tryz.func5, Tryz.ntmps5
      go_wp2_with (first
      | (rw [← Hw0.out]; go_at_call 9; refine (c_awake _).mono ?_; rintro e wA ⟨rfl, bA⟩)
      | (go_at_call 10; refine (HFi.out wA bA).mono ?_; rintro e wF ⟨rfl, hbF⟩; have bF := bA.trans (hbF.mono bA.size); have B1 := (N1.below bF N1.lt).cell)
      | (go_at_call 11; refine (HM.out wF bF).mono ?_; rintro e wM ⟨fb, rb, rfl, hT, hbM⟩
         have bM := bF.trans hbM
         have HDd := Lib.hid (o_Dead hT.one)
         rw [Hdd.out] at HDd
         unfold ptrV at HDd)
      | (go_at_call 12; refine HDd.out.mono ?_; rintro e w1 ⟨rfl, hww⟩; obtain rfl := hww.symm))
      go_ret
      exact ⟨rfl, Hb0.out.trans (bM.mono hz0)⟩
    | false =>
      have hfs : files s = (namesOf s.dir).map (fileOf s s.dir Nd.data) := by unfold files; rw [hdd]; rfl
      have Hfs := Lib.hid hfs
      have Hst := Lib.hid (Syn.start Hi.out hdd)
      have hln : (files s).length = (namesOf s.dir).length := by rw [hfs, List.length_map]
      have Hdd := Lib.hid hdd
      obtain ⟨ln, hlnE⟩ : ∃ x, x = (namesOf s.dir).length := ⟨_, rfl⟩
      have Hln := Lib.hid hlnE
      have hlnb : ln ≤ 9000 := by rw [hlnE, hnl]; exact hdln
      rw [← hlnE] at hln
      have HlF := Lib.hid hln
      clear hdd hfs hln hlnE hnl hdln
      go_enter Tryz.func5, Tryz.ntmps5
      go_wp2_with (first
      | (rw [← Hw0.out]; go_at_call 9; refine (c_awake _).mono ?_; rintro e wA ⟨rfl, bA⟩)
      | (go_at_call 10; refine (HFi.out wA bA).mono ?_; rintro e wF ⟨rfl, hbF⟩; have bF := bA.trans (hbF.mono bA.size); have B1 := (N1.below bF N1.lt).cell)
      | (go_at_call 11; refine (HM.out wF bF).mono ?_; rintro e wM ⟨fb, rb, rfl, hT, hbM⟩
         have bM := bF.trans hbM
         have hO1 := hT.one
         have HDd := Lib.hid (o_Dead hO1)
         rw [Hdd.out] at HDd
         have HFl := Lib.hid (o_Files hO1 Hi.out (by omega))
         unfold ptrV at HDd HFl)
      | (go_at_call 12; refine HDd.out.mono ?_; rintro e w1 ⟨rfl, hww⟩; obtain rfl := hww.symm)
      | (go_at_call 13; refine HFl.out.mono ?_; intro e w2 hfl
         obtain ⟨A2, c2, F2, rfl, hF2, hr2, hb2⟩ := FilesP.out hfl
         rw [HlF.out] at hr2 ⊢))
      have hO2 := (hO1.fresh (K' := fun b => wM.heap.size ≤ b ∧ b < w2.heap.size) (fun b hb => .inr hb.1)).below hb2
      have b2 := bM.trans (hb2.mono bM.size)
      have HF2 := Lib.hid hF2
      have HQb := Lib.hid (show ∀ W : World, Below w0.heap.size w0 W → Bk W (w.heap.size + 1) 24 _ from fun W hb => N2.below hb N2.lt)
      have HK := Lib.hid (show ∀ b, (wM.heap.size ≤ b ∧ b < w2.heap.size) → b < w2.heap.size from fun b hb => hb.2)
      clear hT hO1 HDd HFl hfl hb2 hF2 hbM B1 bF bA hbF N1 N2
      go_loopw [32] (fun i wr => ∃ (k : Nat) (t : St), k ≤ ln ∧ i = .int .i64 (k : Int) ∧ Syn (0 + 3 * n) s k t ∧ One w0.heap.size (fun b => wM.heap.size ≤ b ∧ b < w2.heap.size) wr fb t ∧ FlG (fun b => wM.heap.size ≤ b ∧ b < w2.heap.size) wr A2 ln F2 ∧ Below w0.heap.size w0 wr ∧ w2.heap.size ≤ wr.heap.size) (fun i _ => ln - (intOf i).toNat)
      case atStart => exact ⟨0, s, Nat.zero_le _, rfl, Hst.out, hO2, hr2, b2, Nat.le_refl _⟩
      case round =>
        clear hO2 hr2 b2
        obtain ⟨k, t, hk, rfl, hsy, hO, hG, hb, hz2⟩ := hrel
        by_cases hlt : k < ln
        · have hkn : k < (namesOf s.dir).length := by rw [← Hln.out]; exact hlt
          have hkF : k < F2.length := by rw [hG.len]; exact hlt
          obtain ⟨b, o, rfl, hbB, hcell⟩ := rdK_at FR.cs_len hG.rd.rd hkF hG.len (by decide)
          have hxn : F2[k].name = (namesOf s.dir)[k] := by
            have h1 : (files s)[k]? = some F2[k].fl := by rw [← HF2.out, List.getElem?_map, List.getElem?_eq_getElem hkF]; rfl
            rw [Hfs.out, List.getElem?_map, List.getElem?_eq_getElem hkn] at h1
            have h2 := Option.some.inj h1
            exact (congrArg Prod.fst h2).symm
          have g0 : wr.cell? ⟨b, o + k * 2, none⟩ = some (svl F2[k].name) := hcell wr (Below.refl _ _) 0 _ rfl
          have g1 : wr.cell? ⟨b, o + k * 2 + 1, none⟩ = some (.slice F2[k].A F2[k].data.length F2[k].c) := hcell wr (Below.refl _ _) 1 _ rfl
          have hnl2 : (namesOf s.dir)[k].length ≤ 4294967296 := by obtain ⟨_, _, h, _⟩ := Hno.out k hkn; exact h
          have hsp := hsy.step Hdk.out hkn
          obtain ⟨x, hx⟩ : ∃ x, x = F2[k] := ⟨_, rfl⟩
          rw [← hx] at hxn g0 g1
          have hbx := (Below.refl wr.heap.size wr).alloc (Nat.le_refl _) (.cells #[svl x.name, .slice x.A x.data.length x.c] 40)
          have hB1 := (Bk.new_ wr 40 #[svl x.name, .slice x.A x.data.length x.c]).cell
          have hpt : t.pl.ok := by rw [hsy.pl]; exact Hpl.out
          rw [← hxn] at hnl2 hsp
          have HSy := Lib.hid (o_Sync (name := x.name) (hO.below hbx) (Nat.le_trans hb.size hbx.size) (fun b h => by have := h.2; have := hbx.size; omega) hsy.inv (by omega) hpt hnl2)
          unfold OneP ptrV at HSy
          obtain ⟨r, hr⟩ : ∃ r, r = sync t x.name := ⟨_, rfl⟩
          rw [← hr] at HSy hsp
          have Hsp := Lib.hid hsp
          have HG := Lib.hid (hG.below hbx)
          have Hb := Lib.hid (hb.trans (hbx.mono hb.size))
          have hzx := hbx.size
          clear hcell hx hr hsp hG hb hO hsy hpt hxn hbx
          unfold svl at *
          by_cases hc : r.2 = 0
          · have hsp2 := Hsp.out hc
            have Hs2 := Lib.hid hsp2
            rw [hc] at HSy
            clear hc hsp2
            go_wp2_with (first | (go_at_call 17; refine HSy.out.mono ?_; rintro e w5 ⟨rfl, hO5, hb5, hk5⟩))
            go_roundw
            case rel => exact ⟨k + 1, r.1, by omega, by go_num, Hs2.out, hO5, HG.out.kbP hk5, Hb.out.trans hb5, Nat.le_trans (Nat.le_trans hz2 hzx) hk5.size⟩
            case measure => simp [intOf]; omega
          · have hcb : (r.2 == 0) = false := by rw [beq_eq_false_iff_ne]; exact hc
            go_wp2_with (first | (go_at_call 17; refine HSy.out.mono ?_; rintro e w5 ⟨rfl, hO5, hb5, hk5⟩))
            go_ret
            exact ⟨rfl, Hb0.out.trans ((Hb.out.trans hb5).mono hz0)⟩
        · obtain rfl : k = ln := by omega
          have hpt : t.pl.ok := by rw [hsy.pl]; exact Hpl.out
          have hst := hsy
          rw [Hln.out] at hst
          have hse := hst.settled Hdk.out
          have hia := hsy.inv.syncDir
          have hpa := syncDir_pl t
          rw [hsy.pl] at hpa
          have HSd := Lib.hid (o_SyncDir hO hb.size (fun b h => by have := h.2; omega) hsy.inv (by omega) hpt)
          unfold OneP ptrV at HSd
          obtain ⟨r, hr⟩ : ∃ r, r = syncDir t := ⟨_, rfl⟩
          rw [← hr] at HSd hse hia hpa
          have Hse := Lib.hid hse
          have Hb := Lib.hid hb
          clear hr hse hst hsy hO hG hb hpt
          by_cases hc : r.2 = 0
          · obtain ⟨h1, h2⟩ := Hse.out hc
            obtain ⟨l1, l2⟩ := synced_law hia h1 h2 q
            have i2 := hia.start q
            have hpr : r.1.pl.ok := by rw [hpa]; exact Hpl.out
            obtain ⟨s2, hs2⟩ : ∃ x, x = Fsy.start r.1 q := ⟨_, rfl⟩
            have c2' : s2.cnt = 0 := by rw [hs2]; rfl
            have d2 : s2.died = false := by rw [hs2]; rfl
            rw [← hs2] at l1 l2 i2
            have Hs2 := Lib.hid hs2
            have Hl1 := Lib.hid l1
            have Hl2 := Lib.hid l2
            have Hia := Lib.hid hia
            have Hi2 := Lib.hid i2
            have Hpr := Lib.hid hpr
            have Hc2 := Lib.hid c2'
            have Hd2 := Lib.hid d2
            obtain ⟨fn, hfn⟩ : ∃ x, x = (files r.1).length := ⟨_, rfl⟩
            have hfnb : fn ≤ 1048576 := by rw [hfn]; have := files_len hia; omega
            have Hfn := Lib.hid hfn
            rw [hc] at HSd
            clear hc h1 h2 l1 l2 i2 hs2 hia hpr hpa c2' d2 hfn
            go_wp2_with (first
              | (go_at_call 18; refine HSd.out.mono ?_; rintro e w5 ⟨rfl, hO5, hb5, hk5⟩
                 have b5 := Hb.out.trans hb5
                 have HFl := Lib.hid (o_Files hO5 Hia.out (by omega))
                 unfold ptrV at HFl)
              | (go_at_call 13; (with_reducible refine HFl.out.mono ?_); intro e w6 hfl
                 obtain ⟨A6, c6, F6, rfl, hF6, hr6, hb6⟩ := FilesP.out hfl
                 rw [← Hfn.out] at hr6 ⊢
                 clear HFl
                 have b6 := b5.trans (hb6.mono b5.size)
                 have hO6 := (hO5.fresh (K' := fun b => w5.heap.size ≤ b ∧ b < w6.heap.size) (fun b hb => .inr hb.1)).below hb6
                 have B6 := (HQb.out w6 b6).cell
                 have HS := Lib.hid (o_Start hO6 b6.size (fun b hb => hb.2) Hia.out (by omega) Hpr.out (HQl.out w6 b6) hqo)
                 rw [← Hs2.out] at HS
                 unfold OneP plV ptrV at HS)
              | (go_at_call 14; (with_reducible refine HS.out.mono ?_); rintro e w7 ⟨rfl, hO7, hb7, hk7⟩
                 clear HS
                 have b7 := b6.trans hb7
                 have hr7 := hr6.kbP hk7
                 have HFl' := Lib.hid (o_Files hO7 Hi2.out (by omega))
                 rw [Hl1.out] at HFl'
                 unfold ptrV at HFl')
              | (go_at_call 13; (with_reducible refine HFl'.out.mono ?_); intro e w8 hfl
                 obtain ⟨A8, c8, F8, rfl, hF8, hr8, hb8⟩ := FilesP.out hfl
                 rw [← Hfn.out] at hr8 ⊢
                 clear HFl'
                 have b8 := b7.trans (hb8.mono b7.size)
                 have hr78 := hr7.below hb8
                 have HSm := Lib.hid (c_rSame w8 (c1 := c8) (c2 := c6) hr8.flr hr78.flr (hF8.trans hF6.symm) (by omega)))
              | (go_at_call 15; (with_reducible refine HSm.out.mono ?_); rintro e w9 ⟨rfl, hb9⟩
                 clear HSm
                 have b9 := b8.trans (hb9.mono b8.size)
                 have hO9 := (hO7.below hb8).below hb9
                 have hr79 := hr78.below hb9
                 have HSf := Lib.hid (o_Safe hO9 Hi2.out (by omega))
                 rw [Hl2.out] at HSf
                 unfold ptrV at HSf)
              | (go_at_call 16; (with_reducible refine HSf.out.mono ?_); intro e w10 hfl
                 obtain ⟨A10, c10, F10, rfl, hF10, hr10, hb10⟩ := FilesP.out hfl
                 rw [← Hfn.out] at hr10 ⊢
                 clear HSf
                 have b10 := b9.trans (hb10.mono b9.size)
                 have hr710 := hr79.below hb10
                 have HSm2 := Lib.hid (c_rSame w10 (c1 := c10) (c2 := c6) hr10.flr hr710.flr (hF10.trans hF6.symm) (by omega)))
              | (go_at_call 15; (with_reducible refine HSm2.out.mono ?_); rintro e w11 ⟨rfl, hb11⟩
                 have b11 := b10.trans (hb11.mono b10.size)
                 have hO11 := (hO9.below hb10).below hb11
                 have HOp := Lib.hid (o_Ops hO11)
                 have HDd := Lib.hid (o_Dead hO11)
                 rw [Hc2.out] at HOp
                 rw [Hd2.out] at HDd
                 unfold ptrV at HOp HDd)
              | (go_at_call 19; (with_reducible refine HOp.out.mono ?_); rintro e w12 ⟨rfl, hww⟩; obtain rfl := hww.symm)
              | (go_at_call 12; (with_reducible refine HDd.out.mono ?_); rintro e w13 ⟨rfl, hww⟩; obtain rfl := hww.symm))
            go_ret
            exact ⟨rfl, Hb0.out.trans (b11.mono hz0)⟩
          · have hcb : (r.2 == 0) = false := by rw [beq_eq_false_iff_ne]; exact hc
            go_wp2_with (first | (go_at_call 18; refine HSd.out.mono ?_; rintro e w5 ⟨rfl, hO5, hb5, hk5⟩))
            go_ret
            exact ⟨rfl, Hb0.out.trans ((Hb.out.trans hb5).mono hz0)⟩
end Go.Proofs.YtaanmnplfppdeaaGreat
