/- Layer 1: the program's file system alone, by where it may turn. -/
import Derived.Test.YtaanmnplfppdeaaGreatLfD
import Derived.Test.YtaanmnplfppdeaaGreatLsA
namespace Go.Proofs.YtaanmnplfppdeaaGreat
open Go.RowKit Go.Lec Go.Fsy Go.Op Go.Maps
/-- The program's file system; all that may turn lies from block B on, and not in K. -/
def One (B : Nat) (K : Nat → Prop) (w : World) (fb : Nat) (s : St) : Prop := ∃ X I, FsP X I w fb s ∧ (∀ b, X b → B ≤ b) ∧ ∀ b, K b → ¬ X b
theorem Two.one {B : Nat} {w : World} {fb rb : Nat} {s : St} (h : Two B w fb rb s) : One B (fun _ => False) w fb s := by
  obtain ⟨X, I, Y, J, h1, _, _, h4, _⟩ := h
  exact ⟨X, I, h1, h4, fun b hb => hb.elim⟩
theorem One.below {B : Nat} {K : Nat → Prop} {w w' : World} {fb : Nat} {s : St} (h : One B K w fb s) (hb : Below w.heap.size w w') : One B K w' fb s := by
  obtain ⟨X, I, h1, h2⟩ := h
  exact ⟨X, I, h1.below hb, h2⟩
/-- What is not yet made does not turn. -/
theorem One.fresh {B : Nat} {K K' : Nat → Prop} {w : World} {fb : Nat} {s : St} (h : One B K w fb s) (hK : ∀ b, K' b → K b ∨ w.heap.size ≤ b) : One B K' w fb s := by
  obtain ⟨X, I, h1, h2, h3⟩ := h
  exact ⟨X, I, h1, h2, fun b hb hx => (hK b hb).elim (fun h => h3 b h hx) (fun h => by have := h1.lt b (.inl hx); omega)⟩
/-- What an operation leaves. -/
def OneP (B : Nat) (K : Nat → Prop) (w : World) (fb : Nat) (r : St × Int) (e : Ending) (w' : World) : Prop := e = .returned (.int .i64 r.2) ∧ One B K w' fb r.1 ∧ Below B w w' ∧ KbP (fun b => ¬ K b) w w'
theorem One.upd {B : Nat} {K : Nat → Prop} {w w' : World} {fb : Nat} {r : St × Int} {X I : Nat → Prop} {e : Ending} (hx : (∀ b, X b → B ≤ b) ∧ ∀ b, K b → ¬ X b) (hB : B ≤ w.heap.size) (hK : ∀ b, K b → b < w.heap.size) (h : UpdP X I w fb r e w') : OneP B K w fb r e w' := by
  obtain ⟨he, X', I', hf, hg⟩ := h
  exact ⟨he, ⟨X', I', hf, fun b hb => (hg.sx b hb).elim (hx.1 b) (fun h => Nat.le_trans hB h), fun b hb hx' => (hg.sx b hx').elim (hx.2 b hb) (fun h => by have := hK b hb; omega)⟩, hg.kb.below hx.1 hB, hg.kb.more (fun b h1 h2 => hx.2 b h2 h1)⟩
/-- Files that read, in memory of K. -/
structure FlG (K : Nat → Prop) (w : World) (A : Option Addr) (n : Nat) (FL : List FR) : Prop where
  len : FL.length = n
  rd : RdKP K w 2 A n (FL.flatMap FR.cs)
  ok : ∀ x ∈ FL, RdP K w x.A x.data.length (bcs x.data)
  cap : ∀ x ∈ FL, x.data.length ≤ x.c
theorem FlG.flr {K : Nat → Prop} {n : Nat} {w : World} {A : Option Addr} {FL : List FR} (h : FlG K w A n FL) : FlR w A n FL := ⟨h.len, h.rd.rd, fun x hx => (h.ok x hx).rd⟩
theorem FlG.kbP {K : Nat → Prop} {n : Nat} {w w' : World} {A : Option Addr} {FL : List FR} (h : FlG K w A n FL) (hk : KbP (fun b => ¬ K b) w w') : FlG K w' A n FL :=
  ⟨h.len, h.rd.kbP hk (fun b h1 h2 => h2 h1), fun x hx => (h.ok x hx).kbP hk (fun b h1 h2 => h2 h1), h.cap⟩
theorem FlG.below {K : Nat → Prop} {n : Nat} {w w' : World} {A : Option Addr} {FL : List FR} (h : FlG K w A n FL) (hb : Below w.heap.size w w') : FlG K w' A n FL :=
  ⟨h.len, h.rd.below hb, fun x hx => RdP.below (h.ok x hx) hb, h.cap⟩
section
variable {B fb N : Nat} {K : Nat → Prop} {w : World} {s : St}
theorem o_Start {p : Pl} {AK AF AU : Option Addr} {cK cF cU : Nat} (h : One B K w fb s) (hB : B ≤ w.heap.size) (hK : ∀ b, K b → b < w.heap.size) (hi : Fsy.Inv s N) (hN : N ≤ 1048575) (hp : s.pl.ok) (hP : PlOk (fun b => b < B) w p AK cK AF cF AU cU) (hpo : p.ok) :
    Calls Tryz.prog 14 #[ptrV fb, plV p AK cK AF cF AU cU] w (OneP B K w fb (Fsy.start s p, 0)) := by
  obtain ⟨X, I, hf, hx⟩ := h
  exact (c_Start w hf hi hN hp hP (fun q hq hq' => by have := hx.1 q hq'; omega) hpo).mono fun e w' => One.upd hx hB hK
theorem o_Sync {name : Bs} (h : One B K w fb s) (hB : B ≤ w.heap.size) (hK : ∀ b, K b → b < w.heap.size) (hi : Fsy.Inv s N) (hN : N ≤ 1048575) (hp : s.pl.ok) (hn : name.length ≤ 4294967296) :
    Calls Tryz.prog 17 #[ptrV fb, .string ⟨name.toArray⟩] w (OneP B K w fb (Fsy.sync s name)) := by
  obtain ⟨X, I, hf, hx⟩ := h
  exact (c_Sync w hf hi hN hp hn).mono fun e w' => One.upd hx hB hK
theorem o_SyncDir (h : One B K w fb s) (hB : B ≤ w.heap.size) (hK : ∀ b, K b → b < w.heap.size) (hi : Fsy.Inv s N) (hN : N ≤ 1048575) (hp : s.pl.ok) :
    Calls Tryz.prog 18 #[ptrV fb] w (OneP B K w fb (Fsy.syncDir s)) := by
  obtain ⟨X, I, hf, hx⟩ := h
  exact (c_SyncDir w hf hi hN hp).mono fun e w' => One.upd hx hB hK
theorem o_Files (h : One B K w fb s) (hi : Fsy.Inv s N) (hN : N ≤ 1048576) : Calls Tryz.prog 13 #[ptrV fb] w (FilesP w (files s)) := by
  obtain ⟨X, I, hf, hx⟩ := h
  exact c_Files w hf hi hN
theorem o_Safe (h : One B K w fb s) (hi : Fsy.Inv s N) (hN : N ≤ 1048576) : Calls Tryz.prog 16 #[ptrV fb] w (FilesP w (safeFiles s)) := by
  obtain ⟨X, I, hf, hx⟩ := h
  exact c_Safe w hf hi hN
theorem o_Dead (h : One B K w fb s) : Calls Tryz.prog 12 #[ptrV fb] w fun e w' => e = .returned (.bool s.died) ∧ w' = w := by
  obtain ⟨X, I, hf, hx⟩ := h
  exact c_Dead w hf
theorem o_Ops (h : One B K w fb s) : Calls Tryz.prog 19 #[ptrV fb] w fun e w' => e = .returned (.int .i64 (s.cnt : Int)) ∧ w' = w := by
  obtain ⟨X, I, hf, hx⟩ := h
  exact c_Ops w hf
end
/-- Files that are told, as they read. -/
theorem FilesP.out {w : World} {L : List Fl} {e : Ending} {w' : World} (h : FilesP w L e w') : ∃ (A : Option Addr) (c : Nat) (FL : List FR), e = .returned (.slice A L.length c) ∧ FL.map FR.fl = L ∧ FlG (fun b => w.heap.size ≤ b ∧ b < w'.heap.size) w' A L.length FL ∧ Below w.heap.size w w' := by
  obtain ⟨A, c, FL, rfl, _, h2, h3, h4, h5⟩ := h
  exact ⟨A, c, FL, rfl, h2, ⟨by rw [← h2, List.length_map], ⟨h3.rd, fun hn p e => ⟨h3.lie hn p e, h3.lt hn p e⟩⟩, fun x hx => ⟨(h4 x hx).1.rd, fun hn p e => ⟨(h4 x hx).1.lie hn p e, (h4 x hx).1.lt hn p e⟩⟩, fun x hx => (h4 x hx).2⟩, h5⟩
end Go.Proofs.YtaanmnplfppdeaaGreat
/- Layer 1: the walk of FsSettled. -/
namespace Go.Proofs.YtaanmnplfppdeaaGreat
open Go.RowKit Go.Lec Go.Fsy Go.Op Go.Maps
set_option maxRecDepth 100000 in
set_option maxHeartbeats 4000000 in
theorem w_FsSettled (w : World) {n c : Nat} {p q r : Pl} {AK AF AU BK BF BU CK CF CU A : Option Addr} {cK cF cU dK dF dU eK eF eU : Nat} {L : List OpR} (hP : PlOk (fun b => b < w.heap.size) w p AK cK AF cF AU cU) (hpo : p.ok) (h : OpsR w.heap.size w A n L) (hn : n ≤ 1048576)
    (hQ : PlOk (fun b => b < w.heap.size) w q BK dK BF dF BU dU) (hqo : q.ok) (hR : PlOk (fun b => b < w.heap.size) w r CK eK CF eF CU eU) (hro : r.ok) :
    Calls Tryz.prog 4 #[plV p AK cK AF cF AU cU, .slice A n c, plV q BK dK BF dF BU dU, plV r CK eK CF eF CU eU] w fun e w' => e = .returned (.bool true) ∧ Below w.heap.size w w' := by
  have hb0 := (((Below.refl w.heap.size w).alloc (Nat.le_refl _) (.cells (plCs p AK cK AF cF AU cU) 24)).alloc (by simp) (.cells (plCs q BK dK BF dF BU dU) 24)).alloc (by simp; omega) (.cells (plCs r CK eK CF eF CU eU) 24)
  have N3 := Bk.new_ ((w.alloc (.cells (plCs p AK cK AF cF AU cU) 24)).alloc (.cells (plCs q BK dK BF dF BU dU) 24)) 24 (plCs r CK eK CF eF CU eU)
  have N2 := (Bk.new_ (w.alloc (.cells (plCs p AK cK AF cF AU cU) 24)) 24 (plCs q BK dK BF dF BU dU)).alloc (.cells (plCs r CK eK CF eF CU eU) 24)
  have N1 := ((Bk.new_ w 24 (plCs p AK cK AF cF AU cU)).alloc (.cells (plCs q BK dK BF dF BU dU) 24)).alloc (.cells (plCs r CK eK CF eF CU eU) 24)
  simp only [World.size_alloc] at N3 N2
  obtain ⟨w0, hw0⟩ : ∃ x, x = (((w.alloc (.cells (plCs p AK cK AF cF AU cU) 24)).alloc (.cells (plCs q BK dK BF dF BU dU) 24)).alloc (.cells (plCs r CK eK CF eF CU eU) 24)) := ⟨_, rfl⟩
  rw [← hw0] at hb0 N1 N2 N3
  have hz0 := hb0.size
  have hI : ∀ b, b < w.heap.size → b < w0.heap.size := fun b hb => by omega
  have mk : ∀ {p : Pl} {AK AF AU : Option Addr} {cK cF cU : Nat}, PlOk (fun b => b < w.heap.size) w p AK cK AF cF AU cU → ∀ W : World, Below w0.heap.size w0 W → PlOk (fun b => b < w0.heap.size) W p AK cK AF cF AU cU := fun hP W hb => by
    have h1 := hP.kbP (kbP_of_below (hb0.trans (hb.mono hz0))) (fun b h1 h2 => by omega)
    exact ⟨h1.rk.more hI, h1.rf.more hI, h1.ru.more hI, h1.nk, h1.nf, h1.nu⟩
  have HPl := Lib.hid (mk hP)
  have HQl := Lib.hid (mk hQ)
  have HRl := Lib.hid (mk hR)
  have H0 : OpsR w0.heap.size w0 A n L := by
    have h1 := h.below hb0
    exact ⟨h1.len, h1.rd.more hI, fun x hx => ⟨(h1.ok x hx).d.more hI, (h1.ok x hx).dc, ⟨(h1.ok x hx).p.rk.more hI, (h1.ok x hx).p.rf.more hI, (h1.ok x hx).p.ru.more hI, (h1.ok x hx).p.nk, (h1.ok x hx).p.nf, (h1.ok x hx).p.nu⟩, (h1.ok x hx).pk, (h1.ok x hx).n1, (h1.ok x hx).n2, (h1.ok x hx).nm, (h1.ok x hx).tl, (h1.ok x hx).dl⟩⟩
  have HFi := Lib.hid (fun (W : World) (hb : Below w0.heap.size w0 W) => c_fits W (c := c) (H0.below hb) hn)
  have hll : (L.map OpR.o).length = n := by rw [List.length_map, h.len]
  have H := Lib.hid H0
  have hps : ∀ o ∈ L.map OpR.o, o.p.ok := by
    intro o ho
    obtain ⟨x, hx, rfl⟩ := List.mem_map.1 ho
    exact (h.ok x hx).pk
  have Hi := Lib.hid ((Inv.new p).runs (l := L.map OpR.o))
  have Hpl := Lib.hid (runs_pl (s := new p) (l := L.map OpR.o) hpo hps)
  have Hdd := Lib.hid (runs_diedOk (s := new p) (l := L.map OpR.o) (Inv.new p) (new_diedOk p))
  obtain ⟨s, hs⟩ : ∃ s, s = runs (new p) (L.map OpR.o) := ⟨_, rfl⟩
  have Hb0 := Lib.hid hb0
  have Hw0 := Lib.hid hw0
  rw [← hs] at Hi Hpl Hdd
  cases hfw : few (L.map OpR.o) with
  | false =>
    rw [hfw] at HFi
    unfold plV plCs at *
    clear hfw hP h hll hps hb0 hQ hR mk H0 hw0
    go_enter Tryz.func4, Tryz.ntmps4
    go_wp2_with (first
      | (rw [← Hw0.out]; go_at_call 9; refine (c_awake _).mono ?_; rintro e wA ⟨rfl, hbA⟩)
      | (go_at_call 10; refine (HFi.out wA hbA).mono ?_; rintro e wF ⟨rfl, hbF⟩))
    go_ret
    exact ⟨rfl, (Hb0.out.trans (hbA.mono hz0)).trans (hbF.mono (Nat.le_trans hz0 hbA.size))⟩
  | true =>
    have hn3 : n ≤ 3000 := by have := few_len hfw; rw [hll] at this; exact this
    rw [hfw] at HFi
    rw [hll] at Hi
    have HM := Lib.hid (fun (W : World) (hb : Below w0.heap.size w0 W) => c_made W (c := c) (HPl.out W hb) hpo (H.out.below hb) hn3 hb.size)
    rw [← hs] at HM
    obtain ⟨l1, l2, l3⟩ := settled_law Hi.out Hdd.out q r
    have i1 := Hi.out.start q
    have i2 := i1.start r
    have p1 : (Fsy.start s q).pl.ok := hqo
    obtain ⟨s1, hs1⟩ : ∃ x, x = Fsy.start s q := ⟨_, rfl⟩
    rw [← hs1] at l1 l2 l3 i1 i2 p1
    obtain ⟨s2, hs2⟩ : ∃ x, x = Fsy.start s1 r := ⟨_, rfl⟩
    rw [← hs2] at l2 l3 i2
    have Hs1 := Lib.hid hs1
    have Hs2 := Lib.hid hs2
    have Hl1 := Lib.hid l1
    have Hl2 := Lib.hid l2
    have Hl3 := Lib.hid l3
    have Hi1 := Lib.hid i1
    have Hi2 := Lib.hid i2
    have Hp1 := Lib.hid p1
    obtain ⟨ln, hln⟩ : ∃ x, x = (files s1).length := ⟨_, rfl⟩
    have hlnb : ln ≤ 1048576 := by rw [hln]; have := files_len i1; omega
    have Hln := Lib.hid hln
    unfold MadeP plV plCs ptrV at *
    clear hfw hn hP h hll hps hb0 hs hQ hR mk H0 hw0 hs1 hs2 l1 l2 l3 i1 i2 p1 hln
    go_enter Tryz.func4, Tryz.ntmps4
    go_wp2_with (first
      | (rw [← Hw0.out]; go_at_call 9; refine (c_awake _).mono ?_; rintro e wA ⟨rfl, bA⟩)
      | (go_at_call 10; refine (HFi.out wA bA).mono ?_; rintro e wF ⟨rfl, hbF⟩; have bF := bA.trans (hbF.mono bA.size); have B1 := (N1.below bF N1.lt).cell)
      | (go_at_call 11; refine (HM.out wF bF).mono ?_; rintro e wM ⟨fb, rb, rfl, hT, hbM⟩
         have bM := bF.trans hbM
         have B2 := (N2.below bM N2.lt).cell
         have HS := Lib.hid (o_Start hT.one bM.size (fun _ h => h.elim) Hi.out (by omega) Hpl.out (HQl.out wM bM) hqo)
         rw [← Hs1.out] at HS
         unfold OneP plV ptrV at HS)
      | (go_at_call 14; (with_reducible refine HS.out.mono ?_); rintro e w1 ⟨rfl, hO1, hb1, _⟩
         clear HS
         have b1 := bM.trans hb1
         have HFl := Lib.hid (o_Files hO1 Hi1.out (by omega))
         unfold ptrV at HFl)
      | (go_at_call 13; (with_reducible refine HFl.out.mono ?_); intro e w2 hfl
         obtain ⟨A2, c2, F2, rfl, hF2, hr2, hb2⟩ := FilesP.out hfl
         rw [← Hln.out] at hr2 ⊢
         clear HFl
         have b2 := b1.trans (hb2.mono b1.size)
         have hO2 := (hO1.fresh (K' := fun b => w1.heap.size ≤ b ∧ b < w2.heap.size) (fun b hb => .inr hb.1)).below hb2
         have HSf := Lib.hid (o_Safe hO2 Hi1.out (by omega))
         rw [Hl1.out] at HSf
         unfold ptrV at HSf)
      | (go_at_call 16; (with_reducible refine HSf.out.mono ?_); intro e w3 hfl
         obtain ⟨A3, c3, F3, rfl, hF3, hr3, hb3⟩ := FilesP.out hfl
         rw [← Hln.out] at hr3 ⊢
         clear HSf
         have b3 := b2.trans (hb3.mono b2.size)
         have hr23 := hr2.below hb3
         have HSm := Lib.hid (c_rSame w3 (c1 := c3) (c2 := c2) hr3.flr hr23.flr (hF3.trans hF2.symm) (by omega)))
      | (go_at_call 15; (with_reducible refine HSm.out.mono ?_); rintro e w4 ⟨rfl, hb4⟩
         clear HSm
         have b4 := b3.trans (hb4.mono b3.size)
         have hO4 := (hO2.below hb3).below hb4
         have hr24 := hr23.below hb4
         have B3 := (N3.below b4 N3.lt).cell
         have HS' := Lib.hid (o_Start hO4 b4.size (fun b hb => by have := hb.2; have := hb3.size; have := hb4.size; omega) Hi1.out (by omega) Hp1.out (HRl.out w4 b4) hro)
         rw [← Hs2.out] at HS'
         unfold OneP plV ptrV at HS')
      | (go_at_call 14; (with_reducible refine HS'.out.mono ?_); rintro e w5 ⟨rfl, hO5, hb5, hk5⟩
         clear HS'
         have b5 := b4.trans hb5
         have HFl' := Lib.hid (o_Files hO5 Hi2.out (by omega))
         rw [Hl2.out] at HFl'
         unfold ptrV at HFl'
         have hr25 := hr24.kbP hk5)
      | (go_at_call 13; (with_reducible refine HFl'.out.mono ?_); intro e w6 hfl
         obtain ⟨A6, c6, F6, rfl, hF6, hr6, hb6⟩ := FilesP.out hfl
         rw [← Hln.out] at hr6 ⊢
         clear HFl'
         have b6 := b5.trans (hb6.mono b5.size)
         have hr26 := hr25.below hb6
         have HSm2 := Lib.hid (c_rSame w6 (c1 := c6) (c2 := c2) hr6.flr hr26.flr (hF6.trans hF2.symm) (by omega)))
      | (go_at_call 15; (with_reducible refine HSm2.out.mono ?_); rintro e w7 ⟨rfl, hb7⟩
         clear HSm2
         have b7 := b6.trans (hb7.mono b6.size)
         have hO7 := (hO5.below hb6).below hb7
         have hr27 := hr26.below hb7
         have HSf' := Lib.hid (o_Safe hO7 Hi2.out (by omega))
         rw [Hl3.out] at HSf'
         unfold ptrV at HSf')
      | (go_at_call 16; (with_reducible refine HSf'.out.mono ?_); intro e w8 hfl
         obtain ⟨A8, c8, F8, rfl, hF8, hr8, hb8⟩ := FilesP.out hfl
         rw [← Hln.out] at hr8 ⊢
         clear HSf'
         have b8 := b7.trans (hb8.mono b7.size)
         have hr28 := hr27.below hb8
         have HSm3 := Lib.hid (c_rSame w8 (c1 := c8) (c2 := c2) hr8.flr hr28.flr (hF8.trans hF2.symm) (by omega)))
      | (go_at_call 15; (with_reducible refine HSm3.out.mono ?_); rintro e w9 ⟨rfl, hb9⟩
         have b9 := b8.trans (hb9.mono b8.size)))
    go_ret
    exact ⟨rfl, Hb0.out.trans (b9.mono hz0)⟩
end Go.Proofs.YtaanmnplfppdeaaGreat
