/- Layer 1: it lives again: the walk of Start; what it has read: Read, Size, Ops. -/
import Derived.Test.YtaanmnplfppdeaaFsX4
namespace Go.Proofs.Ytaanmnplfppdeaa
open Go.RowKit Go.Lec Go.Fsy Go.Op Go.Maps
theorem FsG.planned {X I : Nat → Prop} {w w1 w' : World} {fb : Nat} {s : St} {G : Geo} {p : Pl} {AK AF AU : Option Addr} {cK cF cU : Nat} (h : FsG X I w fb s G) (hb1 : Below w.heap.size w w1) (hP : PlOk (fun b => w.heap.size ≤ b) w1 p AK cK AF cF AU cU) (hk : KbP (fun b => b = fb) w1 w')
    (hb : Bk w' fb 38 (fsCs (live s p) { G with AK := AK, cK := cK, AF := AF, cF := cF, AU := AU, cU := cU })) :
    FsG X (fun b => I b ∨ (w.heap.size ≤ b ∧ b < w1.heap.size)) w' fb (live s p) { G with AK := AK, cK := cK, AF := AF, cF := cF, AU := AU, cU := cU } := by
  have h1 := h.below hb1
  have hI : ∀ b, I b → ¬ b = fb := fun b hb e => h.xi b hb (e ▸ h.xfb)
  have hfl := h.bk.lt
  have lie : ∀ {A : Option Addr} {l : List Int}, RdP (fun b => w.heap.size ≤ b) w1 A l.length (ics l) → RdP (fun b => I b ∨ (w.heap.size ≤ b ∧ b < w1.heap.size)) w' A l.length (ics l) := fun h => by
    have h1 : RdP (fun b => w.heap.size ≤ b ∧ b < w1.heap.size) w1 _ _ _ := ⟨h.rd, fun hn q e => ⟨h.lie hn q e, h.lt hn q e⟩⟩
    exact (h1.kbP hk (fun b hb e => by omega)).more (fun b => .inr)
  refine ⟨hb, lie hP.rk, lie hP.rf, lie hP.ru, hP.nk, hP.nf, hP.nu, ownsMap_kbP h1.dmap hk (fun e => bk_map h.bk h.dmap e.symm), ownsMap_kbP h1.smap hk (fun e => bk_map h.bk h.smap e.symm), h.rep1, h.rep2,
    OwnK.kbP h1.mvs hk (fun g hg e => own_bkK h.mvs h.bk (by decide) (e ▸ hg)), fun i hi => ?_, h.inj, h.injl, h.ne, h.xfb, h.xdm, h.xsm, h.xmv, ?_, ?_⟩
  · obtain ⟨vs, hO⟩ := (h1.files i hi).own
    obtain ⟨cs, hB⟩ := (h1.files i hi).bk
    exact ((h1.files i hi).kbP hk (fun e => bk_ne h1.bk hB (by decide) e.symm) (fun g hg e => own_bkK hO h1.bk (by decide) (e ▸ hg)) hI).more (fun _ h => h) (fun _ => .inl)
  · rintro b (hb | hb) hx
    · exact h.xi b hb hx
    · have := h.lt b (.inl hx); omega
  · have s1 := hb1.size
    have s2 := hk.size
    rintro b (hb | hb | hb)
    · have := h.lt b (.inl hb); omega
    · have := h.lt b (.inr hb); omega
    · omega
theorem PlOk.below {I : Nat → Prop} {w w' : World} {p : Pl} {AK AF AU : Option Addr} {cK cF cU : Nat} (h : PlOk I w p AK cK AF cF AU cU) (hb : Below w.heap.size w w') : PlOk I w' p AK cK AF cF AU cU :=
  ⟨h.rk.kbP (X := fun _ => False) (KbP.of_below hb) (fun _ _ h => h), h.rf.kbP (X := fun _ => False) (KbP.of_below hb) (fun _ _ h => h), h.ru.kbP (X := fun _ => False) (KbP.of_below hb) (fun _ _ h => h), h.nk, h.nf, h.nu⟩
theorem PlOk.kbP {X I : Nat → Prop} {w w' : World} {p : Pl} {AK AF AU : Option Addr} {cK cF cU : Nat} (h : PlOk I w p AK cK AF cF AU cU) (hb : KbP X w w') (hX : ∀ b, I b → ¬ X b) : PlOk I w' p AK cK AF cF AU cU :=
  ⟨h.rk.kbP hb hX, h.rf.kbP hb hX, h.ru.kbP hb hX, h.nk, h.nf, h.nu⟩
/-- A plan's five cells. -/
def plCs (p : Pl) (AK : Option Addr) (cK : Nat) (AF : Option Addr) (cF : Nat) (AU : Option Addr) (cU : Nat) : Array Value :=
  #[.int .i64 p.crash, .slice AK p.keep.length cK, .slice AF p.fail.length cF, .slice AU p.full.length cU, .int .i64 p.room]
theorem start_bk {w2 : World} {fb : Nat} {s : St} {G : Geo} {p : Pl} {A1 A2 A3 : Option Addr} {c1 c2 c3 : Nat} (hB2 : Bk w2 fb 38 (fsCs s G)) :
    Bk ((((((w2.setCell ⟨fb, 1, none⟩ (.int .i64 p.crash)).setCell ⟨fb, 2, none⟩ (.slice A1 p.keep.length c1)).setCell ⟨fb, 3, none⟩ (.slice A2 p.fail.length c2)).setCell ⟨fb, 4, none⟩ (.slice A3 p.full.length c3)).setCell ⟨fb, 5, none⟩ (.int .i64 p.room)).setCell ⟨fb, 7, none⟩ (.bool false)) fb 38 (fsCs { s with pl := p, died := false } { G with AK := A1, cK := c1, AF := A2, cF := c2, AU := A3, cU := c3 }) :=
  (((((hB2.set_ 1 (.int .i64 p.crash)).set_ 2 (.slice A1 p.keep.length c1)).set_ 3 (.slice A2 p.fail.length c2)).set_ 4 (.slice A3 p.full.length c3)).set_ 5 (.int .i64 p.room)).set_ 7 (.bool false)
theorem start_end {X I : Nat → Prop} {w1 w2 : World} {fb : Nat} {s : St} {G : Geo} {p : Pl} {A1 A2 A3 : Option Addr} {c1 c2 c3 : Nat} (hG : FsG X I w1 fb s G) (hb2 : Below w1.heap.size w1 w2) (hPP : PlOk (fun b => w1.heap.size ≤ b) w2 p A1 c1 A2 c2 A3 c3) :
    ∃ X' I', FsP X' I' (((((((w2.setCell ⟨fb, 1, none⟩ (.int .i64 p.crash)).setCell ⟨fb, 2, none⟩ (.slice A1 p.keep.length c1)).setCell ⟨fb, 3, none⟩ (.slice A2 p.fail.length c2)).setCell ⟨fb, 4, none⟩ (.slice A3 p.full.length c3)).setCell ⟨fb, 5, none⟩ (.int .i64 p.room)).setCell ⟨fb, 7, none⟩ (.bool false)).setCell ⟨fb, 6, none⟩ (.int .i64 0)) fb (live s p) ∧ Grow X I w1 X' I' (((((((w2.setCell ⟨fb, 1, none⟩ (.int .i64 p.crash)).setCell ⟨fb, 2, none⟩ (.slice A1 p.keep.length c1)).setCell ⟨fb, 3, none⟩ (.slice A2 p.fail.length c2)).setCell ⟨fb, 4, none⟩ (.slice A3 p.full.length c3)).setCell ⟨fb, 5, none⟩ (.int .i64 p.room)).setCell ⟨fb, 7, none⟩ (.bool false)).setCell ⟨fb, 6, none⟩ (.int .i64 0)) := by
  have hB2 := hG.bk.below hb2 hG.bk.lt
  have hk : KbP (fun b => b = fb) w2 (((((((w2.setCell ⟨fb, 1, none⟩ (.int .i64 p.crash)).setCell ⟨fb, 2, none⟩ (.slice A1 p.keep.length c1)).setCell ⟨fb, 3, none⟩ (.slice A2 p.fail.length c2)).setCell ⟨fb, 4, none⟩ (.slice A3 p.full.length c3)).setCell ⟨fb, 5, none⟩ (.int .i64 p.room)).setCell ⟨fb, 7, none⟩ (.bool false)).setCell ⟨fb, 6, none⟩ (.int .i64 0)) :=
    (((((((KbP.refl (fun b => b = fb) w2).setCell (p := ⟨fb, 1, none⟩) (.inl rfl) _).setCell (p := ⟨fb, 2, none⟩) (.inl rfl) _).setCell (p := ⟨fb, 3, none⟩) (.inl rfl) _).setCell (p := ⟨fb, 4, none⟩) (.inl rfl) _).setCell (p := ⟨fb, 5, none⟩) (.inl rfl) _).setCell (p := ⟨fb, 7, none⟩) (.inl rfl) _).setCell (p := ⟨fb, 6, none⟩) (.inl rfl) _
  have hT := FsG.planned hG hb2 hPP hk ((start_bk hB2).set_ 6 (.int .i64 0))
  exact ⟨X, _, ⟨_, hT⟩, ⟨fun b h => .inl h, fun b h => h.imp_right (fun e => e.1), ((KbP.of_below hb2 : KbP X w1 w2)).trans hk (fun b e => .inl (e ▸ hG.xfb))⟩⟩
set_option maxRecDepth 100000 in
set_option maxHeartbeats 1600000 in
theorem c_Start (w : World) {X I J : Nat → Prop} {fb N : Nat} {s : St} {p : Pl} {AK AF AU : Option Addr} {cK cF cU : Nat} (h : FsP X I w fb s) (hi : Fsy.Inv s N) (hN : N ≤ 1048575) (hp : s.pl.ok) (hP : PlOk J w p AK cK AF cF AU cU) (hJ : ∀ q, J q → ¬ X q) (hpo : p.ok) :
    Calls Try.prog 14 #[ptrV fb, plV p AK cK AF cF AU cU] w (UpdP X I w fb (Fsy.start s p, 0)) := by
  have hb0 := (Below.refl w.heap.size w).alloc (Nat.le_refl _) (.cells #[.int .i64 p.crash, .slice AK p.keep.length cK, .slice AF p.fail.length cF, .slice AU p.full.length cU, .int .i64 p.room] 25)
  have hB0 := Bk.new_ w 25 #[.int .i64 p.crash, .slice AK p.keep.length cK, .slice AF p.fail.length cF, .slice AU p.full.length cU, .int .i64 p.room]
  have h0 := h.below hb0
  have hxl := h.lt
  have hP0 := hP.below hb0
  have HD := Lib.hid (c_die _ h0 hi (by omega) hp)
  unfold FsE at HD
  have HT := Lib.hid (fun (W : World) (hK : KbP X (w.alloc (.cells #[.int .i64 p.crash, .slice AK p.keep.length cK, .slice AF p.fail.length cF, .slice AU p.full.length cU, .int .i64 p.room] 25)) W) => c_twin W (hP0.kbP hK hJ) hpo.1 hpo.2.1 hpo.2.2.1)
  have hpx : ¬ X w.heap.size := fun hx => by have := hxl w.heap.size (.inl hx); omega
  have HG0 := Lib.hid h0
  obtain ⟨G0, hGG⟩ := h0
  have HGG := Lib.hid hGG
  have q0 := hGG.bk.cell
  have H0 := Lib.hid (c_is _ fb (q0 0))
  have Hb0 := Lib.hid hb0
  have hsd : Fsy.start s p = live (if s.died then s else Fsy.die s) p := rfl
  rw [hsd]
  obtain ⟨d, hd⟩ : ∃ x, x = s.died := ⟨_, rfl⟩
  unfold fsCs at q0
  rw [← hd] at q0 ⊢
  clear hsd hd hb0 hP0 hGG h hP
  have hBB := hB0.cell
  unfold plV ptrV at *
  cases d with
  | true =>
    rw [if_pos rfl]
    go_enter Try.func14, Try.ntmps14
    go_wp2_with (first | (go_at_call 22; refine H0.out.mono ?_; rintro e w1 ⟨rfl, rfl⟩) | (go_at_call 31; refine (HT.out _ (KbP.refl _ _)).mono ?_; rintro e w2 ⟨A1, c1, A2, c2, A3, c3, rfl, hPP, hb2⟩; have hB2 := HGG.out.bk.below hb2 HGG.out.bk.lt; unfold plV; have q2 := hB2.cell; unfold fsCs at q2; have z2 := hB2.frz) | (go_at_call 32; refine (c_aStore _ fb 6 (s.cnt : Int) 0 ((start_bk (p := p) hB2).cell 6) ((start_bk (p := p) hB2).frz 6)).mono ?_; rintro e w3 ⟨rfl, rfl⟩))
    go_ret
    obtain ⟨X1, I1, hP1, hg1⟩ := start_end HGG.out hb2 hPP
    exact ⟨rfl, X1, I1, hP1, (Grow.of_kb (KbP.of_below Hb0.out)).trans hg1⟩
  | false =>
    rw [if_neg Bool.false_ne_true]
    have HBK := Lib.hid (fun (W : World) (hK : KbP X (w.alloc (.cells #[.int .i64 p.crash, .slice AK p.keep.length cK, .slice AF p.fail.length cF, .slice AU p.full.length cU, .int .i64 p.room] 25)) W) => hB0.kbP hK hpx)
    clear hB0
    go_enter Try.func14, Try.ntmps14
    go_wp2_with (first | (go_at_call 22; refine H0.out.mono ?_; rintro e w1 ⟨rfl, rfl⟩) | (go_at_call 30; refine HD.out.mono ?_; rintro e w1 ⟨rfl, X1, I1, ⟨G1, hG1⟩, hg1⟩; have hBP := (HBK.out _ hg1.kb).cell) | (go_at_call 31; refine (HT.out _ hg1.kb).mono ?_; rintro e w2 ⟨A1, c1, A2, c2, A3, c3, rfl, hPP, hb2⟩; have hB2 := hG1.bk.below hb2 hG1.bk.lt; unfold plV; have q2 := hB2.cell; unfold fsCs at q2; have z2 := hB2.frz) | (go_at_call 32; refine (c_aStore _ fb 6 ((Fsy.die s).cnt : Int) 0 ((start_bk (p := p) hB2).cell 6) ((start_bk (p := p) hB2).frz 6)).mono ?_; rintro e w3 ⟨rfl, rfl⟩))
    go_ret
    obtain ⟨X2, I2, hP2, hg2⟩ := start_end hG1 hb2 hPP
    exact ⟨rfl, X2, I2, hP2, ((Grow.of_kb (KbP.of_below Hb0.out)).trans hg1).trans hg2⟩
set_option maxRecDepth 100000 in
set_option maxHeartbeats 800000 in
theorem c_Ops (w : World) {X I : Nat → Prop} {fb : Nat} {s : St} (h : FsP X I w fb s) :
    Calls Try.prog 17 #[ptrV fb] w fun e w' => e = .returned (.int .i64 (s.cnt : Int)) ∧ w' = w := by
  obtain ⟨G, hG⟩ := h
  have q := hG.bk.cell
  have H0 := Lib.hid (c_is w fb (q 0))
  have H1 := Lib.hid (c_aLoad w fb 6 (s.cnt : Int) (q 6))
  clear hG q
  unfold ptrV
  go_enter Try.func17, Try.ntmps17
  go_wp2_with (first | (go_at_call 22; refine H0.out.mono ?_; rintro e w1 ⟨rfl, rfl⟩) | (go_at_call 35; refine H1.out.mono ?_; rintro e w1 ⟨rfl, rfl⟩))
  go_ret
  exact ⟨rfl, rfl⟩
end Go.Proofs.Ytaanmnplfppdeaa
