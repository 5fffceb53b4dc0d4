/- Layer 1: the law's first example: the walk of awake. -/
import Derived.Test.YtaanmnplfppdeaaGreatFsZ1
import Derived.Test.YtaanmnplfppdeaaGreatFsY1
import Derived.Lib.SlBytesConst
namespace Go.Fsy
open Go.RowKit Go.Maps Go.Lec
def pl0 : Pl := ⟨0, [], [], [], 0⟩
theorem pl0_ok : pl0.ok := ⟨Nat.zero_le _, Nat.zero_le _, Nat.zero_le _, (fun x hx => by cases hx), by decide, by decide⟩
def aw1 : St × Int := create (new pl0) [97]
def aw2 : St × Int := append aw1.1 [97] [120, 121]
def aw3 : St × Int := sync aw2.1 [97]
def aw4 : St × Int := syncDir aw3.1
def aw5 : St := start aw3.1 pl0
def aw6 : St := start aw4.1 pl0
theorem aw1_ok : aw1.2 = 0 := by decide
theorem aw2_ok : aw2.2 = 0 := by decide
theorem aw3_ok : aw3.2 = 0 := by decide
theorem aw4_ok : aw4.2 = 0 := by decide
theorem aw5_files : files aw5 = [] := by
  have h1 : aw5.died = false := rfl
  have h2 : aw5.dir = [] := rfl
  unfold files namesOf
  rw [h1, h2]
  simp
theorem aw6_files : files aw6 = [([97], [120, 121])] := by
  have h1 : aw6.died = false := rfl
  have h2 : aw6.dir = [([97], 0)] := rfl
  have h3 : aw6.nodes = [⟨[120, 121], []⟩] := by
    have e1 : aw4.1.nodes = [⟨[120, 121], []⟩] := rfl
    have e2 : dieDir aw4.1 = [([97], 0)] := rfl
    have e3 : aw6.nodes = (dieNames [] (dieDir aw4.1) (namesOf (dieDir aw4.1)) aw4.1.nodes 0).1 := rfl
    rw [e3, e1, e2]
    have e4 : namesOf [([97], 0)] = [([97] : Bs)] := by simp [namesOf]
    rw [e4]; rfl
  unfold files
  rw [h1, h2]
  have e4 : namesOf [([97], 0)] = [([97] : Bs)] := by simp [namesOf]
  rw [e4]
  unfold fileOf
  rw [h3]
  rfl
theorem aw1_inv : Inv aw1.1 3 := (Inv.new pl0).create _
theorem aw2_inv : Inv aw2.1 5 := aw1_inv.append _ _
theorem aw3_inv : Inv aw3.1 6 := aw2_inv.sync _
theorem aw4_inv : Inv aw4.1 7 := aw3_inv.syncDir
theorem aw5_inv : Inv aw5 6 := aw3_inv.start _
theorem aw6_inv : Inv aw6 7 := aw4_inv.start _
end Go.Fsy
namespace Go.Proofs.YtaanmnplfppdeaaGreat
open Go.RowKit Go.Lec Go.Fsy Go.Op Go.Maps
/-- A file system abides what another does, of which it shares nothing that turns. -/
theorem FsP.beside {X I Y J : Nat → Prop} {w w' : World} {fb : Nat} {s : St} (h : FsP X I w fb s) (ha : Apart Y J X I) (hk : KbP Y w w') : FsP X I w' fb s := h.kbP hk (fun b hx hy => ha.xy b hy hx) (fun b hi hy => ha.xj b hy hi)
theorem CloneP.apart {X I X' I' : Nat → Prop} {w : World} {fb : Nat} {s : St} (h : FsP X I w fb s) (hx : ∀ b, X' b → w.heap.size ≤ b) (hi : ∀ b, I' b → I b ∨ w.heap.size ≤ b) : Apart X' I' X I := by
  obtain ⟨G, hG⟩ := h
  refine ⟨fun b h1 h2 => ?_, fun b h1 h2 => ?_, fun b h1 h2 => ?_⟩
  · have := hx b h1; have := hG.lt b (.inl h2); omega
  · have := hx b h1; have := hG.lt b (.inr h2); omega
  · rcases hi b h1 with h | h
    · exact hG.xi b h h2
    · have := hG.lt b (.inl h2); omega
set_option maxRecDepth 100000 in
set_option maxHeartbeats 4000000 in
theorem c_awake (w : World) : Calls Tryz.prog 9 #[] w fun e w' => e = .returned (.bool true) ∧ Below w.heap.size w w' := by
  have hpN : PlOk (fun _ => False) w pl0 none 0 none 0 none 0 := ⟨RdP.nil_, RdP.nil_, RdP.nil_, Nat.le_refl _, Nat.le_refl _, Nat.le_refl _⟩
  have HNew := Lib.hid (c_FsNew w hpN (by decide) (by decide) (by decide))
  unfold NewP plV at HNew
  have HPl := Lib.hid (fun W : World => show PlOk (fun _ => False) W pl0 none 0 none 0 none 0 from ⟨RdP.nil_, RdP.nil_, RdP.nil_, Nat.le_refl _, Nat.le_refl _, Nat.le_refl _⟩)
  clear hpN
  have hcv : ∀ W : World, (convert 28 28 (.slice (some ⟨W.heap.size, 0, none⟩) 2 2)).run Tryz.prog (W.alloc (.cells #[.int .u8 120, .int .u8 121] 5)) = .ok (.slice (some ⟨W.heap.size, 0, none⟩) 2 2) (W.alloc (.cells #[.int .u8 120, .int .u8 121] 5 (2, 3))) := fun W => Lib.run_convert_bytes_const (P := Tryz.prog) W 28 5 #[.int .u8 120, .int .u8 121] 2 2 Tryz.underlying28 Tryz.underlying5
  go_enter Tryz.func9, Tryz.ntmps9
  go_wp2_with (go_at_call 24; refine HNew.out.mono ?_; rintro e w1 ⟨fb, X1, I1, rfl, hP1, hx1, hi1, hb1⟩; have H1 := Lib.hid (c_Create w1 hP1 (Inv.new pl0) (by decide) pl0_ok (name := [97]) (by decide)); unfold UpdP ptrV at H1; rw [show (Fsy.create (new pl0) [97]).2 = 0 from aw1_ok] at H1; unfold ptrV)
  have hw1 := hb1.size
  refine H1.out.mono ?_
  rintro e w2 ⟨rfl, X2, I2, hP2, hg2⟩
  go_wp2_with fail
  have hL2 : RdP (fun b => w2.heap.size ≤ b ∧ b < (w2.alloc (.cells #[.int .u8 120, .int .u8 121] 5 (2, 3))).heap.size) (w2.alloc (.cells #[.int .u8 120, .int .u8 121] 5 (2, 3))) (some ⟨w2.heap.size, 0, none⟩) 2 (bcs [120, 121]) :=
    ⟨(Rd.litM w2 [.int .u8 120, .int .u8 121] 5 (2, 3)).more (by simp), fun hn p hp => by cases hp; exact ⟨Nat.le_refl _, by simp⟩⟩
  have hP2' := hP2.below ((Below.refl w2.heap.size w2).alloc (Nat.le_refl _) (.cells #[.int .u8 120, .int .u8 121] 5 (2, 3)))
  have hl2 := hP2.lt
  have H2 := c_Append _ hP2' aw1_inv (by decide) pl0_ok (name := [97]) (bs := [120, 121]) (d := 2) (by decide) hL2 (fun q hq hx => by have := hl2 q (.inl hx); omega) (by decide) (by decide)
  rw [show Fsy.append (Fsy.create (new pl0) [97]).1 [97] [120, 121] = aw2 from rfl] at H2
  unfold UpdP ptrV at H2
  rw [aw2_ok] at H2
  have H2 := Lib.hid H2
  go_wp2_with fail
  refine H2.out.mono ?_
  rintro e w3 ⟨rfl, X3, I3, hP3, hg3⟩
  have H3 := c_Sync w3 hP3 aw2_inv (by decide) pl0_ok (name := [97]) (by decide)
  rw [show Fsy.sync aw2.1 [97] = aw3 from rfl] at H3
  unfold UpdP ptrV at H3
  rw [aw3_ok] at H3
  have H3 := Lib.hid H3
  go_wp2_with fail
  refine H3.out.mono ?_
  rintro e w4 ⟨rfl, X4, I4, hP4, hg4⟩
  have H4 := Lib.hid (c_Clone w4 hP4 aw3_inv (by decide) pl0_ok)
  unfold CloneP ptrV at H4
  go_wp2_with fail
  refine H4.out.mono ?_
  rintro e w5 ⟨cb, X5, I5, rfl, hQ5, hx5, hi5, hb5⟩
  have hb4 : Below w.heap.size w w4 ∧ (∀ b, X4 b → w.heap.size ≤ b) := by
    have b2 := hb1.trans (hg2.kb.below hx1 hw1)
    have x2 : ∀ b, X2 b → w.heap.size ≤ b := fun b hb => (hg2.sx b hb).elim (hx1 b) (fun h => Nat.le_trans hw1 h)
    have b2' := b2.alloc b2.size (.cells #[.int .u8 120, .int .u8 121] 5 (2, 3))
    have b3 := b2'.trans (hg3.kb.below x2 b2'.size)
    have x3 : ∀ b, X3 b → w.heap.size ≤ b := fun b hb => (hg3.sx b hb).elim (x2 b) (fun h => Nat.le_trans b2'.size h)
    exact ⟨b3.trans (hg4.kb.below x3 b3.size), fun b hb => (hg4.sx b hb).elim (x3 b) (fun h => Nat.le_trans b3.size h)⟩
  have Hb4 := Lib.hid hb4
  have hA5 := CloneP.apart hP4 hx5 hi5
  have hP5 := hP4.below hb5
  have H5 := c_SyncDir w5 hQ5 aw3_inv (by decide) pl0_ok
  rw [show Fsy.syncDir aw3.1 = aw4 from rfl] at H5
  unfold UpdP ptrV at H5
  rw [aw4_ok] at H5
  have H5 := Lib.hid H5
  clear hb1 hx1 hi1 hg2 hg3 hg4 hP1 hP2 hP3 hP2' hL2 hl2 hP4 hb4 hcv
  go_wp2_with fail
  refine H5.out.mono ?_
  rintro e w6 ⟨rfl, X6, I6, hQ6, hg6⟩
  have hP6 := hP5.beside hA5 hg6.kb
  have hA6 := hA5.grow hg6 hP5.lt
  have H6 := c_Start w6 hP6 aw3_inv (by decide) pl0_ok (HPl.out w6) (fun q h => h.elim) pl0_ok
  unfold UpdP ptrV plV at H6
  have H6 := Lib.hid H6
  go_wp2_with fail
  refine H6.out.mono ?_
  rintro e w7 ⟨rfl, X7, I7, hP7, hg7⟩
  have hQ7 := hQ6.beside hA6.symm hg7.kb
  have hA7 := (hA6.symm.grow hg7 hQ6.lt).symm
  have H7 := c_Start w7 hQ7 aw4_inv (by decide) pl0_ok (HPl.out w7) (fun q h => h.elim) pl0_ok
  unfold UpdP ptrV plV at H7
  have H7 := Lib.hid H7
  go_wp2_with fail
  refine H7.out.mono ?_
  rintro e w8 ⟨rfl, X8, I8, hQ8, hg8⟩
  have hP8 := hP7.beside hA7 hg8.kb
  have H8 := c_Files w8 hQ8 aw6_inv (by decide)
  rw [show Fsy.start aw4.1 pl0 = aw6 from rfl, aw6_files] at H8
  unfold FilesP ptrV at H8
  simp only [List.length_cons, List.length_nil, Nat.zero_add] at H8
  have H8 := Lib.hid H8
  go_wp2_with fail
  refine H8.out.mono ?_
  rintro e w9 ⟨A, c, FL, rfl, hc, hFL, hR, hok, hb9⟩
  have hP9 := hP8.below hb9
  have H9 := c_Files w9 hP9 aw5_inv (by decide)
  rw [show Fsy.start aw3.1 pl0 = aw5 from rfl, aw5_files] at H9
  unfold FilesP ptrV at H9
  simp only [List.length_nil] at H9
  have H9 := Lib.hid H9
  obtain ⟨x, rfl⟩ : ∃ x, FL = [x] := by
    cases FL with
    | nil => cases hFL
    | cons x FL =>
      cases FL with
      | nil => exact ⟨x, rfl⟩
      | cons y FL => simp at hFL
  have hxd : x.data = [120, 121] := by
    simp only [List.map_cons, List.map_nil, FR.fl, List.cons.injEq, Prod.mk.injEq, and_true] at hFL
    exact hFL.2
  have hox := (hok x List.mem_cons_self).1
  rw [hxd] at hox
  have hox : RdP (fun b => w8.heap.size ≤ b) w9 x.A 2 (bcs [120, 121]) := hox
  obtain ⟨b, o, rfl, hbB, hcell⟩ := rdK_at FR.cs_len hR.rd (k := 0) (Nat.succ_pos _) rfl (by decide)
  have g1 : w9.cell? ⟨b, o + 1, none⟩ = some (.slice x.A 2 x.c) := by
    have := hcell w9 (Below.refl _ _) 1 (.slice x.A x.data.length x.c) rfl
    rw [hxd, Nat.zero_mul, Nat.add_zero] at this
    exact this
  have HR := Lib.hid (fun (W : World) (hb : Below w9.heap.size w9 W) => run_str (P := Tryz.prog) Tryz.underlying28 Tryz.underlying5 Tryz.underlying9 (c := x.c) (RdP.below hox hb).rd)
  clear hR hok hFL hcell hxd hox hc
  go_wp2_with fail
  refine H9.out.mono ?_
  rintro e w10 ⟨A', c', FL', rfl, _, _, _, _, hb10⟩
  have g2 := (hb10.cell (p := ⟨b, o + 1, none⟩) hbB).trans g1
  have hrs := HR.out w10 hb10
  have hlb : b < w10.heap.size := Nat.lt_of_lt_of_le hbB hb10.size
  clear g1 HR
  go_wp2
  go_ret
  have hx5' : ∀ b, X5 b → w.heap.size ≤ b := fun b hb => Nat.le_trans Hb4.out.1.size (hx5 b hb)
  have b5 := Hb4.out.1.trans (hb5.mono Hb4.out.1.size)
  have b6 := b5.trans (hg6.kb.below hx5' b5.size)
  have x6 : ∀ b, X6 b → w.heap.size ≤ b := fun b hb => (hg6.sx b hb).elim (hx5' b) (fun h => Nat.le_trans b5.size h)
  have b7 := b6.trans (hg7.kb.below Hb4.out.2 b6.size)
  have b8 := b7.trans (hg8.kb.below x6 b7.size)
  have b9 := b8.trans (hb9.mono b8.size)
  exact ⟨rfl, b9.trans (hb10.mono b9.size)⟩
end Go.Proofs.YtaanmnplfppdeaaGreat
