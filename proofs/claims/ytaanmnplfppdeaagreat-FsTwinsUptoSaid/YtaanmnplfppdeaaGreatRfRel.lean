/- Layer 1: how the document's file system lies in memory. -/
import Derived.Test.YtaanmnplfppdeaaGreatFsRd
import Derived.Test.YtaanmnplfppdeaaGreatFsC
import Derived.Test.YtaanmnplfppdeaaGreatHeldT
import Derived.Test.YtaanmnplfppdeaaGreatStepK
namespace Go.Fsy
open Go.RowKit Go.Maps Go.Lec
/-- A name's cells in the document's answer. -/
def nmCs (p : Bs × Nat) : List Value := [svl p.1, .int .i64 (p.2 : Int)]
theorem nmCs_len (p : Bs × Nat) : (nmCs p).length = 2 := rfl
theorem nmCs_one (p : Bs × Nat) : ∀ u ∈ nmCs p, u.oneCell' = true := by
  intro u hu
  simp only [nmCs, List.mem_cons, List.not_mem_nil, or_false] at hu
  rcases hu with rfl | rfl <;> rfl
/-- A move's. -/
def rmCs : Mv → List Value
  | .made n i => [.int .i64 1, svl n, svl [], .int .i64 (i : Int)]
  | .ren a b i => [.int .i64 2, svl a, svl b, .int .i64 (i : Int)]
  | .rem a => [.int .i64 3, svl a, svl [], .int .i64 0]
theorem rmCs_len (m : Mv) : (rmCs m).length = 4 := by cases m <;> rfl
theorem rmCs_one (m : Mv) : ∀ u ∈ rmCs m, u.oneCell' = true := by
  intro u hu
  cases m <;> simp only [rmCs, List.mem_cons, List.not_mem_nil, or_false] at hu <;> rcases hu with rfl | rfl | rfl | rfl <;> rfl
/-- A change, with where its bytes lie. -/
structure CR where
  ch : Ch
  A : Option Addr
  c : Nat
def CR.cs (x : CR) : List Value :=
  match x.ch with
  | .add b => [.bool false, .int .i64 0, .slice x.A b.length x.c]
  | .cut n => [.bool true, .int .i64 (n : Int), .slice none 0 0]
theorem CR.cs_len (x : CR) : x.cs.length = 3 := by unfold CR.cs; cases x.ch <;> rfl
theorem CR.cs_one (x : CR) : ∀ u ∈ x.cs, u.oneCell' = true := by
  intro u hu
  unfold CR.cs at hu
  split at hu <;> simp only [List.mem_cons, List.not_mem_nil, or_false] at hu <;> rcases hu with rfl | rfl | rfl <;> rfl
def CR.ok (I : Nat → Prop) (w : World) (x : CR) : Prop := ∀ b, x.ch = .add b → RdP I w x.A b.length (bcs b) ∧ b.length ≤ x.c
/-- A node, with where its parts lie. -/
structure NR where
  sf : Bs
  A : Option Addr
  c : Nat
  L : List CR
  A2 : Option Addr
  c2 : Nat
def NR.nd (x : NR) : Nd := ⟨x.sf, x.L.map CR.ch⟩
def NR.cs (x : NR) : List Value := [.slice x.A x.sf.length x.c, .slice x.A2 x.L.length x.c2]
theorem NR.cs_len (x : NR) : x.cs.length = 2 := rfl
theorem NR.cs_one (x : NR) : ∀ u ∈ x.cs, u.oneCell' = true := by
  intro u hu
  simp only [NR.cs, List.mem_cons, List.not_mem_nil, or_false] at hu
  rcases hu with rfl | rfl <;> rfl
structure NR.ok (I : Nat → Prop) (w : World) (x : NR) : Prop where
  sf : RdP I w x.A x.sf.length (bcs x.sf)
  ch : RdKP I w 3 x.A2 x.L.length (x.L.flatMap CR.cs)
  all : ∀ y ∈ x.L, y.ok I w
  le : x.sf.length ≤ x.c
section
variable {X I I' : Nat → Prop} {w w' : World}
theorem CR.ok.kbP {x : CR} (h : x.ok I w) (hk : KbP X w w') (hI : ∀ b, I b → ¬ X b) : x.ok I w' := fun b hb => ⟨(h b hb).1.kbP hk hI, (h b hb).2⟩
theorem CR.ok.more {x : CR} (h : x.ok I w) (hI : ∀ b, I b → I' b) : x.ok I' w := fun b hb => ⟨(h b hb).1.more hI, (h b hb).2⟩
theorem NR.ok.kbP {x : NR} (h : x.ok I w) (hk : KbP X w w') (hI : ∀ b, I b → ¬ X b) : x.ok I w' := ⟨h.sf.kbP hk hI, h.ch.kbP hk hI, fun y hy => (h.all y hy).kbP hk hI, h.le⟩
theorem NR.ok.more {x : NR} (h : x.ok I w) (hI : ∀ b, I b → I' b) : x.ok I' w := ⟨h.sf.more hI, h.ch.more hI, fun y hy => (h.all y hy).more hI, h.le⟩
theorem NR.ok.below {x : NR} (h : x.ok I w) (hb : Below w.heap.size w w') : x.ok I w' := h.kbP (X := fun _ => False) (KbP.of_below hb) (fun _ _ h => h)
end
/-- Where its parts lie. -/
structure RGeo where
  AK : Option Addr
  cK : Nat
  AF : Option Addr
  cF : Nat
  AU : Option Addr
  cU : Nat
  nv : Value
  NL : List NR
  dA : Option Addr
  dc : Nat
  sA : Option Addr
  sc : Nat
  mv : Value
end Go.Fsy
namespace Go.Proofs.YtaanmnplfppdeaaGreat
open Go.RowKit Go.Lec Go.Fsy
/-- Its cells. -/
def rfCs (s : St) (R : RGeo) : Array Value :=
  #[.int .i64 s.pl.crash, .slice R.AK s.pl.keep.length R.cK, .slice R.AF s.pl.fail.length R.cF, .slice R.AU s.pl.full.length R.cU, .int .i64 s.pl.room, .int .i64 (s.cnt : Int), .bool s.died, R.nv, .slice R.dA s.dir.length R.dc, .slice R.sA s.safe.length R.sc, R.mv]
/-- The document's file system, of which Y may turn and J is read. -/
structure RfG (Y J : Nat → Prop) (w : World) (rb : Nat) (s : St) (R : RGeo) : Prop where
  bk : Bk w rb 95 (rfCs s R)
  rk : RdP J w R.AK s.pl.keep.length (ics s.pl.keep)
  rf : RdP J w R.AF s.pl.fail.length (ics s.pl.fail)
  ru : RdP J w R.AU s.pl.full.length (ics s.pl.full)
  nk : s.pl.keep.length ≤ R.cK
  nf : s.pl.fail.length ≤ R.cF
  nu : s.pl.full.length ≤ R.cU
  nodes : OwnK w 0 99 2 R.nv s.nodes.length (R.NL.flatMap NR.cs)
  nl : R.NL.map NR.nd = s.nodes
  nok : ∀ x ∈ R.NL, x.ok J w
  dir : RdKP J w 2 R.dA s.dir.length (s.dir.flatMap nmCs)
  safe : RdKP J w 2 R.sA s.safe.length (s.safe.flatMap nmCs)
  mvs : OwnK w 0 143 4 R.mv s.mvs.length (s.mvs.flatMap rmCs)
  yrb : Y rb
  ynv : ∀ g, R.nv.ownBlock = some g → Y g
  ymv : ∀ g, R.mv.ownBlock = some g → Y g
  yj : ∀ b, J b → ¬ Y b
  lt : ∀ b, Y b ∨ J b → b < w.heap.size
def RfP (Y J : Nat → Prop) (w : World) (rb : Nat) (s : St) : Prop := ∃ R, RfG Y J w rb s R
theorem RfG.kbP {Y J X : Nat → Prop} {w w' : World} {rb : Nat} {s : St} {R : RGeo} (h : RfG Y J w rb s R) (hk : KbP X w w') (hX : ∀ b, Y b → ¬ X b) (hI : ∀ b, J b → ¬ X b) : RfG Y J w' rb s R where
  bk := h.bk.kbP hk (hX _ h.yrb)
  rk := h.rk.kbP hk hI
  rf := h.rf.kbP hk hI
  ru := h.ru.kbP hk hI
  nk := h.nk
  nf := h.nf
  nu := h.nu
  nodes := OwnK.kbP h.nodes hk fun g hg => hX _ (h.ynv g hg)
  nl := h.nl
  nok := fun x hx => (h.nok x hx).kbP hk hI
  dir := h.dir.kbP hk hI
  safe := h.safe.kbP hk hI
  mvs := OwnK.kbP h.mvs hk fun g hg => hX _ (h.ymv g hg)
  yrb := h.yrb
  ynv := h.ynv
  ymv := h.ymv
  yj := h.yj
  lt := fun b hb => Nat.lt_of_lt_of_le (h.lt b hb) hk.size
theorem RfG.below {Y J : Nat → Prop} {w w' : World} {rb : Nat} {s : St} {R : RGeo} (h : RfG Y J w rb s R) (hb : Below w.heap.size w w') : RfG Y J w' rb s R :=
  h.kbP (X := fun _ => False) (KbP.of_below hb) (fun _ _ h => h) (fun _ _ h => h)
theorem RfP.kbP {Y J X : Nat → Prop} {w w' : World} {rb : Nat} {s : St} (h : RfP Y J w rb s) (hk : KbP X w w') (hX : ∀ b, Y b → ¬ X b) (hI : ∀ b, J b → ¬ X b) : RfP Y J w' rb s := by
  obtain ⟨R, hR⟩ := h
  exact ⟨R, hR.kbP hk hX hI⟩
theorem RfP.below {Y J : Nat → Prop} {w w' : World} {rb : Nat} {s : St} (h : RfP Y J w rb s) (hb : Below w.heap.size w w') : RfP Y J w' rb s := by
  obtain ⟨R, hR⟩ := h
  exact ⟨R, hR.below hb⟩
theorem RfG.nlen {Y J : Nat → Prop} {w : World} {rb : Nat} {s : St} {R : RGeo} (h : RfG Y J w rb s R) : R.NL.length = s.nodes.length := by rw [← h.nl, List.length_map]
theorem RfG.ndAt {Y J : Nat → Prop} {w : World} {rb i : Nat} {s : St} {R : RGeo} (h : RfG Y J w rb s R) (hi : i < s.nodes.length) : ∃ x, R.NL[i]? = some x ∧ x.nd = ndAt s.nodes i ∧ x.ok J w := by
  have hl := h.nlen
  have hx : R.NL[i]? = some (R.NL[i]'(by omega)) := List.getElem?_eq_getElem (by omega)
  refine ⟨_, hx, ?_, h.nok _ (List.getElem_mem _)⟩
  rw [← h.nl]
  simp [Fsy.ndAt, List.getD_eq_getElem?_getD, hx]
/-- What an operation of the document's leaves. -/
def RupP (Y J : Nat → Prop) (w : World) (rb : Nat) (r : St × Int) (e : Ending) (w' : World) : Prop := e = .returned (.int .i64 r.2) ∧ ∃ Y' J', RfP Y' J' w' rb r.1 ∧ Grow Y J w Y' J' w'
end Go.Proofs.YtaanmnplfppdeaaGreat
/- Layer 1: the document's file system: bytes, plans and names: the walks. -/
namespace Go.Fsy
open Go.RowKit Go.Maps Go.Lec
/-- Where a name stands; -1: nowhere. -/
def findI (l : Dir) (n : Bs) : Int := match l.findIdx? (fun p => p.1 == n) with | none => -1 | some k => (k : Int)
theorem findI_some {l : Dir} {n : Bs} {k : Nat} (hk : k < l.length) (hb : (l.take k).all (fun p => p.1 != n) = true) (he : (l[k].1 == n) = true) : findI l n = (k : Int) := by
  unfold findI
  have : l.findIdx? (fun p => p.1 == n) = some k := by
    rw [List.findIdx?_eq_some_iff_getElem]
    refine ⟨hk, he, fun j hj => ?_⟩
    have hm : l[j] ∈ l.take k := by
      rw [List.mem_take_iff_getElem]
      exact ⟨j, by omega, rfl⟩
    have := List.all_eq_true.1 hb _ hm
    simpa using this
  rw [this]
theorem findI_none {l : Dir} {n : Bs} (hb : l.all (fun p => p.1 != n) = true) : findI l n = -1 := by
  unfold findI
  have : l.findIdx? (fun p => p.1 == n) = none := by
    rw [List.findIdx?_eq_none_iff]
    intro p hp
    have := List.all_eq_true.1 hb _ hp
    simpa using this
  rw [this]
/-- The number of a name's file; -1: there is none. -/
def nodeI (l : Dir) (n : Bs) : Int := match node l n with | none => -1 | some i => (i : Int)
theorem find_node (l : Dir) (n : Bs) : (node l n = none ∧ findI l n = -1) ∨ ∃ k, ∃ h : k < l.length, findI l n = (k : Int) ∧ node l n = some l[k].2 ∧ l[k].1 = n := by
  unfold findI node
  cases hf : l.findIdx? (fun p => p.1 == n) with
  | none =>
    left
    rw [List.findIdx?_eq_none_iff] at hf
    refine ⟨?_, rfl⟩
    rw [Option.map_eq_none_iff, List.find?_eq_none]
    intro p hp
    simp [hf p hp]
  | some k =>
    right
    obtain ⟨hk, he, hlt⟩ := List.findIdx?_eq_some_iff_getElem.1 hf
    refine ⟨k, hk, rfl, ?_, by simpa using he⟩
    have : l.find? (fun p => p.1 == n) = some l[k] := by
      rw [List.find?_eq_some_iff_getElem]
      exact ⟨he, k, hk, rfl, fun j hj => by have := hlt j hj; simpa using this⟩
    rw [this]; rfl
theorem all_snoc {l : Dir} {n : Bs} {k : Nat} (hk : k < l.length) (hb : (l.take k).all (fun p => p.1 != n) = true) (he : (l[k].1 == n) = false) : (l.take (k + 1)).all (fun p => p.1 != n) = true := by
  rw [List.take_succ_eq_append_getElem hk, List.all_append, hb]
  simp [bne, he]
end Go.Fsy
namespace Go.Proofs.YtaanmnplfppdeaaGreat
open Go.RowKit Go.Lec Go.Fsy Go.Op Go.Maps
theorem infoNm : (Tryz.prog.info? 139).map (fun i => (i.zero, i.size, i.bytes)) = some (some (.agg #[.string ⟨#[]⟩, .int .i64 0]), 2, 24) := by kernel_rfl
theorem slnm : SlK Tryz.prog 92 139 (.agg #[.string ⟨#[]⟩, .int .i64 0]) 24 2 := ⟨Tryz.underlying92, info_parts infoNm, rfl, by decide⟩
theorem infoNo : (Tryz.prog.info? 99).map (fun i => (i.zero, i.size, i.bytes)) = some (some (.agg #[.slice none 0 0, .slice none 0 0]), 2, 48) := by kernel_rfl
theorem slno : SlK Tryz.prog 91 99 (.agg #[.slice none 0 0, .slice none 0 0]) 48 2 := ⟨Tryz.underlying91, info_parts infoNo, rfl, by decide⟩
theorem infoCg : (Tryz.prog.info? 141).map (fun i => (i.zero, i.size, i.bytes)) = some (some (.agg #[.bool false, .int .i64 0, .slice none 0 0]), 3, 40) := by kernel_rfl
theorem slcg : SlK Tryz.prog 97 141 (.agg #[.bool false, .int .i64 0, .slice none 0 0]) 40 3 := ⟨Tryz.underlying97, info_parts infoCg, rfl, by decide⟩
theorem infoRm : (Tryz.prog.info? 143).map (fun i => (i.zero, i.size, i.bytes)) = some (some (.agg #[.int .i64 0, .string ⟨#[]⟩, .string ⟨#[]⟩, .int .i64 0]), 4, 48) := by kernel_rfl
theorem slrm : SlK Tryz.prog 93 143 (.agg #[.int .i64 0, .string ⟨#[]⟩, .string ⟨#[]⟩, .int .i64 0]) 48 4 := ⟨Tryz.underlying93, info_parts infoRm, rfl, by decide⟩
/-- Bytes in new memory, owned. -/
def TwB (w : World) (b : Bs) (e : Ending) (w' : World) : Prop :=
  ∃ A c, e = .returned (.slice A b.length c) ∧ b.length ≤ c ∧ Lec.Own w' w.heap.size 5 (.slice A b.length c) (bcs b) ∧ Below w.heap.size w w'
set_option maxRecDepth 40000 in
theorem c_rTwin (w : World) {B c n : Nat} {A : Option Addr} {b : Bs} (hr : Rd w B A n (bcs b)) (hn : n ≤ 1099511627776) :
    Calls Tryz.prog 80 #[.slice A n c] w (TwB w b) := by
  have hln := hr.1
  rw [bcs_length] at hln
  subst hln
  have Hln := Lib.hid (bcs_length b)
  have h0 := Lec.Own.nil_ w w.heap.size 5
  go_enter Tryz.func80, Tryz.ntmps80
  go_wp2_with (first | (at_builtin; (refine wpList_app_sl rfl _ _ rfl slb (by decide) rfl h0 (Below.refl _ _) (Nat.le_refl _) rfl hr bcs_one (by rw [List.length_nil]; omega) ?_); intro v1 w1 ho1 hb1 hs1; rw [List.nil_append] at ho1; obtain ⟨A1, c1, rfl, hc1⟩ := ho1.shapeN (n := b.length) Hln.out))
  go_ret
  exact ⟨A1, c1, rfl, hc1, ho1, hb1⟩
set_option maxRecDepth 100000 in
set_option maxHeartbeats 1600000 in
theorem c_rPlan (w : World) {I : Nat → Prop} {p : Pl} {AK AF AU : Option Addr} {cK cF cU : Nat} (h : PlOk I w p AK cK AF cF AU cU) (n1 : p.keep.length ≤ 1099511627776) (n2 : p.fail.length ≤ 1099511627776) (n3 : p.full.length ≤ 1099511627776) :
    Calls Tryz.prog 45 #[plV p AK cK AF cF AU cU] w (TwinP w p) := by
  have HK := Lib.hid (ics_length p.keep)
  have HF := Lib.hid (ics_length p.fail)
  have HU := Lib.hid (ics_length p.full)
  obtain ⟨kn, hkn⟩ : ∃ x, x = p.keep.length := ⟨_, rfl⟩
  obtain ⟨fn, hfn⟩ : ∃ x, x = p.fail.length := ⟨_, rfl⟩
  obtain ⟨un, hun⟩ : ∃ x, x = p.full.length := ⟨_, rfl⟩
  have h1 := h.rk.rd
  have h2 := h.rf.rd
  have h3 := h.ru.rd
  clear h
  unfold plV
  rw [← hkn] at n1 h1 HK ⊢
  rw [← hfn] at n2 h2 HF ⊢
  rw [← hun] at n3 h3 HU ⊢
  have Hkn := Lib.hid hkn
  have Hfn := Lib.hid hfn
  have Hun := Lib.hid hun
  clear hkn hfn hun
  have K0 := (Bk.new_ w 24 #[.int .i64 p.crash, .slice AK kn cK, .slice AF fn cF, .slice AU un cU, .int .i64 p.room]).alloc (.cells #[.int .i64 0, .slice none 0 0, .slice none 0 0, .slice none 0 0, .int .i64 0] 24)
  have Z0 := Bk.new_ (w.alloc (.cells #[.int .i64 p.crash, .slice AK kn cK, .slice AF fn cF, .slice AU un cU, .int .i64 p.room] 24)) 24 #[.int .i64 0, .slice none 0 0, .slice none 0 0, .slice none 0 0, .int .i64 0]
  rw [World.size_alloc] at Z0
  have b0 : Below w.heap.size w ((w.alloc (.cells #[.int .i64 p.crash, .slice AK kn cK, .slice AF fn cF, .slice AU un cU, .int .i64 p.room] 24)).alloc (.cells #[.int .i64 0, .slice none 0 0, .slice none 0 0, .slice none 0 0, .int .i64 0] 24)) := ((Below.refl _ _).alloc (Nat.le_refl _) _).alloc (by simp) _
  have s0 : ((w.alloc (.cells #[.int .i64 p.crash, .slice AK kn cK, .slice AF fn cF, .slice AU un cU, .int .i64 p.room] 24)).alloc (.cells #[.int .i64 0, .slice none 0 0, .slice none 0 0, .slice none 0 0, .int .i64 0] 24)).heap.size = w.heap.size + 1 + 1 := by simp
  have r1 := h1.below b0 (Nat.le_refl _)
  go_enter Tryz.func45, Tryz.ntmps45
  go_wp2_with (first
    | (at_builtin; (refine wpList_app_rd (base := w.heap.size + 1 + 1) rfl _ _ rfl sln rfl (Lec.Own.nil_ _ _ _) rfl r1 ics_one (by rw [List.length_nil]; omega) (by decide) (by simp) ?_); intro v1 w1 ho1 hb1 hg1; have kg1 := KbP.of_grown (X := fun _ => False) hg1 (fun g e => by cases e); clear hg1; have hs1 : w.heap.size + 1 + 1 ≤ w1.heap.size := (by have := hb1.size; rw [s0] at this; exact this); rw [List.nil_append] at ho1; obtain ⟨A1, c1, rfl, hc1⟩ := ho1.shapeN (n := kn) HK.out; have K1 := K0.below hb1 (by omega); have Z1 := Z0.below hb1 (by omega); have q1 := K1.cell; have z1 := K1.frz; have r2 := (h2.below b0 (Nat.le_refl _)).below ((hb1.mono (show w.heap.size ≤ w.heap.size + 1 + 1 by omega)).setCell (p := ⟨w.heap.size, 1, none⟩) (Nat.le_refl _) (.slice A1 kn c1)) (Nat.le_refl _))
    | (at_builtin; (refine wpList_app_rd (base := w.heap.size + 1 + 1) rfl _ _ rfl sln rfl (Lec.Own.nil_ _ _ _) rfl r2 ics_one (by rw [List.length_nil]; omega) (by decide) (by simp; omega) ?_); intro v2 w2 ho2 hb2 hg2; have kg2 := KbP.of_grown (X := fun _ => False) hg2 (fun g e => by cases e); clear hg2; have hs2 : w.heap.size + 1 + 1 ≤ w2.heap.size := (by have h9 := hb2.size; simp at h9; omega); rw [List.nil_append] at ho2; obtain ⟨A2, c2, rfl, hc2⟩ := ho2.shapeN (n := fn) HF.out; have K2 := (K1.set_ 1 (.slice A1 kn c1)).below hb2 (by omega); have q2 := K2.cell; have z2 := K2.frz; have Z2 := (Z1.far (p := ⟨w.heap.size, 1, none⟩) (by simp) (.slice A1 kn c1)).below hb2 (by omega); have r3 := ((h3.below b0 (Nat.le_refl _)).below ((hb1.mono (show w.heap.size ≤ w.heap.size + 1 + 1 by omega)).setCell (p := ⟨w.heap.size, 1, none⟩) (Nat.le_refl _) (.slice A1 kn c1)) (Nat.le_refl _)).below ((hb2.mono (show w.heap.size ≤ w.heap.size + 1 + 1 by omega)).setCell (p := ⟨w.heap.size, 2, none⟩) (Nat.le_refl _) (.slice A2 fn c2)) (Nat.le_refl _))
    | (at_builtin; (refine wpList_app_rd (base := w.heap.size + 1 + 1) rfl _ _ rfl sln rfl (Lec.Own.nil_ _ _ _) rfl r3 ics_one (by rw [List.length_nil]; omega) (by decide) (by simp; omega) ?_); intro v3 w3 ho3 hb3 hg3; have kg3 := KbP.of_grown (X := fun _ => False) hg3 (fun g e => by cases e); clear hg3; have hs3 : w.heap.size + 1 + 1 ≤ w3.heap.size := (by have h9 := hb3.size; simp at h9; omega); rw [List.nil_append] at ho3; obtain ⟨A3, c3, rfl, hc3⟩ := ho3.shapeN (n := un) HU.out; have K3 := (K2.set_ 2 (.slice A2 fn c2)).below hb3 (by omega); have q3 := K3.cell; have z3 := K3.frz; have Z3 := (Z2.far (p := ⟨w.heap.size, 2, none⟩) (by simp) (.slice A2 fn c2)).below hb3 (by omega); have qz := Z3.cell; have zz := Z3.frz))
  have Zf := (((((Z3.far (p := ⟨w.heap.size, 3, none⟩) (by simp) (.slice A3 un c3)).set_ 0 (.int .i64 p.crash)).set_ 1 (.slice A1 kn c1)).set_ 2 (.slice A2 fn c2)).set_ 3 (.slice A3 un c3)).set_ 4 (.int .i64 p.room)
  have qf := Zf.cell
  have k7 : KbP (fun b => b = w.heap.size ∨ b = w.heap.size + 1) w3 ((((((w3.setCell ⟨w.heap.size, 3, none⟩ (.slice A3 un c3)).setCell ⟨w.heap.size + 1, 0, none⟩ (.int .i64 p.crash)).setCell ⟨w.heap.size + 1, 1, none⟩ (.slice A1 kn c1)).setCell ⟨w.heap.size + 1, 2, none⟩ (.slice A2 fn c2)).setCell ⟨w.heap.size + 1, 3, none⟩ (.slice A3 un c3)).setCell ⟨w.heap.size + 1, 4, none⟩ (.int .i64 p.room)) :=
    ((((((KbP.refl _ w3).setCell (p := ⟨w.heap.size, 3, none⟩) (.inl (.inl rfl)) _).setCell (p := ⟨w.heap.size + 1, 0, none⟩) (.inl (.inr rfl)) _).setCell (p := ⟨w.heap.size + 1, 1, none⟩) (.inl (.inr rfl)) _).setCell (p := ⟨w.heap.size + 1, 2, none⟩) (.inl (.inr rfl)) _).setCell (p := ⟨w.heap.size + 1, 3, none⟩) (.inl (.inr rfl)) _).setCell (p := ⟨w.heap.size + 1, 4, none⟩) (.inl (.inr rfl)) _
  obtain ⟨W7, hW7⟩ : ∃ W, W = ((((((w3.setCell ⟨w.heap.size, 3, none⟩ (.slice A3 un c3)).setCell ⟨w.heap.size + 1, 0, none⟩ (.int .i64 p.crash)).setCell ⟨w.heap.size + 1, 1, none⟩ (.slice A1 kn c1)).setCell ⟨w.heap.size + 1, 2, none⟩ (.slice A2 fn c2)).setCell ⟨w.heap.size + 1, 3, none⟩ (.slice A3 un c3)).setCell ⟨w.heap.size + 1, 4, none⟩ (.int .i64 p.room)) := ⟨_, rfl⟩
  rw [← hW7] at k7 qf ⊢
  have k37 : KbP (fun b => b = w.heap.size ∨ b = w.heap.size + 1) w2 W7 := (((KbP.refl _ w2).setCell (p := ⟨w.heap.size, 2, none⟩) (.inl (.inl rfl)) _).trans kg3 (fun _ h => h.elim)).trans k7 (fun _ h => .inl h)
  have k27 : KbP (fun b => b = w.heap.size ∨ b = w.heap.size + 1) w1 W7 := (((KbP.refl _ w1).setCell (p := ⟨w.heap.size, 1, none⟩) (.inl (.inl rfl)) _).trans kg2 (fun _ h => h.elim)).trans k37 (fun _ h => .inl h)
  have k07 : KbP (fun b => b = w.heap.size ∨ b = w.heap.size + 1) ((w.alloc (.cells #[.int .i64 p.crash, .slice AK kn cK, .slice AF fn cF, .slice AU un cU, .int .i64 p.room] 24)).alloc (.cells #[.int .i64 0, .slice none 0 0, .slice none 0 0, .slice none 0 0, .int .i64 0] 24)) W7 := (kg1.more (fun _ h => h.elim)).trans k27 (fun _ h => .inl h)
  have bf : Below w.heap.size w W7 := b0.trans (k07.below (fun b h => by omega) (by omega))
  have lie : ∀ {W : World} {A : Option Addr} {n c : Nat} {xs : List Int}, KbP (fun b => b = w.heap.size ∨ b = w.heap.size + 1) W W7 → Lec.Own W (w.heap.size + 1 + 1) 3 (.slice A n c) (ics xs) → xs.length = n → RdP (fun b => w.heap.size ≤ b) W7 A xs.length (ics xs) := fun {W A n c xs} hk ho hl => by
    subst hl
    unfold Lec.Own at ho
    rw [ics_length] at ho
    have h1 := RdP.new_ ho
    exact (h1.kbP hk (fun b hb e => by omega)).more (fun b hb => by omega)
  have hP : PlOk (fun b => w.heap.size ≤ b) W7 p A1 c1 A2 c2 A3 c3 :=
    ⟨lie k27 ho1 Hkn.out.symm, lie k37 ho2 Hfn.out.symm, lie k7 ho3 Hun.out.symm, by rw [← Hkn.out]; exact hc1, by rw [← Hfn.out]; exact hc2, by rw [← Hun.out]; exact hc3⟩
  refine bodyPost_ret (v := plV p A1 c1 A2 c2 A3 c3) ?_ rfl ⟨_, _, _, _, _, _, rfl, hP, bf⟩
  unfold plV
  rw [← Hkn.out, ← Hfn.out, ← Hun.out]
  clear hW7 hP k7 k37 k27 k07
  simp [results, Tryz.results45, go_sem, qf]
set_option maxRecDepth 40000 in
set_option maxHeartbeats 800000 in
theorem c_find (w : World) {J : Nat → Prop} {A : Option Addr} {c : Nat} {l : Dir} {n : Bs} (h : RdKP J w 2 A l.length (l.flatMap nmCs)) (hl : l.length ≤ 1099511627776) :
    Calls Tryz.prog 79 #[.slice A l.length c, .string ⟨n.toArray⟩] w fun e w' => e = .returned (.int .i64 (findI l n)) ∧ Below w.heap.size w w' := by
  obtain ⟨v, hv⟩ : ∃ v, v = findI l n := ⟨_, rfl⟩
  obtain ⟨ln, hln⟩ : ∃ x, x = l.length := ⟨_, rfl⟩
  have Hln := Lib.hid hln
  have Hv := Lib.hid hv
  have hr := h.rd
  rw [← hv]
  rw [← hln] at hr hl ⊢
  clear hv h hln
  go_enter Tryz.func79, Tryz.ntmps79
  go_wp2
  go_loopw [9] (fun i wr => ∃ k : Nat, k ≤ ln ∧ i = .int .i64 (k : Int) ∧ (l.take k).all (fun p => p.1 != n) = true ∧ Below w.heap.size w wr) (fun i _ => ln - (intOf i).toNat)
  case atStart => exact ⟨0, Nat.zero_le _, rfl, rfl, Below.refl _ _⟩
  case round =>
    obtain ⟨k, hk, rfl, hall, hb⟩ := hrel
    by_cases hlt : k < ln
    · have hlt' : k < l.length := by have := Hln.out; omega
      obtain ⟨b, o, rfl, hbB, hcell⟩ := rdK_at nmCs_len hr hlt' Hln.out.symm (by decide)
      have g0 : wr.cell? ⟨b, o + k * 2, none⟩ = _ := hcell wr hb 0 _ rfl
      have g1 := hcell wr hb 1 _ rfl
      have hbk := Bk.new_ wr 139 #[svl l[k].1, .int .i64 (l[k].2 : Int)]
      have qk := hbk.cell
      have hsz := hb.size
      have hb1 := hb.alloc hb.size (.cells #[svl l[k].1, .int .i64 (l[k].2 : Int)] 139)
      have hblt : b < wr.heap.size := by omega
      have HA := Lib.hid (fun he => all_snoc hlt' hall he)
      have HS := Lib.hid (fun he => findI_some hlt' hall he)
      obtain ⟨x, hx⟩ : ∃ x, x = l[k].1 := ⟨_, rfl⟩
      obtain ⟨y, hy⟩ : ∃ x, x = l[k].2 := ⟨_, rfl⟩
      rw [← hx] at g0 qk hb1 HA HS
      rw [← hy] at g1 qk hb1
      unfold svl at *
      clear hall hcell hx hy hbk
      by_cases he : (x == n) = true
      · go_wp2
        go_ret
        exact ⟨by rw [Hv.out, HS.out he]; rfl, hb1⟩
      · have he' : (x == n) = false := by simpa using he
        clear he
        go_wp2
        go_roundw
        case rel => exact ⟨k + 1, by omega, by go_num, HA.out he', hb1⟩
        case measure => simp [intOf]; omega
    · obtain rfl : k = ln := by omega
      rw [Hln.out, List.take_length] at hall
      go_wp2
      go_ret
      exact ⟨by rw [Hv.out, findI_none hall]; rfl, hb⟩
set_option maxRecDepth 40000 in
set_option maxHeartbeats 800000 in
theorem c_has (w : World) {B c : Nat} {A : Option Addr} {l : List Int} (x : Int) (hr : Rd w B A l.length (ics l)) (_hB : B ≤ w.heap.size) (hl : l.length ≤ 1099511627776) :
    Calls Tryz.prog 93 #[.slice A l.length c, .int .i64 x] w fun e w' => e = .returned (.bool (l.contains x)) ∧ w = w' := by
  obtain ⟨v, hv⟩ : ∃ v, v = l.contains x := ⟨_, rfl⟩
  obtain ⟨ln, hln⟩ : ∃ x, x = l.length := ⟨_, rfl⟩
  have Hln := Lib.hid hln
  have Hv := Lib.hid hv
  rw [← hv]
  rw [← hln] at hr hl ⊢
  clear hv hln
  go_enter Tryz.func93, Tryz.ntmps93
  go_wp2
  go_loop [9] (fun i => ∃ k : Nat, k ≤ ln ∧ i = .int .i64 (k : Int) ∧ (l.take k).contains x = false) (fun i => ln - (intOf i).toNat)
  case atStart => exact ⟨0, Nat.zero_le _, rfl, rfl⟩
  case round =>
    obtain ⟨k, hk, rfl, hall⟩ := hrel
    by_cases hlt : k < ln
    · have hlt' : k < l.length := by have := Hln.out; omega
      obtain ⟨b, o, rfl, hbB, hcell⟩ := hr.2 (by omega)
      have g0 : w.cell? ⟨b, o + k, none⟩ = some (.int .i64 l[k]) := hcell k _ (by simp [ics, hlt'])
      have htk := List.take_succ_eq_append_getElem hlt'
      have HA := Lib.hid (fun (he : (l[k] == x) = false) => show (l.take (k + 1)).contains x = false by
        rw [htk, List.contains_append, hall]; simp at he ⊢; exact fun h => he h.symm)
      have HS := Lib.hid (fun (he : (l[k] == x) = true) => show l.contains x = true by
        rw [List.contains_iff_mem]; have := List.getElem_mem hlt'; simp at he; rwa [he] at this)
      obtain ⟨y, hy⟩ : ∃ y, y = l[k] := ⟨_, rfl⟩
      rw [← hy] at g0 HA HS
      clear hall hcell htk hy
      by_cases he : (y == x) = true
      · go_wp2
        go_ret
        exact ⟨by rw [Hv.out, HS.out he]; rfl, rfl⟩
      · have he' : (y == x) = false := by simpa using he
        clear he
        go_wp2
        go_round
        case rel => exact ⟨k + 1, by omega, by go_num, HA.out he'⟩
        case measure => simp [intOf]; omega
    · obtain rfl : k = ln := by omega
      rw [Hln.out, List.take_length] at hall
      go_wp2
      go_ret
      exact ⟨by rw [Hv.out, hall]; rfl, rfl⟩
end Go.Proofs.YtaanmnplfppdeaaGreat
/- Layer 1: the document's file system: names without one, names with a move done: the walks. -/
namespace Go.Fsy
theorem without_take {l : Dir} {n : Bs} {k : Nat} (h : k < l.length) : without (l.take (k + 1)) n = without (l.take k) n ++ (if (l[k].1 != n) = true then [l[k]] else []) := by
  rw [List.take_succ_eq_append_getElem h]
  unfold without
  rw [List.filter_append]
  congr 1
  by_cases hc : (l[k].1 != n) = true <;> simp [hc]
end Go.Fsy
namespace Go.Proofs.YtaanmnplfppdeaaGreat
open Go.RowKit Go.Lec Go.Fsy Go.Op Go.Maps
/-- A directory in new memory, owned. -/
def DirP (w : World) (l : Dir) (e : Ending) (w' : World) : Prop :=
  ∃ A c, e = .returned (.slice A l.length c) ∧ l.length ≤ c ∧ OwnK w' w.heap.size 139 2 (.slice A l.length c) l.length (l.flatMap nmCs) ∧ Below w.heap.size w w'
set_option maxRecDepth 40000 in
set_option maxHeartbeats 1600000 in
theorem c_without (w : World) {B : Nat} {A : Option Addr} {c : Nat} {l : Dir} {n : Bs} (hr : RdK w B 2 A l.length (l.flatMap nmCs)) (hB : B ≤ w.heap.size) (hl : l.length ≤ 1073741824) :
    Calls Tryz.prog 94 #[.slice A l.length c, .string ⟨n.toArray⟩] w (DirP w (without l n)) := by
  obtain ⟨ln, hln⟩ : ∃ x, x = l.length := ⟨_, rfl⟩
  have Hln := Lib.hid hln
  obtain ⟨R, hR⟩ : ∃ R, R = without l n := ⟨_, rfl⟩
  rw [← hR]
  have HR := Lib.hid hR
  rw [← hln] at hr hl ⊢
  clear hln hR
  go_enter Tryz.func94, Tryz.ntmps94
  go_wp2
  go_loopw [5, 10] (fun v i wr => ∃ k : Nat, k ≤ ln ∧ i = .int .i64 (k : Int) ∧ OwnK wr w.heap.size 139 2 v (without (l.take k) n).length ((without (l.take k) n).flatMap nmCs) ∧ Below w.heap.size w wr) (fun _ i _ => ln - (intOf i).toNat)
  case atStart => exact ⟨0, Nat.zero_le _, rfl, OwnK.nil_ _ _ _ _, Below.refl _ _⟩
  case round =>
    obtain ⟨k, hk, rfl, ho, hb⟩ := hrel
    by_cases hlt : k < ln
    · have hlt' : k < l.length := by have := Hln.out; omega
      obtain ⟨b, o, rfl, hbB, hcell⟩ := rdK_at nmCs_len hr hlt' Hln.out.symm (by decide)
      have g0 : wr.cell? ⟨b, o + k * 2, none⟩ = _ := hcell wr (hb.mono hB) 0 _ rfl
      have g1 := hcell wr (hb.mono hB) 1 _ rfl
      have hbk := Bk.new_ wr 139 #[svl l[k].1, .int .i64 (l[k].2 : Int)]
      have qk := hbk.cell
      have hsz := hb.size
      have hb1 := hb.alloc hb.size (.cells #[svl l[k].1, .int .i64 (l[k].2 : Int)] 139)
      have hwt := without_take (n := n) hlt'
      have hlW : (without (l.take k) n).length ≤ k := by have := (without_sub (l.take k) n).length_le; rw [List.length_take] at this; omega
      obtain ⟨As, cs, rfl, hcs⟩ := ho.shape
      obtain ⟨L', hL'⟩ : ∃ x, x = without (l.take k) n := ⟨_, rfl⟩
      obtain ⟨x, hx⟩ : ∃ x, x = l[k].1 := ⟨_, rfl⟩
      obtain ⟨y, hy⟩ : ∃ x, x = l[k].2 := ⟨_, rfl⟩
      have hxy : l[k] = (x, y) := by rw [hx, hy]
      rw [← hL'] at hwt ho hcs hlW ⊢
      rw [hxy] at g0 g1 qk hb1 hwt
      have hblt : b < wr.heap.size := by omega
      have HoA := Lib.hid (ho.alloc (.cells #[svl x, .int .i64 (y : Int)] 139))
      have Hb1 := Lib.hid hb1
      unfold svl at *
      clear hcell hbk hxy hx hy hL' ho
      by_cases he : (x != n) = true
      · have hwt' : without (l.take (k + 1)) n = L' ++ [(x, y)] := by rw [hwt]; simp [he]
        have Hwt := Lib.hid hwt'
        clear hwt hwt'
        have he' : (x == n) = false := by simpa [bne] using he
        clear he
        go_wp2_with (first | (at_builtin; (refine wpList_appK_new rfl _ _ rfl slnm (by decide) rfl HoA.out Hb1.out Hb1.out.size (by rw [World.size_alloc]; rfl) (news := [.string ⟨x.toArray⟩, .int .i64 (y : Int)]) rfl (by intro u hu; simp only [List.mem_cons, List.not_mem_nil, or_false] at hu; rcases hu with rfl | rfl <;> rfl) (by omega) ?_); intro v1 w1 ho1 hb2 hg1 hat1 hs1))
        go_roundw
        case rel => exact ⟨k + 1, by omega, by go_num, by rw [Hwt.out, List.length_append, List.flatMap_append]; simpa [nmCs, svl] using ho1, hb2⟩
        case measure => simp [intOf]; omega
      · have hwt' : without (l.take (k + 1)) n = L' := by rw [hwt]; simp [he]
        have Hwt := Lib.hid hwt'
        clear hwt hwt'
        have he' : (x == n) = true := by simpa [bne] using he
        clear he
        go_wp2
        go_roundw
        case rel => exact ⟨k + 1, by omega, by go_num, by rw [Hwt.out]; exact HoA.out, Hb1.out⟩
        case measure => simp [intOf]; omega
    · obtain rfl : k = ln := by omega
      rw [Hln.out, List.take_length, ← HR.out] at ho
      obtain ⟨As, cs, rfl, hcs⟩ := ho.shape
      go_wp2
      go_ret
      exact ⟨As, cs, rfl, hcs, ho, hb⟩
set_option maxRecDepth 40000 in
set_option maxHeartbeats 1600000 in
theorem c_moved_rem (w : World) {B : Nat} {A : Option Addr} {c : Nat} {l : Dir} {a : Bs} (hr : RdK w B 2 A l.length (l.flatMap nmCs)) (hB : B ≤ w.heap.size) (hl : l.length ≤ 1048576) :
    Calls Tryz.prog 84 #[.slice A l.length c, .agg (rmCs (.rem a)).toArray] w (DirP w (moved l (.rem a))) := by
  show Calls _ _ _ _ (DirP w (without l a))
  have hP := (Bk.new_ w 143 #[.int .i64 3, svl a, svl ([] : Bs), .int .i64 0])
  have hb1 := (Below.refl w.heap.size w).alloc (Nat.le_refl _) (.cells #[.int .i64 3, svl a, svl ([] : Bs), .int .i64 0] 143)
  obtain ⟨R, hR⟩ : ∃ R, R = without l a := ⟨_, rfl⟩
  try rw [← hR]
  have HRR := Lib.hid hR
  have hRl : R.length ≤ l.length := by rw [hR]; exact (without_sub l a).length_le
  have hr1 := hr.below hb1 hB
  have HW := Lib.hid (fun (W : World) (A' : Option Addr) (c' : Nat) (h : RdK W W.heap.size 2 A' l.length (l.flatMap nmCs)) => c_without W (n := a) (c := c') h (Nat.le_refl _) (by omega))
  rw [← hR] at HW
  unfold DirP at HW
  obtain ⟨xs, hxs⟩ : ∃ x, x = l.flatMap nmCs := ⟨_, rfl⟩
  have hxl : ∀ u ∈ xs, u.oneCell' = true := by
    rw [hxs]; intro u hu
    obtain ⟨p, hp, hu⟩ := List.mem_flatMap.1 hu
    exact nmCs_one p u hu
  obtain ⟨ln, hln⟩ : ∃ x, x = l.length := ⟨_, rfl⟩
  rw [← hxs, ← hln] at hr1 HW
  rw [← hln] at hl hRl ⊢
  obtain ⟨pb, hpb⟩ : ∃ x, x = w.heap.size := ⟨_, rfl⟩
  have hz1 : (w.alloc (.cells #[.int .i64 3, svl a, svl ([] : Bs), .int .i64 0] 143)).heap.size = pb + 1 := by rw [hpb]; simp
  rw [← hpb] at hP hB
  obtain ⟨W1, hW1⟩ : ∃ x, x = w.alloc (.cells #[.int .i64 3, svl a, svl ([] : Bs), .int .i64 0] 143) := ⟨_, rfl⟩
  rw [← hW1] at hP hb1 hr1 hz1
  have HW1 := Lib.hid hW1
  have Hpb := Lib.hid hpb
  have q := hP.cell
  have Hb1 := Lib.hid hb1
  unfold svl at *
  have hBW : B ≤ W1.heap.size := by omega
  clear hR hxs hln hpb hW1 hr
  unfold rmCs svl
  go_enter Tryz.func84, Tryz.ntmps84
  go_wp2
  rw [← Hpb.out, ← HW1.out]
  have hOw : ∀ W : World, OwnK W (pb + 1) 139 2 (.slice none 0 0) 0 [] := fun W => OwnK.nil_ _ _ _ _
  have hHeld : (fun W : World => W.cell? ⟨pb, 1, none⟩ = some (.string ⟨(a).toArray⟩)) W1.drew := q 1
  refine wp_region_held (S := fun W : World => W.cell? ⟨pb, 1, none⟩ = some (.string ⟨(a).toArray⟩)) (by kernel_rfl) ?_
  simp only [List.size_toArray, List.length_cons, List.length_nil, Nat.reduceAdd]
  refine heldTake (i := 0) (v := ?_) rfl (by kernel_rfl) (by kernel_rfl) (by kernel_rfl) (fun _ _ _ h => h) hHeld (by rfl) ?_ ?_
  rotate_left
  · (intro w hSw; (try dsimp only at hSw); go_simp; try with_reducible rfl)
  try simp only [Act.put, List.setIfInBounds_toArray, List.set_cons_zero, List.set_cons_succ]
  refine heldTake (i := 2) (v := ?_) rfl (by kernel_rfl) (by kernel_rfl) (by kernel_rfl) (fun _ _ _ h => h) hHeld (by rfl) ?_ ?_
  rotate_left
  · (intro w hSw; (try dsimp only at hSw); go_simp; try with_reducible rfl)
  try simp only [Act.put, List.setIfInBounds_toArray, List.set_cons_zero, List.set_cons_succ]
  refine heldTake (i := 3) (v := ?_) rfl (by kernel_rfl) (by kernel_rfl) (by kernel_rfl) (fun _ _ _ h => h) hHeld (by rfl) ?_ ?_
  rotate_left
  · (intro w hSw; (try dsimp only at hSw); go_simp; try with_reducible rfl)
  try simp only [Act.put, List.setIfInBounds_toArray, List.set_cons_zero, List.set_cons_succ]
  refine heldStep (i := 1) rfl (by kernel_rfl) (fun K hK => ?_)
  refine at_app (.const (.slice none 0 0)) (.tmp 5) ?_
  refine stepK_sl rfl (.const (.slice none 0 0)) (.tmp 5) rfl slnm (by decide) rfl (hOw _) (Nat.le_of_eq hz1.symm) rfl (show RdK W1.drew W1.drew.heap.size 2 A ln xs from hr1.more hBW) hxl (by omega) ?_
  intro v2 w2 ho2 hb2 hg2 hat2
  rw [Nat.zero_add, List.nil_append] at ho2
  obtain ⟨A2, c2, rfl, hc2⟩ := ho2.shape
  have hP2 := hP.drew.below hb2 (Nat.lt_succ_self pb)
  have q2 := hP2.cell
  have hs2 : pb + 1 ≤ w2.heap.size := by have : W1.heap.size ≤ w2.heap.size := hb2.size; omega
  refine hK.out _ _ (q2 1) (fun hHeld => ?_)
  clear hK K
  try simp only [Act.put, List.setIfInBounds_toArray, List.set_cons_zero, List.set_cons_succ]
  refine heldStep (i := 4) rfl (by kernel_rfl) (fun K hK => ?_)
  go_simp
  go_at_call 94
  refine (HW.out w2 A2 c2 ho2.rd).mono ?_
  rintro e w3 ⟨A3, c3, rfl, hc3, ho3, hb3⟩
  have hP3 := hP2.below hb3 (by omega)
  have q3 := hP3.cell
  have hs3 : w2.heap.size ≤ w3.heap.size := hb3.size
  refine hK.out _ _ (q3 1) (fun hHeld => ?_)
  clear hK K
  try simp only [Act.put, List.setIfInBounds_toArray, List.set_cons_zero, List.set_cons_succ]
  refine heldTake (i := 5) (v := ?_) rfl (by kernel_rfl) (by kernel_rfl) (by kernel_rfl) (fun _ _ _ h => h) hHeld (by rfl) ?_ ?_
  rotate_left
  · (intro w hSw; (try dsimp only at hSw); go_simp; try with_reducible rfl)
  try simp only [Act.put, List.setIfInBounds_toArray, List.set_cons_zero, List.set_cons_succ]
  refine wpAnyH_done (by kernel_rfl) ?_ _
  have hb12 : Below w.heap.size w w2 := Hb1.out.drew.trans (hb2.mono (show w.heap.size ≤ pb + 1 by have := Hpb.out; omega))
  have hb13 : Below w.heap.size w w3 := hb12.trans (hb3.mono hb12.size)
  clear q q2 hP hP2 hHeld hr1 hOw ho2 hb2 hb3 hg2 hat2
  go_wp2
  go_ret
  exact ⟨A3, c3, rfl, hc3, ho3.mono (by have := Hpb.out; omega), hb13⟩
set_option maxRecDepth 40000 in
set_option maxHeartbeats 1600000 in
theorem c_moved_made (w : World) {B : Nat} {A : Option Addr} {c : Nat} {l : Dir} {a : Bs} {i : Nat} (hr : RdK w B 2 A l.length (l.flatMap nmCs)) (hB : B ≤ w.heap.size) (hl : l.length ≤ 1048576) :
    Calls Tryz.prog 84 #[.slice A l.length c, .agg (rmCs (.made a i)).toArray] w (DirP w (moved l (.made a i))) := by
  show Calls _ _ _ _ (DirP w (without l a ++ [(a, i)]))
  have hP := (Bk.new_ w 143 #[.int .i64 1, svl a, svl ([] : Bs), .int .i64 (i : Int)])
  have hb1 := (Below.refl w.heap.size w).alloc (Nat.le_refl _) (.cells #[.int .i64 1, svl a, svl ([] : Bs), .int .i64 (i : Int)] 143)
  obtain ⟨R, hR⟩ : ∃ R, R = without l a := ⟨_, rfl⟩
  try rw [← hR]
  have HRR := Lib.hid hR
  have hRl : R.length ≤ l.length := by rw [hR]; exact (without_sub l a).length_le
  have hr1 := hr.below hb1 hB
  have HW := Lib.hid (fun (W : World) (A' : Option Addr) (c' : Nat) (h : RdK W W.heap.size 2 A' l.length (l.flatMap nmCs)) => c_without W (n := a) (c := c') h (Nat.le_refl _) (by omega))
  rw [← hR] at HW
  unfold DirP at HW
  obtain ⟨xs, hxs⟩ : ∃ x, x = l.flatMap nmCs := ⟨_, rfl⟩
  have hxl : ∀ u ∈ xs, u.oneCell' = true := by
    rw [hxs]; intro u hu
    obtain ⟨p, hp, hu⟩ := List.mem_flatMap.1 hu
    exact nmCs_one p u hu
  obtain ⟨ln, hln⟩ : ∃ x, x = l.length := ⟨_, rfl⟩
  rw [← hxs, ← hln] at hr1 HW
  rw [← hln] at hl hRl ⊢
  obtain ⟨pb, hpb⟩ : ∃ x, x = w.heap.size := ⟨_, rfl⟩
  have hz1 : (w.alloc (.cells #[.int .i64 1, svl a, svl ([] : Bs), .int .i64 (i : Int)] 143)).heap.size = pb + 1 := by rw [hpb]; simp
  rw [← hpb] at hP hB
  obtain ⟨W1, hW1⟩ : ∃ x, x = w.alloc (.cells #[.int .i64 1, svl a, svl ([] : Bs), .int .i64 (i : Int)] 143) := ⟨_, rfl⟩
  rw [← hW1] at hP hb1 hr1 hz1
  have HW1 := Lib.hid hW1
  have Hpb := Lib.hid hpb
  have q := hP.cell
  have Hb1 := Lib.hid hb1
  unfold svl at *
  have hBW : B ≤ W1.heap.size := by omega
  clear hR hxs hln hpb hW1 hr
  unfold rmCs svl
  go_enter Tryz.func84, Tryz.ntmps84
  go_wp2
  rw [← Hpb.out, ← HW1.out]
  have hOw : ∀ W : World, OwnK W (pb + 1) 139 2 (.slice none 0 0) 0 [] := fun W => OwnK.nil_ _ _ _ _
  have hHeld : (fun W : World => W.cell? ⟨pb, 1, none⟩ = some (.string ⟨(a).toArray⟩)) W1.drew := q 1
  refine wp_region_held (S := fun W : World => W.cell? ⟨pb, 1, none⟩ = some (.string ⟨(a).toArray⟩)) (by kernel_rfl) ?_
  simp only [List.size_toArray, List.length_cons, List.length_nil, Nat.reduceAdd]
  refine heldTake (i := 0) (v := ?_) rfl (by kernel_rfl) (by kernel_rfl) (by kernel_rfl) (fun _ _ _ h => h) hHeld (by rfl) ?_ ?_
  rotate_left
  · (intro w hSw; (try dsimp only at hSw); go_simp; try with_reducible rfl)
  try simp only [Act.put, List.setIfInBounds_toArray, List.set_cons_zero, List.set_cons_succ]
  refine heldTake (i := 2) (v := ?_) rfl (by kernel_rfl) (by kernel_rfl) (by kernel_rfl) (fun _ _ _ h => h) hHeld (by rfl) ?_ ?_
  rotate_left
  · (intro w hSw; (try dsimp only at hSw); go_simp; try with_reducible rfl)
  try simp only [Act.put, List.setIfInBounds_toArray, List.set_cons_zero, List.set_cons_succ]
  refine heldTake (i := 3) (v := ?_) rfl (by kernel_rfl) (by kernel_rfl) (by kernel_rfl) (fun _ _ _ h => h) hHeld (by rfl) ?_ ?_
  rotate_left
  · (intro w hSw; (try dsimp only at hSw); go_simp; try with_reducible rfl)
  try simp only [Act.put, List.setIfInBounds_toArray, List.set_cons_zero, List.set_cons_succ]
  refine heldStep (i := 1) rfl (by kernel_rfl) (fun K hK => ?_)
  refine at_app (.const (.slice none 0 0)) (.tmp 5) ?_
  refine stepK_sl rfl (.const (.slice none 0 0)) (.tmp 5) rfl slnm (by decide) rfl (hOw _) (Nat.le_of_eq hz1.symm) rfl (show RdK W1.drew W1.drew.heap.size 2 A ln xs from hr1.more hBW) hxl (by omega) ?_
  intro v2 w2 ho2 hb2 hg2 hat2
  rw [Nat.zero_add, List.nil_append] at ho2
  obtain ⟨A2, c2, rfl, hc2⟩ := ho2.shape
  have hP2 := hP.drew.below hb2 (Nat.lt_succ_self pb)
  have q2 := hP2.cell
  have hs2 : pb + 1 ≤ w2.heap.size := by have : W1.heap.size ≤ w2.heap.size := hb2.size; omega
  refine hK.out _ _ (q2 1) (fun hHeld => ?_)
  clear hK K
  try simp only [Act.put, List.setIfInBounds_toArray, List.set_cons_zero, List.set_cons_succ]
  refine heldStep (i := 4) rfl (by kernel_rfl) (fun K hK => ?_)
  go_simp
  go_at_call 94
  refine (HW.out w2 A2 c2 ho2.rd).mono ?_
  rintro e w3 ⟨A3, c3, rfl, hc3, ho3, hb3⟩
  have hP3 := hP2.below hb3 (by omega)
  have q3 := hP3.cell
  have hs3 : w2.heap.size ≤ w3.heap.size := hb3.size
  refine hK.out _ _ (q3 1) (fun hHeld => ?_)
  clear hK K
  try simp only [Act.put, List.setIfInBounds_toArray, List.set_cons_zero, List.set_cons_succ]
  refine heldTake (i := 5) (v := ?_) rfl (by kernel_rfl) (by kernel_rfl) (by kernel_rfl) (fun _ _ _ h => h) hHeld (by rfl) ?_ ?_
  rotate_left
  · (intro w hSw; (try dsimp only at hSw); go_simp; try with_reducible rfl)
  try simp only [Act.put, List.setIfInBounds_toArray, List.set_cons_zero, List.set_cons_succ]
  refine wpAnyH_done (by kernel_rfl) ?_ _
  have hb12 : Below w.heap.size w w2 := Hb1.out.drew.trans (hb2.mono (show w.heap.size ≤ pb + 1 by have := Hpb.out; omega))
  have hb13 : Below w.heap.size w w3 := hb12.trans (hb3.mono hb12.size)
  clear q q2 hP hP2 hHeld hr1 hOw ho2 hb2 hb3 hg2 hat2
  go_wp2_with (first | (at_builtin; (refine wpList_appK_new rfl _ _ rfl slnm (by decide) rfl ho3 (Below.refl w2.heap.size w3) hs3 rfl (news := [.string ⟨a.toArray⟩, .int .i64 (i : Int)]) rfl (by intro u hu; simp only [List.mem_cons, List.not_mem_nil, or_false] at hu; rcases hu with rfl | rfl <;> rfl) (by omega) ?_); intro v4 w4 ho4 hb4 hg4 hat4 hs4; obtain ⟨A4, c4, rfl, hc4⟩ := ho4.shape))
  go_ret
  refine ⟨A4, c4, by simp, by simpa using hc4, ?_, hb13.trans (hb4.mono (by have := Hpb.out; omega))⟩
  rw [List.length_append, List.flatMap_append]
  exact ho4.mono (by have := Hpb.out; omega)
set_option maxRecDepth 40000 in
set_option maxHeartbeats 1600000 in
theorem c_moved_ren (w : World) {B : Nat} {A : Option Addr} {c : Nat} {l : Dir} {a b : Bs} {i : Nat} (hr : RdK w B 2 A l.length (l.flatMap nmCs)) (hB : B ≤ w.heap.size) (hl : l.length ≤ 1048576) :
    Calls Tryz.prog 84 #[.slice A l.length c, .agg (rmCs (.ren a b i)).toArray] w (DirP w (moved l (.ren a b i))) := by
  show Calls _ _ _ _ (DirP w (without (without l a) b ++ [(b, i)]))
  obtain ⟨R2, hR2⟩ : ∃ R2, R2 = without (without l a) b := ⟨_, rfl⟩
  rw [← hR2]
  have HR2 := Lib.hid hR2
  clear hR2
  have hP := (Bk.new_ w 143 #[.int .i64 2, svl a, svl b, .int .i64 (i : Int)])
  have hb1 := (Below.refl w.heap.size w).alloc (Nat.le_refl _) (.cells #[.int .i64 2, svl a, svl b, .int .i64 (i : Int)] 143)
  obtain ⟨R, hR⟩ : ∃ R, R = without l a := ⟨_, rfl⟩
  try rw [← hR]
  have HRR := Lib.hid hR
  have hRl : R.length ≤ l.length := by rw [hR]; exact (without_sub l a).length_le
  have hr1 := hr.below hb1 hB
  have HW := Lib.hid (fun (W : World) (A' : Option Addr) (c' : Nat) (h : RdK W W.heap.size 2 A' l.length (l.flatMap nmCs)) => c_without W (n := a) (c := c') h (Nat.le_refl _) (by omega))
  rw [← hR] at HW
  unfold DirP at HW
  obtain ⟨xs, hxs⟩ : ∃ x, x = l.flatMap nmCs := ⟨_, rfl⟩
  have hxl : ∀ u ∈ xs, u.oneCell' = true := by
    rw [hxs]; intro u hu
    obtain ⟨p, hp, hu⟩ := List.mem_flatMap.1 hu
    exact nmCs_one p u hu
  obtain ⟨ln, hln⟩ : ∃ x, x = l.length := ⟨_, rfl⟩
  rw [← hxs, ← hln] at hr1 HW
  rw [← hln] at hl hRl ⊢
  obtain ⟨pb, hpb⟩ : ∃ x, x = w.heap.size := ⟨_, rfl⟩
  have hz1 : (w.alloc (.cells #[.int .i64 2, svl a, svl b, .int .i64 (i : Int)] 143)).heap.size = pb + 1 := by rw [hpb]; simp
  rw [← hpb] at hP hB
  obtain ⟨W1, hW1⟩ : ∃ x, x = w.alloc (.cells #[.int .i64 2, svl a, svl b, .int .i64 (i : Int)] 143) := ⟨_, rfl⟩
  rw [← hW1] at hP hb1 hr1 hz1
  have HW1 := Lib.hid hW1
  have Hpb := Lib.hid hpb
  have q := hP.cell
  have Hb1 := Lib.hid hb1
  unfold svl at *
  have hBW : B ≤ W1.heap.size := by omega
  clear hR hxs hln hpb hW1 hr
  unfold rmCs svl
  go_enter Tryz.func84, Tryz.ntmps84
  go_wp2
  rw [← Hpb.out, ← HW1.out]
  have hOw : ∀ W : World, OwnK W (pb + 1) 139 2 (.slice none 0 0) 0 [] := fun W => OwnK.nil_ _ _ _ _
  have hHeld : (fun W : World => W.cell? ⟨pb, 1, none⟩ = some (.string ⟨(a).toArray⟩)) W1.drew := q 1
  refine wp_region_held (S := fun W : World => W.cell? ⟨pb, 1, none⟩ = some (.string ⟨(a).toArray⟩)) (by kernel_rfl) ?_
  simp only [List.size_toArray, List.length_cons, List.length_nil, Nat.reduceAdd]
  refine heldTake (i := 0) (v := ?_) rfl (by kernel_rfl) (by kernel_rfl) (by kernel_rfl) (fun _ _ _ h => h) hHeld (by rfl) ?_ ?_
  rotate_left
  · (intro w hSw; (try dsimp only at hSw); go_simp; try with_reducible rfl)
  try simp only [Act.put, List.setIfInBounds_toArray, List.set_cons_zero, List.set_cons_succ]
  refine heldTake (i := 2) (v := ?_) rfl (by kernel_rfl) (by kernel_rfl) (by kernel_rfl) (fun _ _ _ h => h) hHeld (by rfl) ?_ ?_
  rotate_left
  · (intro w hSw; (try dsimp only at hSw); go_simp; try with_reducible rfl)
  try simp only [Act.put, List.setIfInBounds_toArray, List.set_cons_zero, List.set_cons_succ]
  refine heldTake (i := 3) (v := ?_) rfl (by kernel_rfl) (by kernel_rfl) (by kernel_rfl) (fun _ _ _ h => h) hHeld (by rfl) ?_ ?_
  rotate_left
  · (intro w hSw; (try dsimp only at hSw); go_simp; try with_reducible rfl)
  try simp only [Act.put, List.setIfInBounds_toArray, List.set_cons_zero, List.set_cons_succ]
  refine heldStep (i := 1) rfl (by kernel_rfl) (fun K hK => ?_)
  refine at_app (.const (.slice none 0 0)) (.tmp 5) ?_
  refine stepK_sl rfl (.const (.slice none 0 0)) (.tmp 5) rfl slnm (by decide) rfl (hOw _) (Nat.le_of_eq hz1.symm) rfl (show RdK W1.drew W1.drew.heap.size 2 A ln xs from hr1.more hBW) hxl (by omega) ?_
  intro v2 w2 ho2 hb2 hg2 hat2
  rw [Nat.zero_add, List.nil_append] at ho2
  obtain ⟨A2, c2, rfl, hc2⟩ := ho2.shape
  have hP2 := hP.drew.below hb2 (Nat.lt_succ_self pb)
  have q2 := hP2.cell
  have hs2 : pb + 1 ≤ w2.heap.size := by have : W1.heap.size ≤ w2.heap.size := hb2.size; omega
  refine hK.out _ _ (q2 1) (fun hHeld => ?_)
  clear hK K
  try simp only [Act.put, List.setIfInBounds_toArray, List.set_cons_zero, List.set_cons_succ]
  refine heldStep (i := 4) rfl (by kernel_rfl) (fun K hK => ?_)
  go_simp
  go_at_call 94
  refine (HW.out w2 A2 c2 ho2.rd).mono ?_
  rintro e w3 ⟨A3, c3, rfl, hc3, ho3, hb3⟩
  have hP3 := hP2.below hb3 (by omega)
  have q3 := hP3.cell
  have hs3 : w2.heap.size ≤ w3.heap.size := hb3.size
  refine hK.out _ _ (q3 1) (fun hHeld => ?_)
  clear hK K
  try simp only [Act.put, List.setIfInBounds_toArray, List.set_cons_zero, List.set_cons_succ]
  refine heldTake (i := 5) (v := ?_) rfl (by kernel_rfl) (by kernel_rfl) (by kernel_rfl) (fun _ _ _ h => h) hHeld (by rfl) ?_ ?_
  rotate_left
  · (intro w hSw; (try dsimp only at hSw); go_simp; try with_reducible rfl)
  try simp only [Act.put, List.setIfInBounds_toArray, List.set_cons_zero, List.set_cons_succ]
  refine wpAnyH_done (by kernel_rfl) ?_ _
  have hb12 : Below w.heap.size w w2 := Hb1.out.drew.trans (hb2.mono (show w.heap.size ≤ pb + 1 by have := Hpb.out; omega))
  have hb13 : Below w.heap.size w w3 := hb12.trans (hb3.mono hb12.size)
  clear q q2 hP hP2 hHeld hr1 hOw ho2 hb2 hb3 hg2 hat2
  have hR2 : R2 = without R b := by rw [HR2.out, HRR.out]
  have hR2l : R2.length ≤ R.length := by rw [hR2]; exact (without_sub R b).length_le
  have HW2 := Lib.hid (fun (W : World) (hb : Below w3.heap.size w3 W) => c_without W (n := b) (c := c3) ((ho3.rd.below hb (Nat.le_refl _)).more hb.size) (Nat.le_refl _) (by omega))
  rw [← hR2] at HW2
  unfold DirP at HW2
  clear hR2
  have hHeld : (fun W : World => W.cell? ⟨pb, 2, none⟩ = some (.string ⟨b.toArray⟩) ∧ W.cell? ⟨pb, 3, none⟩ = some (.int .i64 (i : Int))) w3.drew := ⟨q3 2, q3 3⟩
  have hlt3 : pb < w3.heap.size := by omega
  go_wp2
  refine wp_region_held (S := fun W : World => W.cell? ⟨pb, 2, none⟩ = some (.string ⟨b.toArray⟩) ∧ W.cell? ⟨pb, 3, none⟩ = some (.int .i64 (i : Int))) (by kernel_rfl) ?_
  simp only [List.size_toArray, List.length_cons, List.length_nil, Nat.reduceAdd]
  refine heldTake (i := 0) (v := ?_) rfl (by kernel_rfl) (by kernel_rfl) (by kernel_rfl) (fun _ _ _ h => h) hHeld (by rfl) ?_ ?_
  rotate_left
  · (intro w hSw; (try dsimp only at hSw); go_simp; try with_reducible rfl)
  try simp only [Act.put, List.setIfInBounds_toArray, List.set_cons_zero, List.set_cons_succ]
  refine heldTake (i := 1) (v := ?_) rfl (by kernel_rfl) (by kernel_rfl) (by kernel_rfl) (fun _ _ _ h => h) hHeld (by rfl) ?_ ?_
  rotate_left
  · (intro w hSw; (try dsimp only at hSw); go_simp; try with_reducible rfl)
  try simp only [Act.put, List.setIfInBounds_toArray, List.set_cons_zero, List.set_cons_succ]
  refine heldTake (i := 2) (v := ?_) rfl (by kernel_rfl) (by kernel_rfl) (by kernel_rfl) (fun _ _ _ h => h) hHeld (by rfl) ?_ ?_
  rotate_left
  · (intro w hSw; (try dsimp only at hSw); go_simp; try with_reducible rfl)
  try simp only [Act.put, List.setIfInBounds_toArray, List.set_cons_zero, List.set_cons_succ]
  refine heldTake (i := 4) (v := ?_) rfl (by kernel_rfl) (by kernel_rfl) (by kernel_rfl) (fun _ _ _ h => h) hHeld (by rfl) ?_ ?_
  rotate_left
  · (intro w hSw; (try dsimp only at hSw); go_simp; try with_reducible rfl)
  try simp only [Act.put, List.setIfInBounds_toArray, List.set_cons_zero, List.set_cons_succ]
  refine heldTake (i := 5) (v := ?_) rfl (by kernel_rfl) (by kernel_rfl) (by kernel_rfl) (fun _ _ _ h => h) hHeld (by rfl) ?_ ?_
  rotate_left
  · (intro w hSw; (try dsimp only at hSw); go_simp; try with_reducible rfl)
  try simp only [Act.put, List.setIfInBounds_toArray, List.set_cons_zero, List.set_cons_succ]
  refine heldTake (i := 6) (v := ?_) rfl (by kernel_rfl) (by kernel_rfl) (by kernel_rfl) (fun _ _ _ h => h) hHeld (by rfl) ?_ ?_
  rotate_left
  · (intro w hSw; (try dsimp only at hSw); go_simp; try with_reducible rfl)
  try simp only [Act.put, List.setIfInBounds_toArray, List.set_cons_zero, List.set_cons_succ]
  refine heldTake (i := 7) (v := ?_) rfl (by kernel_rfl) (by kernel_rfl) (by kernel_rfl) (fun _ _ _ h => h) hHeld (by rfl) ?_ ?_
  rotate_left
  · (intro w hSw; (try dsimp only at hSw); go_simp; try with_reducible rfl)
  try simp only [Act.put, List.setIfInBounds_toArray, List.set_cons_zero, List.set_cons_succ]
  refine heldTake (i := 8) (v := ?_) rfl (by kernel_rfl) (by kernel_rfl) (by kernel_rfl) (fun _ _ _ h => h) hHeld (by rfl) ?_ ?_
  rotate_left
  · (intro w hSw; (try dsimp only at hSw); go_simp; try with_reducible rfl)
  try simp only [Act.put, List.setIfInBounds_toArray, List.set_cons_zero, List.set_cons_succ]
  have hn1 : ∀ u ∈ [Value.string ⟨b.toArray⟩, .int .i64 (i : Int)], u.oneCell' = true := by intro u hu; simp only [List.mem_cons, List.not_mem_nil, or_false] at hu; rcases hu with rfl | rfl <;> rfl
  refine wpAnyH_ready (rs := [3, 9]) (by kernel_rfl) (by simp) (AllReadyH.cons (drop_get (i := 3) rfl) (fun K hK => ?_) (AllReadyH.cons (drop_get (i := 9) rfl) (fun K hK => ?_) AllReadyH.nil))
  · go_simp
    go_at_call 94
    refine (HW2.out w3.drew (Below.refl _ _).drew).mono ?_
    rintro e w4 ⟨A4, c4, rfl, hc4, ho4, hb4⟩
    have hP4 := hP3.drew.below hb4 hlt3
    refine hK.out _ _ (⟨hP4.cell 2, hP4.cell 3⟩) (fun hHeld => ?_)
    clear hK K
    try simp only [Act.put, List.setIfInBounds_toArray, List.set_cons_zero, List.set_cons_succ]
    refine heldStep (i := 9) rfl (by kernel_rfl) (fun K hK => ?_)
    go_simp
    have hP5 := hP4.alloc (.cells #[.string ⟨b.toArray⟩, .int .i64 (i : Int)] 139)
    refine hK.out _ _ (⟨hP5.cell 2, hP5.cell 3⟩) (fun hHeld => ?_)
    clear hK K
    try simp only [Act.put, List.setIfInBounds_toArray, List.set_cons_zero, List.set_cons_succ]
    refine heldStep (i := 10) rfl (by kernel_rfl) (fun K hK => ?_)
    refine at_app (.tmp 20) (.tmp 26) ?_
    have hs4 : w3.heap.size ≤ w4.heap.size := hb4.size
    refine stepK_new rfl (.tmp 20) (.tmp 26) rfl slnm (by decide) rfl (ho4.alloc _) (show w3.heap.size ≤ (w4.alloc _).heap.size by simp; omega) rfl (news := [.string ⟨b.toArray⟩, .int .i64 (i : Int)]) rfl (fun j u hu => by rw [Nat.zero_add]; exact ((Bk.new_ w4 _ _).cell j).trans (by simpa using hu)) hn1 (by omega) ?_
    intro v6 w6 ho6 hb6 hg6 hat6
    obtain ⟨A6, c6, rfl, hc6⟩ := ho6.shape
    have hP6 := hP5.below hb6 hlt3
    refine hK.out _ _ (⟨hP6.cell 2, hP6.cell 3⟩) (fun hHeld => ?_)
    clear hK K
    try simp only [Act.put, List.setIfInBounds_toArray, List.set_cons_zero, List.set_cons_succ]
    refine heldTake (i := 11) (v := ?_) rfl (by kernel_rfl) (by kernel_rfl) (by kernel_rfl) (fun _ _ _ h => h) hHeld (by rfl) ?_ ?_
    rotate_left
    · (intro w hSw; (try dsimp only at hSw); go_simp; try with_reducible rfl)
    try simp only [Act.put, List.setIfInBounds_toArray, List.set_cons_zero, List.set_cons_succ]
    refine wpAnyH_done (by kernel_rfl) ?_ _
    have hbf : Below w.heap.size w w6 := ((hb13.drew.trans (hb4.mono hb13.size)).alloc (by have := hb13.size; omega) (.cells #[.string ⟨b.toArray⟩, .int .i64 (i : Int)] 139)).trans (hb6.mono hb13.size)
    have hbs := hb13.size
    clear hHeld
    go_wp2
    go_ret
    refine ⟨A6, c6, by simp, by simpa using hc6, ?_, hbf⟩
    rw [List.length_append, List.flatMap_append]
    exact ho6.mono hbs
  · go_simp
    have hP4 := hP3.drew.alloc (.cells #[.string ⟨b.toArray⟩, .int .i64 (i : Int)] 139)
    have hbA : Below w3.heap.size w3 (w3.alloc (.cells #[.string ⟨b.toArray⟩, .int .i64 (i : Int)] 139)).drew := ((Below.refl _ _).alloc (Nat.le_refl _) _).drew
    have hN4 := (Bk.new_ w3 139 #[.string ⟨b.toArray⟩, .int .i64 (i : Int)]).drew
    refine hK.out _ _ (⟨hP4.cell 2, hP4.cell 3⟩) (fun hHeld => ?_)
    clear hK K
    try simp only [Act.put, List.setIfInBounds_toArray, List.set_cons_zero, List.set_cons_succ]
    refine heldStep (i := 3) rfl (by kernel_rfl) (fun K hK => ?_)
    go_simp
    go_at_call 94
    refine (HW2.out _ hbA).mono ?_
    rintro e w4 ⟨A4, c4, rfl, hc4, ho4, hb4⟩
    have hlt4 : pb < (w3.alloc (.cells #[.string ⟨b.toArray⟩, .int .i64 (i : Int)] 139)).drew.heap.size := by have h9 := hbA.size; omega
    have hP5 := hP4.below hb4 hlt4
    have hN5 := hN4.below hb4 hN4.lt
    refine hK.out _ _ (⟨hP5.cell 2, hP5.cell 3⟩) (fun hHeld => ?_)
    clear hK K
    try simp only [Act.put, List.setIfInBounds_toArray, List.set_cons_zero, List.set_cons_succ]
    refine heldStep (i := 10) rfl (by kernel_rfl) (fun K hK => ?_)
    refine at_app (.tmp 20) (.tmp 26) ?_
    refine stepK_new rfl (.tmp 20) (.tmp 26) rfl slnm (by decide) rfl ho4 hb4.size rfl (news := [.string ⟨b.toArray⟩, .int .i64 (i : Int)]) rfl (fun j u hu => by rw [Nat.zero_add]; exact (hN5.cell j).trans (by simpa using hu)) hn1 (by omega) ?_
    intro v6 w6 ho6 hb6 hg6 hat6
    obtain ⟨A6, c6, rfl, hc6⟩ := ho6.shape
    have hP6 := hP5.below hb6 hlt4
    refine hK.out _ _ (⟨hP6.cell 2, hP6.cell 3⟩) (fun hHeld => ?_)
    clear hK K
    try simp only [Act.put, List.setIfInBounds_toArray, List.set_cons_zero, List.set_cons_succ]
    refine heldTake (i := 11) (v := ?_) rfl (by kernel_rfl) (by kernel_rfl) (by kernel_rfl) (fun _ _ _ h => h) hHeld (by rfl) ?_ ?_
    rotate_left
    · (intro w hSw; (try dsimp only at hSw); go_simp; try with_reducible rfl)
    try simp only [Act.put, List.setIfInBounds_toArray, List.set_cons_zero, List.set_cons_succ]
    refine wpAnyH_done (by kernel_rfl) ?_ _
    have hbs := hb13.size
    have hbA' := hbA.size
    have hbf : Below w.heap.size w w6 := (hb13.trans ((hbA.mono hbs))).trans ((hb4.mono (Nat.le_trans hbs hbA')).trans (hb6.mono (Nat.le_trans hbs hbA')))
    clear hHeld
    go_wp2
    go_ret
    refine ⟨A6, c6, by simp, by simpa using hc6, ?_, hbf⟩
    rw [List.length_append, List.flatMap_append]
    exact ho6.mono (Nat.le_trans hbs hbA')
end Go.Proofs.YtaanmnplfppdeaaGreat
