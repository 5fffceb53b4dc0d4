/- Layer 1: how a file system lies in memory. -/
import Derived.Test.YtgilnjngphhhlaaGreatProg
import Derived.Test.YtgilnjngphhhlaaGreatFsMem
namespace Go.Fsy
open Go.Maps Go.Lec
theorem own_tight {H : Type} {P : Program} {k : TypeId} {R : Value → Option (DataW H × List MemPlace)} {w : World} {b n : Nat} {D : DataW H} (h : w.ownsMap P k R b n D) : w.ownsMap P k R b (Maps.size D) D := by
  obtain ⟨es, clock, hb, F, hs, rfl⟩ := h
  refine ⟨es, clock, hb, F, ?_, rfl⟩
  rw [size_eq, length_sorted]
  simp
def Mv.nd : Mv → Option Nat
  | .made _ i => some i
  | .ren _ _ i => some i
  | .rem _ => none
/-- A file that a name, or a move, leads to. -/
def alive (s : St) (i : Nat) : Prop := (∃ n, (n, i) ∈ s.dir) ∨ (∃ n, (n, i) ∈ s.safe) ∨ ∃ m ∈ s.mvs, m.nd = some i
def ptrV (b : Nat) : Value := .pointer (some ⟨b, 0, none⟩)
/-- A move's three cells. -/
def mvCs (fid : Nat → Nat) : Mv → List Value
  | .made n i => [svl [], svl n, ptrV (fid i)]
  | .ren a b i => [svl a, svl b, ptrV (fid i)]
  | .rem a => [svl a, svl [], .pointer none]
theorem mvCs_len (fid : Nat → Nat) (m : Mv) : (mvCs fid m).length = 3 := by cases m <;> rfl
theorem mvCs_one (fid : Nat → Nat) (m : Mv) : ∀ u ∈ mvCs fid m, u.oneCell' = true := by
  intro u hu
  cases m <;> simp only [mvCs, List.mem_cons, List.not_mem_nil, or_false] at hu <;> rcases hu with rfl | rfl | rfl <;> rfl
def ics (l : List Int) : List Value := l.map (Value.int .i64)
theorem ics_length (l : List Int) : (ics l).length = l.length := by simp [ics]
/-- Where a file system's parts lie. -/
structure Geo where
  AK : Option Addr
  cK : Nat
  AF : Option Addr
  cF : Nat
  AU : Option Addr
  cU : Nat
  dm : Nat
  sm : Nat
  D1 : DataW Unit
  D2 : DataW Unit
  mv : Value
  fid : Nat → Nat
  lv : Nat → Value
/-- What is relied upon grows by new blocks alone, and nothing old turns but what may. -/
structure Grow (X I : Nat → Prop) (w : World) (X' I' : Nat → Prop) (w' : World) : Prop where
  sx : ∀ b, X' b → X b ∨ w.heap.size ≤ b
  si : ∀ b, I' b → I b ∨ w.heap.size ≤ b
  kb : KbP X w w'
theorem Grow.refl (X I : Nat → Prop) (w : World) : Grow X I w X I w := ⟨fun _ h => .inl h, fun _ h => .inl h, KbP.refl _ _⟩
theorem Grow.trans {X I X1 I1 X2 I2 : Nat → Prop} {w w1 w2 : World} (h : Grow X I w X1 I1 w1) (k : Grow X1 I1 w1 X2 I2 w2) : Grow X I w X2 I2 w2 :=
  ⟨fun b hb => (k.sx b hb).elim (h.sx b) (fun h1 => .inr (Nat.le_trans h.kb.size h1)),
   fun b hb => (k.si b hb).elim (h.si b) (fun h1 => .inr (Nat.le_trans h.kb.size h1)),
   h.kb.trans k.kb h.sx⟩
theorem Grow.of_kb {X I : Nat → Prop} {w w' : World} (h : KbP X w w') : Grow X I w X I w' := ⟨fun _ h => .inl h, fun _ h => .inl h, h⟩
/-- Two that share nothing that turns. -/
structure Apart (X I Y J : Nat → Prop) : Prop where
  xy : ∀ b, X b → ¬ Y b
  xj : ∀ b, X b → ¬ J b
  iy : ∀ b, I b → ¬ Y b
theorem Apart.symm {X I Y J : Nat → Prop} (h : Apart X I Y J) : Apart Y J X I := ⟨fun b hy hx => h.xy b hx hy, fun b hy hi => h.iy b hi hy, fun b hj hx => h.xj b hx hj⟩
theorem Apart.grow {X I Y J X' I' : Nat → Prop} {w w' : World} (h : Apart X I Y J) (hg : Grow X I w X' I' w') (hl : ∀ b, Y b ∨ J b → b < w.heap.size) : Apart X' I' Y J :=
  ⟨fun b hx hy => (hg.sx b hx).elim (fun h1 => h.xy b h1 hy) (fun h1 => by have := hl b (.inl hy); omega),
   fun b hx hj => (hg.sx b hx).elim (fun h1 => h.xj b h1 hj) (fun h1 => by have := hl b (.inr hj); omega),
   fun b hi hy => (hg.si b hi).elim (fun h1 => h.iy b h1 hy) (fun h1 => by have := hl b (.inl hy); omega)⟩
end Go.Fsy
namespace Go.Proofs.YtgilnjngphhhlaaGreat
open Go.RowKit Go.Lec Go.Fsy Go.Maps
/-- A change's value. -/
def ChV (I : Nat → Prop) (w : World) (v : Value) : Ch → Prop
  | .add b => ∃ A c, v = .iface 95 (.agg #[.slice A b.length c]) ∧ RdP I w A b.length (bcs b) ∧ b.length ≤ c
  | .cut n => v = .iface 92 (.agg #[.int .i64 (n : Int)])
theorem ChV.kbP {X I : Nat → Prop} {w w' : World} {v : Value} {c : Ch} (h : ChV I w v c) (hk : KbP X w w') (hI : ∀ b, I b → ¬ X b) : ChV I w' v c := by
  cases c with
  | add b => obtain ⟨A, c, rfl, hr, hc⟩ := h; exact ⟨A, c, rfl, hr.kbP hk hI, hc⟩
  | cut n => exact h
theorem ChV.more {I I' : Nat → Prop} {w : World} {v : Value} {c : Ch} (h : ChV I w v c) (hI : ∀ b, I b → I' b) : ChV I' w v c := by
  cases c with
  | add b => obtain ⟨A, c, rfl, hr, hc⟩ := h; exact ⟨A, c, rfl, hr.more hI, hc⟩
  | cut n => exact h
theorem ChV.one {I : Nat → Prop} {w : World} {v : Value} {c : Ch} (h : ChV I w v c) : v.oneCell' = true := by
  cases c with
  | add b => obtain ⟨A, c, rfl, _⟩ := h; rfl
  | cut n => cases h; rfl
def ChVs (I : Nat → Prop) (w : World) (vs : List Value) (l : List Ch) : Prop := vs.length = l.length ∧ ∀ (k : Nat) (v : Value) (c : Ch), vs[k]? = some v → l[k]? = some c → ChV I w v c
theorem ChVs.snoc {I : Nat → Prop} {w : World} {vs : List Value} {l : List Ch} {v : Value} {c : Ch} (h : ChVs I w vs l) (hv : ChV I w v c) : ChVs I w (vs ++ [v]) (l ++ [c]) := by
  refine ⟨by simp [h.1], fun k u d hu hd => ?_⟩
  rcases Nat.lt_or_ge k vs.length with hk | hk
  · rw [List.getElem?_append_left hk] at hu
    rw [List.getElem?_append_left (by rw [← h.1]; exact hk)] at hd
    exact h.2 k u d hu hd
  · rw [List.getElem?_append_right hk] at hu
    rw [List.getElem?_append_right (by rw [← h.1]; exact hk)] at hd
    rw [h.1] at hu
    cases hj : k - l.length with
    | zero => rw [hj] at hu hd; cases hu; cases hd; exact hv
    | succ j => rw [hj] at hu; cases hu
/-- A file. -/
structure FileOk (X I : Nat → Prop) (w : World) (fb : Nat) (lv : Value) (nd : Nd) : Prop where
  ex : ∃ A1 c1 A3 c3 vs, Bk w fb 89 #[.slice A1 nd.safe.length c1, lv, .slice A3 nd.data.length c3] ∧ RdP I w A1 nd.safe.length (bcs nd.safe) ∧ nd.safe.length ≤ c1 ∧
    RdP I w A3 nd.data.length (bcs nd.data) ∧ nd.data.length ≤ c3 ∧ Lec.Own w 0 108 lv vs ∧ ChVs I w vs nd.chg
  xf : X fb
  xl : ∀ g, lv.ownBlock = some g → X g
theorem FileOk.kbP {X I Y : Nat → Prop} {w w' : World} {fb : Nat} {lv : Value} {nd : Nd} (h : FileOk X I w fb lv nd) (hk : KbP Y w w') (hf : ¬ Y fb) (hl : ∀ g, lv.ownBlock = some g → ¬ Y g) (hI : ∀ b, I b → ¬ Y b) : FileOk X I w' fb lv nd := by
  obtain ⟨A1, c1, A3, c3, vs, h1, h2, h3, h4, h5, h6, h7⟩ := h.ex
  exact ⟨⟨A1, c1, A3, c3, vs, h1.kbP hk hf, h2.kbP hk hI, h3, h4.kbP hk hI, h5, OwnK.kbP h6 hk hl, ⟨h7.1, fun k v c hv hc => (h7.2 k v c hv hc).kbP hk hI⟩⟩, h.xf, h.xl⟩
theorem FileOk.more {X I X' I' : Nat → Prop} {w : World} {fb : Nat} {lv : Value} {nd : Nd} (h : FileOk X I w fb lv nd) (hX : ∀ b, X b → X' b) (hI : ∀ b, I b → I' b) : FileOk X' I' w fb lv nd := by
  obtain ⟨A1, c1, A3, c3, vs, h1, h2, h3, h4, h5, h6, h7⟩ := h.ex
  exact ⟨⟨A1, c1, A3, c3, vs, h1, h2.more hI, h3, h4.more hI, h5, h6, ⟨h7.1, fun k v c hv hc => (h7.2 k v c hv hc).more hI⟩⟩, hX _ h.xf, fun g hg => hX _ (h.xl g hg)⟩
/-- A file system's cells. -/
def fsCs (s : St) (G : Geo) : Array Value :=
  #[.int .i64 1, .int .i64 s.pl.crash, .slice G.AK s.pl.keep.length G.cK, .slice G.AF s.pl.fail.length G.cF, .slice G.AU s.pl.full.length G.cU, .int .i64 s.pl.room, .int .i64 (s.cnt : Int), .bool s.died, .map (some G.dm), .map (some G.sm), G.mv]
/-- A file system, of which X may turn and I is read. -/
structure FsG (X I : Nat → Prop) (w : World) (fb : Nat) (s : St) (G : Geo) : Prop where
  bk : Bk w fb 74 (fsCs s G)
  rk : RdP I w G.AK s.pl.keep.length (ics s.pl.keep)
  rf : RdP I w G.AF s.pl.fail.length (ics s.pl.fail)
  ru : RdP I w G.AU s.pl.full.length (ics s.pl.full)
  nk : s.pl.keep.length ≤ G.cK
  nf : s.pl.fail.length ≤ G.cF
  nu : s.pl.full.length ≤ G.cU
  dmap : w.ownsMap Tryz.prog 9 ptrR G.dm s.dir.length G.D1
  smap : w.ownsMap Tryz.prog 9 ptrR G.sm s.safe.length G.D2
  rep1 : Rep G.fid G.D1 s.dir
  rep2 : Rep G.fid G.D2 s.safe
  mvs : OwnK w 0 99 3 G.mv s.mvs.length (s.mvs.flatMap (mvCs G.fid))
  files : ∀ i, alive s i → FileOk X I w (G.fid i) (G.lv i) (ndAt s.nodes i)
  inj : ∀ i j, alive s i → alive s j → G.fid i = G.fid j → i = j
  injl : ∀ i j g, alive s i → alive s j → (G.lv i).ownBlock = some g → (G.lv j).ownBlock = some g → i = j
  ne : G.dm ≠ G.sm
  xfb : X fb
  xdm : X G.dm
  xsm : X G.sm
  xmv : ∀ g, G.mv.ownBlock = some g → X g
  xi : ∀ b, I b → ¬ X b
  lt : ∀ b, X b ∨ I b → b < w.heap.size
def FsP (X I : Nat → Prop) (w : World) (fb : Nat) (s : St) : Prop := ∃ G, FsG X I w fb s G
theorem FsG.kbP {X I Y : Nat → Prop} {w w' : World} {fb : Nat} {s : St} {G : Geo} (h : FsG X I w fb s G) (hk : KbP Y w w') (hX : ∀ b, X b → ¬ Y b) (hI : ∀ b, I b → ¬ Y b) : FsG X I w' fb s G where
  bk := h.bk.kbP hk (hX _ h.xfb)
  rk := h.rk.kbP hk hI
  rf := h.rf.kbP hk hI
  ru := h.ru.kbP hk hI
  nk := h.nk
  nf := h.nf
  nu := h.nu
  dmap := ownsMap_kbP h.dmap hk (hX _ h.xdm)
  smap := ownsMap_kbP h.smap hk (hX _ h.xsm)
  rep1 := h.rep1
  rep2 := h.rep2
  mvs := OwnK.kbP h.mvs hk fun g hg => hX _ (h.xmv g hg)
  files := fun i hi => (h.files i hi).kbP hk (hX _ (h.files i hi).xf) (fun g hg => hX _ ((h.files i hi).xl g hg)) hI
  inj := h.inj
  injl := h.injl
  ne := h.ne
  xfb := h.xfb
  xdm := h.xdm
  xsm := h.xsm
  xmv := h.xmv
  xi := h.xi
  lt := fun b hb => Nat.lt_of_lt_of_le (h.lt b hb) hk.size
theorem FsP.kbP {X I Y : Nat → Prop} {w w' : World} {fb : Nat} {s : St} (h : FsP X I w fb s) (hk : KbP Y w w') (hX : ∀ b, X b → ¬ Y b) (hI : ∀ b, I b → ¬ Y b) : FsP X I w' fb s := by
  obtain ⟨G, hG⟩ := h
  exact ⟨G, hG.kbP hk hX hI⟩
theorem FsP.below {X I : Nat → Prop} {w w' : World} {fb : Nat} {s : St} (h : FsP X I w fb s) (hb : Below w.heap.size w w') : FsP X I w' fb s :=
  h.kbP (Y := fun _ => False) (KbP.of_below hb) (fun _ _ h => h) (fun _ _ h => h)
theorem FsG.below {X I : Nat → Prop} {w w' : World} {fb : Nat} {s : St} {G : Geo} (h : FsG X I w fb s G) (hb : Below w.heap.size w w') : FsG X I w' fb s G :=
  h.kbP (Y := fun _ => False) (KbP.of_below hb) (fun _ _ h => h) (fun _ _ h => h)
theorem FsP.lt {X I : Nat → Prop} {w : World} {fb : Nat} {s : St} (h : FsP X I w fb s) : ∀ b, X b ∨ I b → b < w.heap.size := by
  obtain ⟨G, hG⟩ := h
  exact hG.lt
/-- Blocks of different kinds are different blocks. -/
theorem bk_ne {w : World} {a b : Nat} {t u : TypeId} {cs ds : Array Value} (h : Bk w a t cs) (k : Bk w b u ds) (hne : t ≠ u) : a ≠ b := by
  rintro rfl
  have := h.symm.trans k
  simp only [Option.some.injEq, Obj.cells.injEq] at this
  exact hne this.2.1
theorem bk_map {H : Type} {w : World} {a b n : Nat} {t k : TypeId} {cs : Array Value} {P : Program} {R : Value → Option (DataW H × List MemPlace)} {D : DataW H} (h : Bk w a t cs) (hm : w.ownsMap P k R b n D) : a ≠ b := by
  rintro rfl
  obtain ⟨es, clock, hb, _⟩ := hm
  have := h.symm.trans hb
  cases this
theorem own_map {H : Type} {w : World} {b n m j B : Nat} {e k : TypeId} {v : Value} {xs : List Value} {P : Program} {R : Value → Option (DataW H × List MemPlace)} {D : DataW H} (h : w.ownsRow B e j v m xs) (hm : w.ownsMap P k R b n D) : v.ownBlock ≠ some b := by
  intro hg
  rcases h.2 with ⟨rfl, _⟩ | ⟨g, cap, cur, rfl, _, hh, _⟩
  · cases hg
  · cases hg
    obtain ⟨es, clock, hb, _⟩ := hm
    have := hh.symm.trans hb
    cases this
theorem own_bkK {w : World} {b m j B : Nat} {e t : TypeId} {v : Value} {xs : List Value} {cs : Array Value} (h : w.ownsRow B e j v m xs) (hb : Bk w b t cs) (hne : e ≠ t) : v.ownBlock ≠ some b := by
  intro hg
  rcases h.2 with ⟨rfl, _⟩ | ⟨g, cap, cur, rfl, _, hh, _⟩
  · cases hg
  · cases hg
    have := hh.symm.trans hb
    simp only [Option.some.injEq, Obj.cells.injEq] at this
    exact hne this.2.1
theorem own_own {w : World} {B B' n m j k : Nat} {e e' : TypeId} {v v' : Value} {xs ys : List Value} (h : w.ownsRow B e j v n xs) (h' : w.ownsRow B' e' k v' m ys) (hne : e ≠ e') (g : Nat) (hg : v.ownBlock = some g) : v'.ownBlock ≠ some g := by
  intro hg'
  rcases h.2 with ⟨rfl, _⟩ | ⟨g1, cap, cur, rfl, _, hh, _⟩
  · cases hg
  · cases hg
    rcases h'.2 with ⟨rfl, _⟩ | ⟨g2, cap2, cur2, rfl, _, hh2, _⟩
    · cases hg'
    · cases hg'
      have := hh.symm.trans hh2
      simp only [Option.some.injEq, Obj.cells.injEq] at this
      exact hne this.2.1
end Go.Proofs.YtgilnjngphhhlaaGreat
