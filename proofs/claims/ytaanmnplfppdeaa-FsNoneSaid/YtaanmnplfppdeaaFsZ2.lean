/- Layer 1: a clone that is being made: what holds of it. -/
import Derived.Test.YtaanmnplfppdeaaFsZ1
namespace Go.Fsy
open Go.RowKit Go.Maps Go.Lec
/-- A map that reads as a directory but for what is still to come. -/
structure Part (fid : Nat → Nat) (D : DataW Unit) (l rem : Dir) : Prop where
  map : Tidy D
  size : Maps.size D + rem.length = l.length
  has : ∀ n, Maps.has D (strL n) = ((node l n).isSome && (node rem n).isNone)
  at_ : ∀ n i, node l n = some i → node rem n = none → ∀ z, D.atKey (strL n) z = .lit (.int .i64 (fid i))
theorem Part.start (fid : Nat → Nat) (l : Dir) : Part fid (.map []) l l :=
  ⟨tidy_empty, by show 0 + l.length = l.length; omega, fun n => by cases h : node l n <;> simp [h] <;> rfl, fun n i h1 h2 => by rw [h1] at h2; cases h2⟩
theorem Part.put {fid : Nat → Nat} {D : DataW Unit} {l rem : Dir} {n : Bs} {i : Nat} (h : Part fid D l rem) (hr : (rem.map (·.1)).Nodup) (h1 : node rem n = some i) (h2 : node l n = some i) : Part fid (D.put (strL n) (.lit (.int .i64 (fid i)))) l (without rem n) := by
  have hn : Maps.has D (strL n) = false := by rw [h.has, h1]; simp
  refine ⟨h.map.put (strL_key n) _, ?_, fun m => ?_, fun m j hm hr' z => ?_⟩
  · have e1 := size_put (k := strL n) h.map (.lit (.int .i64 (fid i)))
    have e2 := len_without hr n
    have e3 := h.size
    rw [hn] at e1
    rw [h1] at e2
    simp at e1 e2
    omega
  · by_cases hm : m = n
    · subst hm
      rw [has_put_same h.map.isMap (strL_key m), node_without_same, h2]; rfl
    · rw [has_put_other (strL_ne hm), h.has, node_without_other hm]
  · by_cases hmn : m = n
    · subst hmn
      rw [h2] at hm; cases hm
      rw [atKey_put_same h.map.isMap (strL_key m)]
    · rw [node_without_other hmn] at hr'
      rw [atKey_put_other (strL_ne hmn), h.at_ m j hm hr']
theorem Part.done {fid : Nat → Nat} {D : DataW Unit} {l : Dir} (h : Part fid D l []) : Rep fid D l :=
  ⟨h.map, by have := h.size; simpa using this, fun n => by rw [h.has]; simp [node], fun n i hn z => h.at_ n i hn rfl z⟩
theorem Part.fids {f g : Nat → Nat} {D : DataW Unit} {l rem : Dir} (h : Part f D l rem) (he : ∀ n i, node l n = some i → node rem n = none → f i = g i) : Part g D l rem :=
  ⟨h.map, h.size, h.has, fun n i h1 h2 z => by rw [h.at_ n i h1 h2, he n i h1 h2]⟩
theorem flat_congr {α β : Type} {f g : α → List β} : ∀ (l : List α), (∀ m ∈ l, f m = g m) → l.flatMap f = l.flatMap g
  | [], _ => rfl
  | a :: l, h => by rw [List.flatMap_cons, List.flatMap_cons, h a List.mem_cons_self, flat_congr l (fun m hm => h m (List.mem_cons_of_mem _ hm))]
theorem mvCs_same {f g : Nat → Nat} {m : Mv} (h : ∀ i, m.nd = some i → f i = g i) : mvCs f m = mvCs g m := by
  cases m with
  | made a i => simp [mvCs, h i rfl]
  | ren a b i => simp [mvCs, h i rfl]
  | rem a => rfl
theorem valP_map {f : Nat → Nat} {g : Nat → Value} {i : Nat} : ∀ (l : List Nat), (∀ j ∈ l, f j = f i → j = i) → valP (l.map fun j => (f j, g j)) (f i) = if i ∈ l then some (g i) else none
  | [], _ => rfl
  | j :: l, h => by
    unfold valP
    rw [List.map_cons, List.find?_cons]
    by_cases hj : f j = f i
    · have hji := h j List.mem_cons_self hj
      subst hji
      simp
    · have : ((f j, g j).1 == f i) = false := by rw [beq_eq_false_iff_ne]; exact hj
      rw [this]
      have ih := valP_map l (fun k hk => h k (List.mem_cons_of_mem _ hk)) (f := f) (g := g) (i := i)
      unfold valP at ih
      simp only
      rw [ih]
      have hne : i ≠ j := fun e => hj (by rw [e])
      simp [hne]
theorem grown_kb {w w' : World} {m : Nat} (h : KbP (fun b => b = m) w w') : w.grownBy w' (some m) := ⟨h.os, h.tape, h.output, h.size, fun k hk hne => h.block k hk (fun e => hne (by rw [e]))⟩
end Go.Fsy
namespace Go.Proofs.Ytaanmnplfppdeaa
open Go.RowKit Go.Lec Go.Fsy Go.Op Go.Maps
/-- A clone that is being made: cb of the file system s that lies as G says, read from I; mb is the map of what was copied, in sb's cell. -/
structure ClG (I : Nat → Prop) (w : World) (s : St) (G : Geo) (mb sb cb : Nat) (X' I' : Nat → Prop) (W : World) (Gc : Geo) (rem1 rem2 : Dir) (k : Nat) (done : List Nat) : Prop where
  bk : Bk W cb 38 (fsCs s Gc)
  rk : RdP I' W Gc.AK s.pl.keep.length (ics s.pl.keep)
  rf : RdP I' W Gc.AF s.pl.fail.length (ics s.pl.fail)
  ru : RdP I' W Gc.AU s.pl.full.length (ics s.pl.full)
  nk : s.pl.keep.length ≤ Gc.cK
  nf : s.pl.fail.length ≤ Gc.cF
  nu : s.pl.full.length ≤ Gc.cU
  dmap : W.ownsMap Try.prog 9 ptrR Gc.dm (Maps.size Gc.D1) Gc.D1
  smap : W.ownsMap Try.prog 9 ptrR Gc.sm (Maps.size Gc.D2) Gc.D2
  p1 : Part Gc.fid Gc.D1 s.dir rem1
  p2 : Part Gc.fid Gc.D2 s.safe rem2
  mvs : OwnK W 0 70 3 Gc.mv k ((s.mvs.take k).flatMap (mvCs Gc.fid))
  sbk : Bk W sb 85 #[.map (some mb)]
  km : KmP W mb (done.map fun i => (G.fid i, ptrV (Gc.fid i)))
  al : ∀ i ∈ done, alive s i
  c1 : ∀ n i, node s.dir n = some i → node rem1 n = none → i ∈ done
  c2 : ∀ n i, node s.safe n = some i → node rem2 n = none → i ∈ done
  c3 : ∀ m ∈ s.mvs.take k, ∀ i, m.nd = some i → i ∈ done
  files : ∀ i ∈ done, FileOk X' I' W (Gc.fid i) (Gc.lv i) (ndAt s.nodes i)
  inj : ∀ i ∈ done, ∀ j ∈ done, Gc.fid i = Gc.fid j → i = j
  injl : ∀ i ∈ done, ∀ j ∈ done, ∀ g, (Gc.lv i).ownBlock = some g → (Gc.lv j).ownBlock = some g → i = j
  ne : Gc.dm ≠ Gc.sm
  xcb : X' cb
  xdm : X' Gc.dm
  xsm : X' Gc.sm
  xmv : ∀ g, Gc.mv.ownBlock = some g → X' g
  xi : ∀ b, I' b → ¬ X' b
  lt : ∀ b, X' b ∨ I' b → b < W.heap.size
  xlow : ∀ b, X' b → w.heap.size ≤ b
  ilow : ∀ b, I' b → I b ∨ w.heap.size ≤ b
  iin : ∀ b, I b → I' b
  mx : ¬ X' mb
  mi : ¬ I' mb
  mlow : w.heap.size ≤ mb
  sx : ¬ X' sb
  slow : w.heap.size ≤ sb
  bl : Below w.heap.size w W
section
variable {X I X' I' : Nat → Prop} {w W W' : World} {s : St} {G Gc : Geo} {mb sb cb k fb : Nat} {rem1 rem2 : Dir} {done : List Nat}
theorem ClG.kbP {Y : Nat → Prop} (h : ClG I w s G mb sb cb X' I' W Gc rem1 rem2 k done) (hk : KbP Y W W') (hX : ∀ b, X' b → ¬ Y b) (hI : ∀ b, I' b → ¬ Y b) (hm : ¬ Y mb) (hs : ¬ Y sb) (hl : ∀ b, Y b → w.heap.size ≤ b) : ClG I w s G mb sb cb X' I' W' Gc rem1 rem2 k done :=
  ⟨h.bk.kbP hk (hX _ h.xcb), h.rk.kbP hk hI, h.rf.kbP hk hI, h.ru.kbP hk hI, h.nk, h.nf, h.nu, ownsMap_kbP h.dmap hk (hX _ h.xdm), ownsMap_kbP h.smap hk (hX _ h.xsm), h.p1, h.p2, OwnK.kbP h.mvs hk (fun g hg => hX _ (h.xmv g hg)), h.sbk.kbP hk hs, h.km.kbP hk hm, h.al, h.c1, h.c2, h.c3,
   fun i hi => (h.files i hi).kbP hk (hX _ (h.files i hi).xf) (fun g hg => hX _ ((h.files i hi).xl g hg)) hI, h.inj, h.injl, h.ne, h.xcb, h.xdm, h.xsm, h.xmv, h.xi, fun b hb => Nat.lt_of_lt_of_le (h.lt b hb) hk.size, h.xlow, h.ilow, h.iin, h.mx, h.mi, h.mlow, h.sx, h.slow, h.bl.trans (hk.below hl h.bl.size)⟩
theorem ClG.below (h : ClG I w s G mb sb cb X' I' W Gc rem1 rem2 k done) (hb : Below W.heap.size W W') : ClG I w s G mb sb cb X' I' W' Gc rem1 rem2 k done :=
  h.kbP (Y := fun _ => False) (KbP.of_below hb) (fun _ _ h => h) (fun _ _ h => h) (fun h => h) (fun h => h) (fun _ h => h.elim)
/-- The beginning: a new file system, told whether it is dead and how many operations there were. -/
theorem ClG.start {X0 I0 : Nat → Prop} (hG : FsG X0 I0 W cb { Fsy.new s.pl with died := s.died, cnt := s.cnt } Gc) (hx : ∀ b, X0 b → w.heap.size ≤ b) (hi0 : ∀ b, I0 b → w.heap.size ≤ b) (hI : ∀ b, I b → b < w.heap.size) (hb : Below w.heap.size w W)
    (hmb : KmP W mb []) (hsb : Bk W sb 85 #[.map (some mb)]) (hm1 : ¬ X0 mb) (hm2 : ¬ I0 mb) (hm3 : w.heap.size ≤ mb) (hs1 : ¬ X0 sb) (hs3 : w.heap.size ≤ sb) : ClG I w s G mb sb cb X0 (fun b => I b ∨ I0 b) W Gc s.dir s.safe 0 [] := by
  have hp : ∀ {D : DataW Unit} (l : Dir), Rep Gc.fid D [] → Part Gc.fid D l l := fun {D} l hr => ⟨hr.map, by rw [hr.size]; simp, fun n => by rw [hr.has]; cases h : node l n <;> simp [node], fun n i h1 h2 => by rw [h1] at h2; cases h2⟩
  refine ⟨hG.bk, hG.rk.more (fun b => .inr), hG.rf.more (fun b => .inr), hG.ru.more (fun b => .inr), hG.nk, hG.nf, hG.nu, own_tight hG.dmap, own_tight hG.smap, hp s.dir hG.rep1, hp s.safe hG.rep2, (by rw [List.take_zero]; exact hG.mvs), hsb, hmb, (fun i hi => by cases hi), (fun n i h1 h2 => by rw [h1] at h2; cases h2), (fun n i h1 h2 => by rw [h1] at h2; cases h2), (fun m hm => by simp at hm), (fun i hi => by cases hi), (fun i hi => by cases hi), (fun i hi => by cases hi), hG.ne, hG.xfb, hG.xdm, hG.xsm, hG.xmv, ?_, ?_, hx, ?_, fun b => .inl, hm1, ?_, hm3, hs1, hs3, hb⟩
  · rintro b (h | h) hxb
    · have := hI b h; have := hx b hxb; omega
    · exact hG.xi b h hxb
  · rintro b (h | h | h)
    · exact hG.lt b (.inl h)
    · have := hI b h; have := hb.size; omega
    · exact hG.lt b (.inr h)
  · rintro b (h | h)
    · exact .inl h
    · exact .inr (hi0 b h)
  · rintro (h | h)
    · have := hI _ h; omega
    · exact hm2 h
/-- What the closure leaves. -/
def CpP (I : Nat → Prop) (w : World) (s : St) (G : Geo) (mb sb cb : Nat) (X' I' : Nat → Prop) (W : World) (Gc : Geo) (rem1 rem2 : Dir) (k : Nat) (i : Nat) (e : Ending) (W' : World) : Prop :=
  ∃ X'' I'' Gc' done', e = .returned (ptrV (Gc'.fid i)) ∧ ClG I w s G mb sb cb X'' I'' W' Gc' rem1 rem2 k done' ∧ i ∈ done' ∧ Gc'.dm = Gc.dm ∧ Gc'.sm = Gc.sm ∧ Gc'.mv = Gc.mv ∧ Gc'.D1 = Gc.D1 ∧ Gc'.D2 = Gc.D2 ∧ KbP (fun b => b = mb) W W' ∧ (∀ b, X'' b → X' b ∨ W.heap.size ≤ b) ∧ (∀ b, I'' b → I' b ∨ W.heap.size ≤ b)
theorem c_cp {N i : Nat} (hS : FsG X I w fb s G) (hi : Fsy.Inv s N) (hN : N ≤ 1048576) (h : ClG I w s G mb sb cb X' I' W Gc rem1 rem2 k done) (hal : alive s i) :
    Calls Try.prog 36 #[ptrV (G.fid i), .pointer (some ⟨sb, 0, none⟩)] W (CpP I w s G mb sb cb X' I' W Gc rem1 rem2 k i) := by
  have hW := hS.below h.bl
  have hF := hW.files i hal
  obtain ⟨cs, hB⟩ := hF.bk
  have hvp := valP_map (f := G.fid) (g := fun j => ptrV (Gc.fid j)) (i := i) done (fun j hj e => hS.inj j i (h.al j hj) hal e)
  have hL : ∀ p ∈ done.map (fun i => (G.fid i, ptrV (Gc.fid i))), plainB W p.1 := by
    intro p hp
    obtain ⟨j, hj, rfl⟩ := List.mem_map.1 hp
    obtain ⟨cs', hB'⟩ := (hW.files j (h.al j hj)).bk
    exact hB'.plain
  by_cases hd : i ∈ done
  · rw [if_pos hd] at hvp
    refine (c_copied_old W h.sbk hB.plain hL h.km hvp).mono ?_
    rintro e W' ⟨rfl, rfl⟩
    exact ⟨X', I', Gc, done, rfl, h, hd, rfl, rfl, rfl, rfl, rfl, KbP.refl _ _, fun b hb => .inl hb, fun b hb => .inl hb⟩
  · rw [if_neg hd] at hvp
    have hsz := hi.size i
    have hch := (hi.nd i).2
    have hsf := fits_head (hi.nd i).1
    have hImb : ∀ b, I b → b ≠ mb := fun b hb e => h.mi (e ▸ h.iin b hb)
    refine (c_copied_new W (N := N) h.sbk hB.plain hL h.km hvp hF hImb (fun b hb => h.lt b (.inr (h.iin b hb))) (hB.plain.ne h.km) hsf hsz (by omega)).mono ?_
    rintro e W' ⟨nb, lv', rfl, hkm, hnb1, hnb2, hlv, hfl, hk⟩
    have hXl : ∀ b, X' b → b < W.heap.size := fun b hb => h.lt b (.inl hb)
    have hIl : ∀ b, I' b → b < W.heap.size := fun b hb => h.lt b (.inr hb)
    have hXm : ∀ b, X' b → ¬ b = mb := fun b hb e => h.mx (e ▸ hb)
    have hIm : ∀ b, I' b → ¬ b = mb := fun b hb e => h.mi (e ▸ hb)
    have hml := h.km.lt
    have hws := h.bl.size
    have hsbm : sb ≠ mb := h.sbk.plain.ne h.km
    have hsl := h.sbk.lt
    have hne : ∀ j ∈ done, j ≠ i := fun j hj e => hd (e ▸ hj)
    have ef : ∀ j ∈ done, (if j = i then nb else Gc.fid j) = Gc.fid j := fun j hj => if_neg (hne j hj)
    have el : ∀ j ∈ done, (if j = i then lv' else Gc.lv j) = Gc.lv j := fun j hj => if_neg (hne j hj)
    have hold : ∀ j ∈ done, FileOk (fun b => X' b ∨ b = nb ∨ lv'.ownBlock = some b) (fun b => I' b ∨ (W.heap.size ≤ b ∧ b < W'.heap.size ∧ b ≠ nb ∧ lv'.ownBlock ≠ some b)) W' (Gc.fid j) (Gc.lv j) (ndAt s.nodes j) := fun j hj =>
      ((h.files j hj).kbP hk (hXm _ (h.files j hj).xf) (fun g hg => hXm _ ((h.files j hj).xl g hg)) hIm).more (fun b => .inl) (fun b => .inl)
    refine ⟨fun b => X' b ∨ b = nb ∨ lv'.ownBlock = some b, fun b => I' b ∨ (W.heap.size ≤ b ∧ b < W'.heap.size ∧ b ≠ nb ∧ lv'.ownBlock ≠ some b), { Gc with fid := fun j => if j = i then nb else Gc.fid j, lv := fun j => if j = i then lv' else Gc.lv j }, done ++ [i], ?_, ?_, by simp, rfl, rfl, rfl, rfl, rfl, hk, ?_, ?_⟩
    · show _ = Ending.returned (ptrV (if i = i then nb else Gc.fid i)); rw [if_pos rfl]
    · refine ⟨h.bk.kbP hk (hXm _ h.xcb), (h.rk.kbP hk hIm).more (fun b => .inl), (h.rf.kbP hk hIm).more (fun b => .inl), (h.ru.kbP hk hIm).more (fun b => .inl), h.nk, h.nf, h.nu, ownsMap_kbP h.dmap hk (hXm _ h.xdm), ownsMap_kbP h.smap hk (hXm _ h.xsm), h.p1.fids (fun n j h1 h2 => (ef j (h.c1 n j h1 h2)).symm), h.p2.fids (fun n j h1 h2 => (ef j (h.c2 n j h1 h2)).symm), ?_, h.sbk.kbP hk hsbm, ?_, ?_,
        fun n j h1 h2 => List.mem_append_left _ (h.c1 n j h1 h2), fun n j h1 h2 => List.mem_append_left _ (h.c2 n j h1 h2), fun m hm j hj => List.mem_append_left _ (h.c3 m hm j hj), ?_, ?_, ?_, h.ne, .inl h.xcb, .inl h.xdm, .inl h.xsm, fun g hg => .inl (h.xmv g hg), ?_, ?_, ?_, ?_, fun b hb => .inl (h.iin b hb), ?_, ?_, h.mlow, ?_, h.slow, h.bl.trans (hk.below (fun b e => by rw [e]; exact h.mlow) hws)⟩
      · have e : (s.mvs.take k).flatMap (mvCs (fun j => if j = i then nb else Gc.fid j)) = (s.mvs.take k).flatMap (mvCs Gc.fid) := flat_congr _ (fun m hm => mvCs_same (fun j hj => ef j (h.c3 m hm j hj)))
        show OwnK W' 0 _ 3 Gc.mv k ((s.mvs.take k).flatMap (mvCs (fun j => if j = i then nb else Gc.fid j)))
        rw [e]
        exact OwnK.kbP h.mvs hk (fun g hg => hXm _ (h.xmv g hg))
      · have e : (done ++ [i]).map (fun j => (G.fid j, ptrV (if j = i then nb else Gc.fid j))) = done.map (fun j => (G.fid j, ptrV (Gc.fid j))) ++ [(G.fid i, ptrV nb)] := by
          rw [List.map_append, List.map_cons, List.map_nil, if_pos rfl]
          congr 1
          exact List.map_congr_left (fun j hj => by rw [ef j hj])
        show KmP W' mb ((done ++ [i]).map (fun j => (G.fid j, ptrV (if j = i then nb else Gc.fid j))))
        rw [e]; exact hkm
      · intro j hj
        rcases List.mem_append.1 hj with hj | hj
        · exact h.al j hj
        · rw [List.mem_singleton] at hj; subst hj; exact hal
      · intro j hj
        show FileOk _ _ W' (if j = i then nb else Gc.fid j) (if j = i then lv' else Gc.lv j) _
        rcases List.mem_append.1 hj with hj | hj
        · rw [ef j hj, el j hj]; exact hold j hj
        · rw [List.mem_singleton] at hj; subst hj
          rw [if_pos rfl, if_pos rfl]
          exact hfl.more (fun b => .inr) (fun b hb => hb.imp_left (h.iin b))
      · intro j hj l hl he
        change (if j = i then nb else Gc.fid j) = (if l = i then nb else Gc.fid l) at he
        rcases List.mem_append.1 hj with hj | hj
        · rw [ef j hj] at he
          have := hXl _ (h.files j hj).xf
          rcases List.mem_append.1 hl with hl | hl
          · rw [ef l hl] at he; exact h.inj j hj l hl he
          · rw [List.mem_singleton] at hl; subst hl; rw [if_pos rfl] at he; omega
        · rw [List.mem_singleton] at hj; subst hj
          rw [if_pos rfl] at he
          rcases List.mem_append.1 hl with hl | hl
          · rw [ef l hl] at he
            have := hXl _ (h.files l hl).xf
            omega
          · rw [List.mem_singleton] at hl; exact hl.symm
      · intro j hj l hl g hg1 hg2
        change (if j = i then lv' else Gc.lv j).ownBlock = some g at hg1
        change (if l = i then lv' else Gc.lv l).ownBlock = some g at hg2
        rcases List.mem_append.1 hj with hj | hj
        · rw [el j hj] at hg1
          have := hXl _ ((h.files j hj).xl g hg1)
          rcases List.mem_append.1 hl with hl | hl
          · rw [el l hl] at hg2; exact h.injl j hj l hl g hg1 hg2
          · rw [List.mem_singleton] at hl; subst hl; rw [if_pos rfl] at hg2; have := hlv g hg2; omega
        · rw [List.mem_singleton] at hj; subst hj
          rw [if_pos rfl] at hg1
          have := hlv g hg1
          rcases List.mem_append.1 hl with hl | hl
          · rw [el l hl] at hg2
            have := hXl _ ((h.files l hl).xl g hg2)
            omega
          · rw [List.mem_singleton] at hl; exact hl.symm
      · rintro b (hb | hb) (hx | hx | hx)
        · exact h.xi b hb hx
        · have := hIl b hb; omega
        · have := hIl b hb; have := hlv b hx; omega
        · have := hXl b hx; omega
        · exact hb.2.2.1 hx
        · exact hb.2.2.2 hx
      · have hs2 := hk.size
        rintro b ((hb | hb | hb) | (hb | hb))
        · have := hXl b hb; omega
        · omega
        · have := hlv b hb; omega
        · have := hIl b hb; omega
        · omega
      · rintro b (hb | hb | hb)
        · exact h.xlow b hb
        · omega
        · have := hlv b hb; omega
      · rintro b (hb | hb)
        · exact h.ilow b hb
        · exact .inr (by omega)
      · rintro (hx | hx | hx)
        · exact h.mx hx
        · omega
        · have := hlv _ hx; omega
      · rintro (hx | hx)
        · exact h.mi hx
        · omega
      · rintro (hx | hx | hx)
        · exact h.sx hx
        · omega
        · have := hlv _ hx; omega
    · rintro b (hb | hb | hb)
      · exact .inl hb
      · exact .inr (by omega)
      · have := hlv b hb; exact .inr (by omega)
    · rintro b (hb | hb)
      · exact .inl hb
      · exact .inr hb.1
/-- What all the others are, beside one map of the clone's. -/
theorem ClG.off (h : ClG I w s G mb sb cb X' I' W Gc rem1 rem2 k done) {b n : Nat} {D : DataW Unit} (hm : W.ownsMap Try.prog 9 ptrR b n D) :
    cb ≠ b ∧ sb ≠ b ∧ (∀ g, Gc.mv.ownBlock = some g → g ≠ b) ∧ ∀ i ∈ done, Gc.fid i ≠ b ∧ ∀ g, (Gc.lv i).ownBlock = some g → g ≠ b :=
  ⟨bk_map h.bk hm, bk_map h.sbk hm, fun g hg e => own_map h.mvs hm (e ▸ hg), fun i hi => by
    obtain ⟨cs, hB⟩ := (h.files i hi).bk
    obtain ⟨vs, hO⟩ := (h.files i hi).own
    exact ⟨bk_map hB hm, fun g hg e => own_map hO hm (e ▸ hg)⟩⟩
theorem ClG.putDir {n : Bs} {i : Nat} (h : ClG I w s G mb sb cb X' I' W Gc rem1 rem2 k done) (hr : (rem1.map (·.1)).Nodup) (h1 : node rem1 n = some i) (h2 : node s.dir n = some i) (hd : i ∈ done) {m : Nat} (hm : W'.ownsMap Try.prog 9 ptrR Gc.dm m (Gc.D1.put (strL n) (.lit (.int .i64 (Gc.fid i))))) (hk : KbP (fun b => b = Gc.dm) W W') :
    ClG I w s G mb sb cb X' I' W' { Gc with D1 := Gc.D1.put (strL n) (.lit (.int .i64 (Gc.fid i))) } (without rem1 n) rem2 k done := by
  have hI : ∀ b, I' b → ¬ b = Gc.dm := fun b hb e => h.xi b hb (e ▸ h.xdm)
  obtain ⟨o1, o2, o3, o4⟩ := h.off h.dmap
  refine ⟨h.bk.kbP hk o1, h.rk.kbP hk hI, h.rf.kbP hk hI, h.ru.kbP hk hI, h.nk, h.nf, h.nu, own_tight hm, ownsMap_kbP h.smap hk (Ne.symm h.ne), h.p1.put hr h1 h2, h.p2, OwnK.kbP h.mvs hk o3, h.sbk.kbP hk o2, h.km.kbP hk (fun e => h.mx (e ▸ h.xdm)), h.al, ?_, h.c2, h.c3,
   fun i hi => (h.files i hi).kbP hk (o4 i hi).1 (o4 i hi).2 hI, h.inj, h.injl, h.ne, h.xcb, h.xdm, h.xsm, h.xmv, h.xi, fun b hb => Nat.lt_of_lt_of_le (h.lt b hb) hk.size, h.xlow, h.ilow, h.iin, h.mx, h.mi, h.mlow, h.sx, h.slow, h.bl.trans (hk.below (fun b e => by rw [e]; exact h.xlow _ h.xdm) h.bl.size)⟩
  intro a j ha hr'
  by_cases e : a = n
  · subst e; rw [h2] at ha; cases ha; exact hd
  · rw [node_without_other e] at hr'; exact h.c1 a j ha hr'
theorem ClG.putSafe {n : Bs} {i : Nat} (h : ClG I w s G mb sb cb X' I' W Gc rem1 rem2 k done) (hr : (rem2.map (·.1)).Nodup) (h1 : node rem2 n = some i) (h2 : node s.safe n = some i) (hd : i ∈ done) {m : Nat} (hm : W'.ownsMap Try.prog 9 ptrR Gc.sm m (Gc.D2.put (strL n) (.lit (.int .i64 (Gc.fid i))))) (hk : KbP (fun b => b = Gc.sm) W W') :
    ClG I w s G mb sb cb X' I' W' { Gc with D2 := Gc.D2.put (strL n) (.lit (.int .i64 (Gc.fid i))) } rem1 (without rem2 n) k done := by
  have hI : ∀ b, I' b → ¬ b = Gc.sm := fun b hb e => h.xi b hb (e ▸ h.xsm)
  obtain ⟨o1, o2, o3, o4⟩ := h.off h.smap
  refine ⟨h.bk.kbP hk o1, h.rk.kbP hk hI, h.rf.kbP hk hI, h.ru.kbP hk hI, h.nk, h.nf, h.nu, ownsMap_kbP h.dmap hk h.ne, own_tight hm, h.p1, h.p2.put hr h1 h2, OwnK.kbP h.mvs hk o3, h.sbk.kbP hk o2, h.km.kbP hk (fun e => h.mx (e ▸ h.xsm)), h.al, h.c1, ?_, h.c3,
   fun i hi => (h.files i hi).kbP hk (o4 i hi).1 (o4 i hi).2 hI, h.inj, h.injl, h.ne, h.xcb, h.xdm, h.xsm, h.xmv, h.xi, fun b hb => Nat.lt_of_lt_of_le (h.lt b hb) hk.size, h.xlow, h.ilow, h.iin, h.mx, h.mi, h.mlow, h.sx, h.slow, h.bl.trans (hk.below (fun b e => by rw [e]; exact h.xlow _ h.xsm) h.bl.size)⟩
  intro a j ha hr'
  by_cases e : a = n
  · subst e; rw [h2] at ha; cases ha; exact hd
  · rw [node_without_other e] at hr'; exact h.c2 a j ha hr'
/-- A move is noted. -/
theorem ClG.addMv {v : Value} (h : ClG I w s G mb sb cb X' I' W Gc rem1 rem2 k done) (hk : k < s.mvs.length) (hd : ∀ i, (s.mvs[k]).nd = some i → i ∈ done) (ho : OwnK W' 0 70 3 v (k + 1) ((s.mvs.take k).flatMap (mvCs Gc.fid) ++ mvCs Gc.fid s.mvs[k])) (hat : v.ownBlock = Gc.mv.ownBlock ∨ ∃ g, v.ownBlock = some g ∧ W.heap.size ≤ g)
    (hkb : KbP (fun b => b = cb ∨ Gc.mv.ownBlock = some b) W W') (hb : Bk W' cb 38 (fsCs s { Gc with mv := v })) : ClG I w s G mb sb cb (fun b => X' b ∨ v.ownBlock = some b) I' W' { Gc with mv := v } rem1 rem2 (k + 1) done := by
  have hYX : ∀ b, (b = cb ∨ Gc.mv.ownBlock = some b) → X' b := by
    rintro b (rfl | hb)
    · exact h.xcb
    · exact h.xmv b hb
  have hI : ∀ b, I' b → ¬ (b = cb ∨ Gc.mv.ownBlock = some b) := fun b hb e => h.xi b hb (hYX b e)
  have hv : ∀ b, v.ownBlock = some b → X' b ∨ W.heap.size ≤ b := fun b hb => by
    rcases hat with e | ⟨g, e, hg⟩
    · exact .inl (h.xmv b (e ▸ hb))
    · rw [e] at hb; cases hb; exact .inr hg
  obtain ⟨o1, o2, o3, o4⟩ := h.off h.dmap
  obtain ⟨u1, u2, u3, u4⟩ := h.off h.smap
  have hws := h.bl.size
  have hml := h.km.lt
  have hsl := h.sbk.lt
  refine ⟨hb, h.rk.kbP hkb hI, h.rf.kbP hkb hI, h.ru.kbP hkb hI, h.nk, h.nf, h.nu, ownsMap_kbP h.dmap hkb ?_, ownsMap_kbP h.smap hkb ?_, h.p1, h.p2, ?_, h.sbk.kbP hkb (fun e => h.sx (hYX _ e)), h.km.kbP hkb (fun e => h.mx (hYX _ e)), h.al, h.c1, h.c2, ?_,
   fun i hi => ?_, h.inj, h.injl, h.ne, .inl h.xcb, .inl h.xdm, .inl h.xsm, fun g hg => .inr hg, ?_, ?_, ?_, h.ilow, h.iin, ?_, h.mi, h.mlow, ?_, h.slow, h.bl.trans (hkb.below (fun b e => h.xlow b (hYX b e)) hws)⟩
  · rintro (e | e)
    · exact o1 e.symm
    · exact o3 _ e rfl
  · rintro (e | e)
    · exact u1 e.symm
    · exact u3 _ e rfl
  · rw [List.take_succ_eq_append_getElem hk, List.flatMap_append]
    simpa using ho
  · intro m hm i hi
    rw [List.take_succ_eq_append_getElem hk] at hm
    rcases List.mem_append.1 hm with hm | hm
    · exact h.c3 m hm i hi
    · rw [List.mem_singleton] at hm; subst hm; exact hd i hi
  · obtain ⟨cs, hB⟩ := (h.files i hi).bk
    obtain ⟨vs, hO⟩ := (h.files i hi).own
    refine ((h.files i hi).kbP hkb ?_ ?_ hI).more (fun b => .inl) (fun b hb => hb)
    · rintro (e | e)
      · exact bk_ne h.bk hB (by decide) e.symm
      · exact own_bkK h.mvs hB (by decide) e
    · rintro g hg (e | e)
      · exact own_bkK hO h.bk (by decide) (e ▸ hg)
      · exact own_own h.mvs hO (by decide) g e hg
  · rintro b hb (hx | hx)
    · exact h.xi b hb hx
    · rcases hv b hx with e | e
      · exact h.xi b hb e
      · have := h.lt b (.inr hb); omega
  · rintro b ((hb' | hb') | hb')
    · exact Nat.lt_of_lt_of_le (h.lt b (.inl hb')) hkb.size
    · exact (World.ownsRow.lt ho b hb').2
    · exact Nat.lt_of_lt_of_le (h.lt b (.inr hb')) hkb.size
  · rintro b (hb' | hb')
    · exact h.xlow b hb'
    · rcases hv b hb' with e | e
      · exact h.xlow b e
      · omega
  · rintro (e | e)
    · exact h.mx e
    · rcases hv _ e with e | e
      · exact h.mx e
      · omega
  · rintro (e | e)
    · exact h.sx e
    · rcases hv _ e with e | e
      · exact h.sx e
      · omega
theorem ClG.fin (h : ClG I w s G mb sb cb X' I' W Gc [] [] s.mvs.length done) {N : Nat} (hi : Fsy.Inv s N) : FsG X' I' W cb s Gc := by
  have hal : ∀ i, alive s i → i ∈ done := by
    rintro i (⟨n, hn⟩ | ⟨n, hn⟩ | ⟨m, hm, hd⟩)
    · exact h.c1 n i (node_of_mem hi.dir.1 hn) rfl
    · exact h.c2 n i (node_of_mem hi.safe.1 hn) rfl
    · exact h.c3 m (by rw [List.take_length]; exact hm) i hd
  have e1 := h.p1.size
  have e2 := h.p2.size
  rw [List.length_nil, Nat.add_zero] at e1 e2
  have hm := h.mvs
  rw [List.take_length] at hm
  exact ⟨h.bk, h.rk, h.rf, h.ru, h.nk, h.nf, h.nu, e1 ▸ h.dmap, e2 ▸ h.smap, h.p1.done, h.p2.done, hm, fun i hi' => h.files i (hal i hi'), fun i j hi' hj => h.inj i (hal i hi') j (hal j hj), fun i j g hi' hj => h.injl i (hal i hi') j (hal j hj) g, h.ne, h.xcb, h.xdm, h.xsm, h.xmv, h.xi, h.lt⟩
end
end Go.Proofs.Ytaanmnplfppdeaa
