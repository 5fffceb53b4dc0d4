/- Layer 1: a death: the walk of die. -/
import Derived.Test.YtgilnjngphhhlaaGreatFsM
import Derived.Deep.RegionWith
namespace Go.Fsy
theorem dieDir_alive {s : St} {i : Nat} {n : Bs} (h : (n, i) ∈ dieDir s) : (∃ m, (m, i) ∈ s.safe) ∨ ∃ m ∈ s.mvs, m.nd = some i := by
  have key : ∀ (ms : List Mv) (l : Dir), (n, i) ∈ ms.foldl moved l → (∃ m, (m, i) ∈ l) ∨ ∃ m ∈ ms, m.nd = some i := by
    intro ms
    induction ms with
    | nil => intro l h; exact .inl ⟨n, h⟩
    | cons m ms ih =>
      intro l h
      rw [List.foldl_cons] at h
      rcases ih _ h with ⟨a, ha⟩ | ⟨m', hm', hd⟩
      · cases m with
        | made b k =>
          rcases List.mem_append.1 ha with ha | ha
          · exact .inl ⟨a, (without_sub _ _).subset ha⟩
          · rw [List.mem_singleton] at ha; cases ha; exact .inr ⟨_, List.mem_cons_self, rfl⟩
        | ren b c k =>
          rcases List.mem_append.1 ha with ha | ha
          · exact .inl ⟨a, (without_sub _ _).subset ((without_sub _ _).subset ha)⟩
          · rw [List.mem_singleton] at ha; cases ha; exact .inr ⟨_, List.mem_cons_self, rfl⟩
        | rem b => exact .inl ⟨a, (without_sub _ _).subset ha⟩
      · exact .inr ⟨m', List.mem_cons_of_mem _ hm', hd⟩
  rcases key _ _ h with h | ⟨m, hm, hd⟩
  · exact .inl h
  · exact .inr ⟨m, List.mem_of_mem_take hm, hd⟩
theorem mvsAt (fid : Nat → Nat) : ∀ (l : List Mv) (k j : Nat) (h : k < l.length), j < 3 → (l.flatMap (mvCs fid))[k * 3 + j]? = (mvCs fid l[k])[j]?
  | [], k, j, h, _ => by simp at h
  | m :: l, 0, j, h, hj => by
    rw [List.flatMap_cons, Nat.zero_mul, Nat.zero_add, List.getElem?_append_left (by rw [mvCs_len]; exact hj)]
    rfl
  | m :: l, k + 1, j, h, hj => by
    rw [List.flatMap_cons, List.getElem?_append_right (by rw [mvCs_len]; omega), mvCs_len]
    have := mvsAt fid l k j (by simpa using h) hj
    rw [show (k + 1) * 3 + j - 3 = k * 3 + j from by omega, this]
    rfl
theorem keepAt_rng {l : List Int} (h : ∀ x ∈ l, -9223372036854775808 ≤ x ∧ x ≤ 9223372036854775807) (i : Nat) : -9223372036854775808 ≤ keepAt l i ∧ keepAt l i ≤ 9223372036854775807 := by
  unfold keepAt
  split
  · omega
  · rename_i h0
    rw [List.getD_eq_getElem?_getD, List.getElem?_eq_getElem (Nat.mod_lt _ (by omega))]
    exact h _ (List.getElem_mem _)
/-- A plan's numbers fit. -/
def Pl.ok (p : Pl) : Prop := p.keep.length ≤ 1099511627776 ∧ p.fail.length ≤ 1099511627776 ∧ p.full.length ≤ 1099511627776 ∧ (∀ x ∈ p.keep, -9223372036854775808 ≤ x ∧ x ≤ 9223372036854775807) ∧ -9223372036854775808 ≤ p.room ∧ p.room ≤ 9223372036854775807
end Go.Fsy
namespace Go.Proofs.YtgilnjngphhhlaaGreat
open Go.RowKit Go.Lec Go.Fsy Go.Op Go.Maps
/-- What an operation leaves of a file system: the next state, and of memory what may turn. -/
def FsE (X I : Nat → Prop) (w : World) (fb : Nat) (s : St) (v : Value) (e : Ending) (w' : World) : Prop := e = .returned v ∧ ∃ X' I', FsP X' I' w' fb s ∧ Grow X I w X' I' w'
theorem FsG.turnFb {X I : Nat → Prop} {w w' : World} {fb : Nat} {s : St} {G : Geo} (h : FsG X I w fb s G) (hk : KbP (fun b => b = fb) w w') (d : Bool) (c : Nat) (hb : Bk w' fb 74 (fsCs { s with died := d, cnt := c } G)) : FsG X I w' fb { s with died := d, cnt := c } G := by
  have hI : ∀ b, I b → ¬ b = fb := fun b hb e => h.xi b hb (e ▸ h.xfb)
  refine ⟨hb, h.rk.kbP hk hI, h.rf.kbP hk hI, h.ru.kbP hk hI, h.nk, h.nf, h.nu, ownsMap_kbP h.dmap hk (fun e => bk_map h.bk h.dmap e.symm), ownsMap_kbP h.smap hk (fun e => bk_map h.bk h.smap e.symm), h.rep1, h.rep2,
    OwnK.kbP h.mvs hk (fun g hg e => own_bkK h.mvs h.bk (by decide) (e ▸ hg)), fun i hi => ?_, h.inj, h.injl, h.ne, h.xfb, h.xdm, h.xsm, h.xmv, h.xi, fun b hb => Nat.lt_of_lt_of_le (h.lt b hb) hk.size⟩
  obtain ⟨vs, hO⟩ := (h.files i hi).own
  obtain ⟨cs, hB⟩ := (h.files i hi).bk
  exact (h.files i hi).kbP hk (fun e => bk_ne h.bk hB (by decide) e.symm) (fun g hg e => own_bkK hO h.bk (by decide) (e ▸ hg)) hI
theorem FsG.turnSafe {X I : Nat → Prop} {w w' : World} {fb : Nat} {s : St} {G : Geo} {l : Dir} {D : DataW Unit} (h : FsG X I w fb s G) (hk : KbP (fun b => b = G.sm) w w') (hm : w'.ownsMap Tryz.prog 9 ptrR G.sm l.length D) (hr : Rep G.fid D l) (ha : ∀ i, alive { s with safe := l } i → alive s i) :
    FsG X I w' fb { s with safe := l } { G with D2 := D } := by
  have hI : ∀ b, I b → ¬ b = G.sm := fun b hb e => h.xi b hb (e ▸ h.xsm)
  refine ⟨h.bk.kbP hk (fun e => bk_map h.bk h.smap e), h.rk.kbP hk hI, h.rf.kbP hk hI, h.ru.kbP hk hI, h.nk, h.nf, h.nu, ownsMap_kbP h.dmap hk h.ne, hm, h.rep1, hr,
    OwnK.kbP h.mvs hk (fun g hg e => own_map h.mvs h.smap (e ▸ hg)), fun i hi => ?_, fun i j hi hj => h.inj i j (ha i hi) (ha j hj), fun i j g hi hj => h.injl i j g (ha i hi) (ha j hj), h.ne, h.xfb, h.xdm, h.xsm, h.xmv, h.xi, fun b hb => Nat.lt_of_lt_of_le (h.lt b hb) hk.size⟩
  have hf := h.files i (ha i hi)
  obtain ⟨vs, hO⟩ := hf.own
  obtain ⟨cs, hB⟩ := hf.bk
  exact hf.kbP hk (fun e => bk_map hB h.smap e) (fun g hg e => own_map hO h.smap (e ▸ hg)) hI
theorem OwnK.taken {w : World} {B e k n c m : Nat} {A : Option Addr} {xs : List Value} (h : OwnK w B e k (.slice A n c) n xs) (hm : m ≤ n) (_hk : 0 < k) : RdK w w.heap.size k A m (xs.take (m * k)) := by
  have h1 := OwnK.rd h
  have hl := h1.1
  refine ⟨by rw [List.length_take, hl]; exact Nat.min_eq_left (Nat.mul_le_mul_right k hm), fun h0 => ?_⟩
  obtain ⟨b, o, e, hb, hc⟩ := h1.2 (by omega)
  refine ⟨b, o, e, hb, fun i u hu => hc i u ?_⟩
  rw [List.getElem?_take] at hu
  split at hu
  · exact hu
  · cases hu
set_option maxRecDepth 100000 in
set_option maxHeartbeats 4000000 in
theorem c_die (w : World) {X I : Nat → Prop} {fb N : Nat} {s : St} (h : FsP X I w fb s) (hi : Fsy.Inv s N) (hN : N ≤ 1048576) (hp : s.pl.ok) :
    Calls Tryz.prog 33 #[ptrV fb] w (FsE X I w fb (Fsy.die s) (.tuple #[])) := by
  obtain ⟨G, hG⟩ := h
  obtain ⟨pb, hpb⟩ : ∃ x, x = w.heap.size := ⟨_, rfl⟩
  have lfb := hG.bk.lt
  have q := hG.bk.cell
  have z := hG.bk.frz
  unfold fsCs at q
  -- the first world: the file system is dead; the parameter's box, the counter
  have hGa := hG.turnFb (((KbP.refl (fun b => b = fb) w).setCell (p := ⟨fb, 7, none⟩) (.inl rfl) (.bool true))) true s.cnt (hG.bk.set_ 7 (.bool true))
  have hk0 : KbP X w (w.setCell ⟨fb, 7, none⟩ (.bool true)) := (KbP.refl _ _).setCell (.inl hG.xfb) _
  have hzw : (w.setCell ⟨fb, 7, none⟩ (.bool true)).heap.size = pb := by simp [hpb]
  have H1 := (Bk.new_ (w.setCell ⟨fb, 7, none⟩ (.bool true)) 25 #[ptrV fb]).alloc (.cells #[.int .i64 0] 3)
  have H2 := Bk.new_ ((w.setCell ⟨fb, 7, none⟩ (.bool true)).alloc (.cells #[ptrV fb] 25)) 3 #[.int .i64 0]
  rw [World.size_alloc] at H2
  have hGb := hGa.below (((Below.refl _ _).alloc (Nat.le_refl _) (.cells #[ptrV fb] 25)).alloc (by simp) (.cells #[.int .i64 0] 3))
  have hk1 := (hk0.alloc (.cells #[ptrV fb] 25)).alloc (.cells #[.int .i64 0] 3)
  have hz1 : (((w.setCell ⟨fb, 7, none⟩ (.bool true)).alloc (.cells #[ptrV fb] 25)).alloc (.cells #[.int .i64 0] 3)).heap.size = pb + 2 := by simp [hpb]
  rw [hzw] at H1 H2
  obtain ⟨W1, hW1⟩ : ∃ x, x = ((w.setCell ⟨fb, 7, none⟩ (.bool true)).alloc (.cells #[ptrV fb] 25)).alloc (.cells #[.int .i64 0] 3) := ⟨_, rfl⟩
  rw [← hW1] at H1 H2 hGb hk1 hz1
  have Hpb := Lib.hid hpb
  have HW1 := Lib.hid hW1
  obtain ⟨Am, cm, hmv, hcm⟩ := hGb.mvs.shape
  have lfb1 : fb < pb := by rw [hpb]; exact lfb
  clear hpb hW1 hGa hk0 hzw
  unfold ptrV at *
  go_enter Tryz.func33, Tryz.ntmps33
  go_wp2
  rw [← Hpb.out, ← HW1.out]
  -- the moves that survive
  obtain ⟨sv, hsv⟩ : ∃ x, x = survive (keepAt s.pl.keep 0) s.mvs.length := ⟨_, rfl⟩
  have hsvl : sv ≤ s.mvs.length := by rw [hsv]; exact survive_le _ _
  have hkr := keepAt_rng hp.2.2.2.1 0
  have hnm := hi.nSafe
  have HN := Lib.hid (c_next W1.drew (i := 0) (H1.cell 0) (hGb.bk.cell 2) hGb.rk.rd H2 (by omega) hp.1)
  have HS := Lib.hid (fun W => c_survive W (keepAt s.pl.keep 0) s.mvs.length hkr.1 hkr.2 (by omega))
  rw [← hsv] at HS
  obtain ⟨nm, hnmE⟩ : ∃ x, x = s.mvs.length := ⟨_, rfl⟩
  obtain ⟨k0, hk0E⟩ : ∃ x, x = keepAt s.pl.keep 0 := ⟨_, rfl⟩
  unfold NextP at HN
  rw [← hnmE] at HS hsvl hmv hcm
  rw [← hk0E] at HS HN
  have i1 : (sv : Int) ≤ (cm : Int) := by omega
  have i0 : (0 : Int) ≤ (sv : Int) := by omega
  have c10 := hGb.bk.cell 10
  unfold fsCs at c10
  rw [hmv] at c10
  have c0 := H1.cell 0
  have hW1f := hGb.bk.lt
  have HGb := Lib.hid hGb
  have Hsv := Lib.hid hsv
  have HnmE := Lib.hid hnmE
  have Hmv := Lib.hid hmv
  clear hmv hnmE hsv hGb q z hk0E hkr hnm
  go_region_held3 (fun W => W.cell? ⟨pb, 0, none⟩ = some (.pointer (some ⟨fb, 0, none⟩)) ∧ W.cell? ⟨fb, 10, none⟩ = some (.slice Am nm cm))
    (first | (refine ⟨?_, ?_⟩ <;> assumption) | go_keep)
    (first | (go_at_call 45; refine HN.out.mono ?_; rintro e w2 ⟨rfl, hA2, hk2⟩; have e1 : w2.cell? ⟨pb, 0, none⟩ = some (.pointer (some ⟨fb, 0, none⟩)) := (hk2.cell (p := ⟨pb, 0, none⟩) H1.lt (by simp)).trans c0; have e2 : w2.cell? ⟨fb, 10, none⟩ = some (.slice Am nm cm) := (hk2.cell (p := ⟨fb, 10, none⟩) hW1f (by simp; omega)).trans c10) | (go_at_call 46; refine (HS.out _).mono ?_; rintro e w3 ⟨rfl, rfl⟩))
  have hXlt : ∀ b, X b ∨ I b → b < pb := fun b hb => by rw [Hpb.out]; exact hG.lt b hb
  have hG2 := (HGb.out.kbP (Y := fun b => b = pb + 1) ((KbP.refl (fun b => b = pb + 1) W1).drew.trans hk2 (fun b hb => .inl hb)) (fun b hb e => by have := hXlt b (.inl hb); omega) (fun b hb e => by have := hXlt b (.inr hb); omega))
  have hk12 : KbP X w w2 := hk1.trans ((KbP.refl (fun b => b = pb + 1) W1).drew.trans hk2 (fun b hb => .inl hb)) (fun b hb => .inr (by subst hb; rw [← Hpb.out]; omega))
  have hz2 : pb + 2 ≤ w2.heap.size := by have := hk2.size; simp at this; omega
  have hP2 : Bk w2 pb 25 #[.pointer (some ⟨fb, 0, none⟩)] := H1.drew.kbP hk2 (by omega)
  clear c10 c0 H1 H2 HN HS e1 e2
  have hmo : OwnK w2 0 99 3 (.slice Am nm cm) s.mvs.length (s.mvs.flatMap (mvCs G.fid)) := by rw [← Hmv.out]; exact hG2.mvs
  rw [← HnmE.out] at hmo
  have hmt := OwnK.taken hmo (m := sv) hsvl (by decide)
  have hmb : ∀ p, Am = some p → p.block ≠ G.sm ∧ p.block < w2.heap.size := fun p hp => ⟨fun e => own_map hmo hG2.smap (by rw [hp]; show some p.block = _; rw [e]), by have := (World.ownsRow.lt hmo p.block (by rw [hp]; rfl)).2; exact this⟩
  have hsmP : G.sm ≠ pb := fun e => by have := hXlt _ (.inl hG.xsm); omega
  have hsmF : G.sm ≠ fb := fun e => bk_map hG2.bk hG2.smap e.symm
  have hsml : G.sm < w2.heap.size := hG2.smap.lt
  have HG2 := Lib.hid hG2
  have hfbl : fb < w2.heap.size := hG2.bk.lt
  have cf9 := hG2.bk.cell 9
  unfold fsCs at cf9
  have cp0 := hP2.cell 0
  clear hmo hk2 hsvl
  go_wp2
  go_loopw [33] (fun i wr => ∃ (k : Nat) (D : DataW Unit), k ≤ sv ∧ i = .int .i64 (k : Int) ∧ wr.ownsMap Tryz.prog 9 ptrR G.sm ((s.mvs.take k).foldl moved s.safe).length D ∧ Rep G.fid D ((s.mvs.take k).foldl moved s.safe) ∧ KbP (fun b => b = G.sm) w2 wr) (fun i _ => sv - (intOf i).toNat)
  case atStart => exact ⟨0, G.D2, Nat.zero_le _, rfl, HG2.out.smap, HG2.out.rep2, KbP.refl _ _⟩
  case round =>
    obtain ⟨k, D, hk, rfl, hm, hr, hkb⟩ := hrel
    obtain ⟨W3, hW3⟩ : ∃ x, x = wr := ⟨_, rfl⟩
    subst hW3
    have hkB : k ≤ 1048576 := by have h1 := Hsv.out; have h2 := survive_le (keepAt s.pl.keep 0) s.mvs.length; have h3 := hi.nSafe; omega
    by_cases hlt : k < sv
    · have hkm : k < s.mvs.length := by have := Hsv.out; have := survive_le (keepAt s.pl.keep 0) s.mvs.length; omega
      obtain ⟨b, o, hAm, hbl, hce⟩ := hmt.2 (by omega)
      obtain ⟨hbs, _⟩ := hmb _ hAm
      obtain ⟨mk, hmk⟩ : ∃ x, x = s.mvs[k] := ⟨_, rfl⟩
      have hmk2 := hi.mvs mk (by rw [hmk]; exact List.getElem_mem _)
      obtain ⟨x0, x1, x2, hu⟩ : ∃ (x0 x1 : ByteArray) (x2 : Option Addr), mvCs G.fid mk = [.string x0, .string x1, .pointer x2] := by cases mk <;> exact ⟨_, _, _, rfl⟩
      have hcells : ∀ (j : Nat) (u : Value), [Value.string x0, Value.string x1, Value.pointer x2][j]? = some u → W3.cell? ⟨b, o + k * 3 + j, none⟩ = some u := fun j u hj => by
        rw [hkb.cell (p := ⟨b, o + k * 3 + j, none⟩) hbl hbs, Nat.add_assoc]
        refine hce (k * 3 + j) u ?_
        rw [← hu] at hj
        have hj3 : j < 3 := by have := (List.getElem?_eq_some_iff.1 hj).1; rw [mvCs_len] at this; exact this
        rw [List.getElem?_take, if_pos (by omega)]
        rw [mvsAt G.fid s.mvs k j hkm hj3, ← hmk]
        exact hj
      have e0 : W3.cell? ⟨b, o + k * 3, none⟩ = some (.string x0) := hcells 0 _ rfl
      have e1 := hcells 1 _ rfl
      have e2 := hcells 2 _ rfl
      have hok := dirOk_movedL (ms := s.mvs.take k) hi.safe (fun m hm => hi.mvs m (List.mem_of_mem_take hm))
      have hdl := movedL_len (s.mvs.take k) s.safe
      rw [List.length_take] at hdl
      have hns := hi.nSafe
      have hP3 := Bk.new_ W3 99 #[.string x0, .string x1, .pointer x2]
      have hz3 := hkb.size
      have hb4 := (Below.refl W3.heap.size W3).alloc (Nat.le_refl _) (.cells #[.string x0, .string x1, .pointer x2] 99)
      have hm4 := (hm.alloc (.cells #[.string x0, .string x1, .pointer x2] 99)).drew
      have hkb4 := (hkb.alloc (.cells #[.string x0, .string x1, .pointer x2] 99)).drew
      have HL := Lib.hid (c_mvLay _ mk hm4 hr hok.1 hmk2.1 hmk2.2 (by omega))
      rw [hu] at HL
      have hst : (s.mvs.take (k + 1)).foldl moved s.safe = moved ((s.mvs.take k).foldl moved s.safe) mk := by rw [List.take_succ_eq_append_getElem hkm, List.foldl_append, hmk]; rfl
      have Hst := Lib.hid hst
      have cp3 : W3.cell? ⟨pb, 0, none⟩ = some (.pointer (some ⟨fb, 0, none⟩)) := (hkb.cell (p := ⟨pb, 0, none⟩) (by show pb < _; omega) (Ne.symm hsmP)).trans cp0
      have cf3 : W3.cell? ⟨fb, 9, none⟩ = some (.map (some G.sm)) := (hkb.cell (p := ⟨fb, 9, none⟩) hfbl (Ne.symm hsmF)).trans cf9
      have p0 := hP3.cell 0
      have p1 := hP3.cell 1
      have p2 := hP3.cell 2
      have hki : (k : Int) < (sv : Int) := by omega
      have lb3 : b < W3.heap.size := by omega
      have lp3 : pb < W3.heap.size := by omega
      have lf3 : fb < W3.heap.size := by omega
      have ls3 : G.sm < W3.heap.size := by omega
      have hAm' : Am = some ⟨b, o, none⟩ := hAm
      subst hAm'
      have HKb4 := Lib.hid hkb4
      have a1 := Lib.hid ((hb4.cell (p := ⟨pb, 0, none⟩) lp3).trans cp3)
      have a2 := Lib.hid ((hb4.cell (p := ⟨fb, 9, none⟩) lf3).trans cf3)
      have hz4 : (W3.alloc (.cells #[.string x0, .string x1, .pointer x2] 99)).drew.heap.size = W3.heap.size + 1 := by simp
      have Hz4 := Lib.hid hz4
      clear hz4
      clear hst hu hcells hmk hmk2 hok hdl hns hm hm4 hb4 hkb4 hce hmt hr hmb
      go_wp2
      go_region_held3 (fun W => W.cell? ⟨pb, 0, none⟩ = some (.pointer (some ⟨fb, 0, none⟩)) ∧ W.cell? ⟨fb, 9, none⟩ = some (.map (some G.sm)) ∧ W.cell? ⟨W3.heap.size, 0, none⟩ = some (.string x0) ∧ W.cell? ⟨W3.heap.size, 1, none⟩ = some (.string x1) ∧ W.cell? ⟨W3.heap.size, 2, none⟩ = some (.pointer x2))
        (first | (refine ⟨?_, ?_, ?_, ?_, ?_⟩ <;> assumption) | go_keep)
        (first | (go_at_call 47; refine HL.out.mono ?_; rintro e w5 ⟨rfl, ⟨D5, hm5, hr5⟩, hk5⟩; have f1 := (hk5.cell (p := ⟨pb, 0, none⟩) (by rw [Hz4.out]; show pb < _; omega) (Ne.symm hsmP)).trans a1.out; have f2 := (hk5.cell (p := ⟨fb, 9, none⟩) (by rw [Hz4.out]; show fb < _; omega) (Ne.symm hsmF)).trans a2.out; have f3 := (hk5.cell (p := ⟨W3.heap.size, 0, none⟩) (by rw [Hz4.out]; show W3.heap.size < _; omega) (by show W3.heap.size ≠ _; omega)).trans p0; have f4 := (hk5.cell (p := ⟨W3.heap.size, 1, none⟩) (by rw [Hz4.out]; show W3.heap.size < _; omega) (by show W3.heap.size ≠ _; omega)).trans p1; have f5 := (hk5.cell (p := ⟨W3.heap.size, 2, none⟩) (by rw [Hz4.out]; show W3.heap.size < _; omega) (by show W3.heap.size ≠ _; omega)).trans p2))
      all_goals
        go_wp2
        go_roundw
        case rel => exact ⟨k + 1, D5, by omega, by go_num, by rw [Hst.out]; exact hm5, by rw [Hst.out]; exact hr5, HKb4.out.trans hk5 (fun b hb => .inl hb)⟩
        case measure => simp [intOf]; omega
    · obtain rfl : k = sv := by omega
      have hdd : (s.mvs.take k).foldl moved s.safe = dieDir s := by unfold dieDir; rw [Hsv.out]
      rw [hdd] at hm hr
      have hG3 := HG2.out.turnSafe (l := dieDir s) hkb hm hr (fun i hal => by
        rcases hal with ⟨n, h⟩ | ⟨n, h⟩ | h
        · exact .inl ⟨n, h⟩
        · exact .inr (dieDir_alive h)
        · exact .inr (.inr h))
      have hdok := dieDir_ok hi
      have hdl := dieDir_len hi
      have hA3 := hA2.kbP hkb (fun e => by have := hXlt _ (.inl HG2.out.xsm); omega)
      have hP3 := hP2.kbP hkb (Ne.symm hsmP)
      have hk13 : KbP X w W3 := hk12.trans hkb (fun b hb => .inl (hb ▸ HG2.out.xsm))
      have hz3 := hkb.size
      clear hm hr hkb hdd hG2 hP2 hA2 hk12 hmt hmb cf9 cp0
      have cp0 := hP3.cell 0
      have cf9 := hG3.bk.cell 9
      have hmm := @run_makeMap Tryz.prog
      have HG3 := Lib.hid hG3
      have hb4 := (Below.refl W3.heap.size W3).alloc (Nat.le_refl _) (.map #[] 0)
      have HNm := Lib.hid (c_names _ (hG3.below hb4).smap hG3.rep2 hdok.1 (by show (dieDir s).length ≤ _; omega))
      have lp3 : pb < W3.heap.size := hP3.lt
      have lf3 : fb < W3.heap.size := hG3.bk.lt
      clear hG3
      unfold fsCs at cf9
      go_wp2_with (first | (go_at_call 48; refine HNm.out.mono ?_; rintro e w5 ⟨A5, c5, rfl, hc5, hR5, hb5⟩))
      obtain ⟨kb, hkb⟩ : ∃ x, x = W3.heap.size := ⟨_, rfl⟩
      have hbb5 : Below W3.heap.size W3 w5 := hb4.trans (hb5.mono hb4.size)
      have hG5 := HG3.out.below hbb5
      have hM5 : KmP w5 kb [] := by
        rw [hkb]
        exact (KmP.new_ W3).kbP (X := fun _ => False) (KbP.of_below hb5) (fun h => h)
      have hA5 := hA3.below hbb5 hA3.lt
      have hP5 := hP3.below hbb5 hP3.lt
      have hk15 : KbP X w w5 := hk13.after hbb5
      have hz5 : kb < w5.heap.size := hM5.lt
      have hnl5 : ∀ p, 0 < (dieDir s).length → A5 = some p → kb < p.block := fun p h0 hp => by have := hR5.lie h0 p hp; simp at this; omega
      have Hkb := Lib.hid hkb
      rw [← hkb] at hz3 lp3 lf3 ⊢
      clear hkb cf9 cp0 hA3 hP3 hk13 HNm hb4 hb5 HG3 hbb5 HG2 HGb hmm
      have hN5 : (dieDir s).length ≤ 1048576 := by omega
      obtain ⟨ab, hab⟩ : ∃ x, x = pb + 1 := ⟨_, rfl⟩
      rw [← hab] at hA5 ⊢
      have Hab := Lib.hid hab
      have habk : ab < kb := by omega
      have hnn : (namesOf (dieDir s)).length = (dieDir s).length := namesOf_len _
      clear hab lfb hz1 lfb1 hW1f hz2 hz3 hsml hfbl hcm hlt hk
      go_loopw [51] (fun i wr => ∃ j X' I' nodes a L lv, j ≤ (dieDir s).length ∧ i = .int .i64 (j : Int) ∧ DieQ X I w5 fb ab kb N s { G with D2 := D } j wr X' I' nodes a L lv) (fun i _ => (dieDir s).length - (intOf i).toNat)
      case atStart => exact ⟨0, X, I, s.nodes, adv s.pl.keep 0, [], G.lv, Nat.zero_le _, rfl, hG5, fun b => .inl, fun b => .inl, KbP.refl _ _, hA5, by have := adv_le s.pl.keep 0; omega, hM5, (fun p hp => by cases hp), rfl, rfl, hi.nds⟩
      case round =>
        obtain ⟨j, X', I', nodes, a, L, lv, hj, rfl, hq⟩ := hrel
        by_cases hlt : j < (dieDir s).length
        · obtain ⟨x, hx⟩ : ∃ x, (namesOf (dieDir s))[j]? = some x := ⟨_, List.getElem?_eq_getElem (by omega)⟩
          have hxm : x ∈ (dieDir s).map (·.1) := by have := List.mem_of_getElem? hx; unfold namesOf at this; rwa [List.mem_mergeSort] at this
          obtain ⟨i, hnd⟩ : ∃ i, node (dieDir s) x = some i := by
            obtain ⟨p, hp', rfl⟩ := List.mem_map.1 hxm
            exact ⟨p.2, node_of_mem hdok.1 hp'⟩
          obtain ⟨hx0, hxl, hil⟩ := hdok.2 _ (node_some hnd)
          have hal : alive (midSt s nodes) i := .inr (.inl ⟨x, node_some hnd⟩)
          obtain ⟨nb, no, hA, hnb, hnc⟩ := hR5.rd.2 (by omega)
          have hnk := hnl5 _ (by omega) hA
          have hXk : ∀ b, X b ∨ I b → b < ab := fun b hb => by have := hXlt b hb; have := Hab.out; omega
          have n0 : wr.cell? ⟨nb, no + j, none⟩ = some (.string ⟨x.toArray⟩) := by
            rw [hq.kp.cell (p := ⟨nb, no + j, none⟩) hnb (by rintro (h | h | h) <;> simp only at h hnk; · have := hXk _ (.inl h); omega
                                                             · omega
                                                             · omega)]
            exact hnc j _ (by simp [hx, svl])
          have hPr := hP5.kbP hq.kp (by rintro (h | h | h); · have := hXlt _ (.inl h); omega
                                        · have := Hab.out; omega
                                        · omega)
          have cp := hPr.cell 0
          have cf9 : wr.cell? ⟨fb, 9, none⟩ = some (.map (some G.sm)) := hq.fs.bk.cell 9
          have hlk : (Instr.lookup 66 (.map (some G.sm)) (.string ⟨x.toArray⟩) false).run Tryz.prog wr = .ok (ptrV (G.fid i)) wr := look hq.fs.smap hq.fs.rep2 hxl hnd
          obtain ⟨fi, hfi⟩ : ∃ x, x = G.fid i := ⟨_, rfl⟩
          rw [← hfi] at hlk
          unfold ptrV at hlk
          subst hA
          have hji : (j : Int) < ((dieDir s).length : Int) := by omega
          have hjc : (j : Int) < (c5 : Int) := by omega
          cases hv : valP L (G.fid i) with
          | some v =>
            obtain ⟨rfl, hq2⟩ := hq.skip hx hnd hil hal hv
            have hmp : (Instr.lookup 104 (.map (some kb)) (.pointer (some ⟨G.fid i, 0, none⟩)) false).run Tryz.prog wr = .ok ((valP L (G.fid i)).getD (.int .i64 0)) wr := lookKept hq.map (hq.plain hal) hq.plains
            rw [hv, ← hfi] at hmp
            have HQ2 := Lib.hid hq2
            clear hq hq2 hv hfi
            go_wp2
            go_roundw
            case rel => exact ⟨j + 1, X', I', nodes, a, L, lv, by omega, by go_num, HQ2.out⟩
            case measure => simp [intOf]; omega
          | none =>
            have hmp : (Instr.lookup 104 (.map (some kb)) (.pointer (some ⟨G.fid i, 0, none⟩)) false).run Tryz.prog wr = .ok ((valP L (G.fid i)).getD (.int .i64 0)) wr := lookKept hq.map (hq.plain hal) hq.plains
            rw [hv, ← hfi] at hmp
            obtain ⟨W2, hst, hm2, hk2⟩ := storeKept (v := .int .i64 1) hq.map (hq.plain hal) hq.plains hv
            change (Instr.mapUpdate 104 (.map (some kb)) (.pointer (some ⟨G.fid i, 0, none⟩)) (.int .i64 1)).run Tryz.prog wr = .ok () W2 at hst
            rw [← hfi] at hst
            have hfar : ∀ q, X' q ∨ I' q → q ≠ ab ∧ q ≠ kb := fun q hq' => by
              have hx5 : (X q ∨ I q) ∨ w5.heap.size ≤ q := by
                rcases hq' with h | h
                · exact (hq.sx _ h).imp_left .inl
                · exact (hq.si _ h).imp_left .inr
              rcases hx5 with e | e
              · have := hXk _ e; omega
              · omega
            have hXa' : ¬ X' ab := fun h => (hfar _ (.inl h)).1 rfl
            have hIa' : ¬ I' ab := fun h => (hfar _ (.inr h)).1 rfl
            have hXk' : ¬ X' kb := fun h => (hfar _ (.inl h)).2 rfl
            have hIk' : ¬ I' kb := fun h => (hfar _ (.inr h)).2 rfl
            obtain ⟨A1, c1, A3, c3, vs, hB, hR1, hc1, hR3, hc3, hO, hV⟩ := (hq.fs.files i hal).ex
            obtain ⟨nd, hndE⟩ : ∃ x, x = ndAt nodes i := ⟨_, rfl⟩
            change Bk wr (G.fid i) 89 #[.slice A1 (ndAt nodes i).safe.length c1, lv i, .slice A3 (ndAt nodes i).data.length c3] at hB
            rw [← hndE] at hB
            obtain ⟨Al, cl, hlv, hcl⟩ : ∃ Al cl, lv i = .slice Al vs.length cl ∧ vs.length ≤ cl := by
              have hO' : OwnK wr 0 108 1 (lv i) vs.length vs := hO
              exact hO'.shape
            rw [hlv] at hB
            have hB2 : Bk W2 fi 89 #[.slice A1 nd.safe.length c1, .slice Al vs.length cl, .slice A3 nd.data.length c3] := by rw [hfi]; exact hB.kbP hk2 (fun e => hXk' (e ▸ (hq.fs.files i hal).xf))
            have q2 := hB2.cell
            have Hfi := Lib.hid hfi
            have Hnd := Lib.hid hndE
            clear hfi hndE
            go_wp2
            -- the file's changes, as far as they survive
            have hvl : vs.length = nd.chg.length := by rw [Hnd.out]; exact hV.1
            have hndp := hq.nd i
            rw [← Hnd.out] at hndp
            have hR12 : RdP I' W2 A1 nd.safe.length (bcs nd.safe) := by rw [Hnd.out]; exact hR1.kbP hk2 (fun q h e => hIk' (e ▸ h))
            have hV2 : ChVs I' W2 vs nd.chg := by rw [Hnd.out]; exact ⟨hV.1, fun k v c hv hc => (hV.2 k v c hv hc).kbP hk2 (fun q h e => hIk' (e ▸ h))⟩
            have hO2 : Lec.Own W2 0 108 (.slice Al vs.length cl) vs := by rw [← hlv]; exact OwnK.kbP hO hk2 (fun g hg e => hXk' (e ▸ (hq.fs.files i hal).xl g hg))
            have hVr := Lec.Own.rd hO2
            have hAlx : ∀ p, Al = some p → X' p.block := fun p h => (hq.fs.files i hal).xl _ (by show (lv i).ownBlock = some p.block; rw [hlv, h]; rfl)
            have hA2 := hq.cnt.kbP hk2 (by omega)
            have hP2 := hPr.kbP hk2 (by omega)
            have hG2 := hq.fs.kbP hk2 (fun q h e => hXk' (e ▸ h)) (fun q h e => hIk' (e ▸ h))
            have cp2 := hP2.cell 0
            have cf2 : W2.cell? ⟨fb, 2, none⟩ = some (.slice G.AK s.pl.keep.length G.cK) := hG2.bk.cell 2
            have hrk2 : RdP I' W2 G.AK s.pl.keep.length (ics s.pl.keep) := hG2.rk
            have lab2 : ab < W2.heap.size := hA2.lt
            have lfb2 : fb < W2.heap.size := hG2.bk.lt
            have lpb2 : pb < W2.heap.size := hP2.lt
            have hlea := hq.lea
            have hlea2 : a ≤ 1099513724928 := by
              have h1 : j * N ≤ 1048576 * 1048576 := Nat.mul_le_mul (by omega) hN
              omega
            have HNx : ∀ (W : World) (a' : Nat), KbP (fun q => q = ab) W2 W → Bk W ab 3 #[.int .i64 (a' : Int)] → a' ≤ 2199023255552 → Calls Tryz.prog 45 #[.pointer (some ⟨pb, 0, none⟩), .pointer (some ⟨ab, 0, none⟩)] W (NextP W ab s.pl.keep a') := fun W a' hk' hA' ha' =>
              c_next W ((hk'.cell (p := ⟨pb, 0, none⟩) lpb2 (by have := Hab.out; show ¬ pb = ab; omega)).trans cp2) ((hk'.cell (p := ⟨fb, 2, none⟩) lfb2 (fun e => hXa' (e ▸ hq.fs.xfb))).trans cf2) (hrk2.kbP hk' (fun q h e => hIa' (e ▸ h))).rd hA' ha' hp.1
            have HNx := Lib.hid HNx
            have hchl : nd.chg.length ≤ 1048576 := by omega
            go_loopw [78, 10, 11] (fun iv wv bv w3 => ∃ (r : Nat) (bb : Bs) (wh : Bool) (a' : Nat) (A : Option Addr) (c : Nat), r ≤ nd.chg.length ∧ iv = .int .i64 (r : Int) ∧ wv = .bool wh ∧ bv = .slice A bb.length c ∧ bb.length ≤ c ∧ RdP (fun q => I' q ∨ W2.heap.size ≤ q) w3 A bb.length (bcs bb) ∧ parts s.pl.keep a' wh bb (nd.chg.drop r) = parts s.pl.keep a true nd.safe nd.chg ∧ (wh = true → fits bb (nd.chg.drop r)) ∧ bb.length ≤ 268435456 ∧ a' ≤ a + r ∧ Bk w3 ab 3 #[.int .i64 (a' : Int)] ∧ KbP (fun q => q = ab) W2 w3) (fun iv _ _ _ => nd.chg.length - (intOf iv).toNat)
            case atStart => exact ⟨0, nd.safe, true, a, A1, c1, Nat.zero_le _, rfl, rfl, rfl, by rw [Hnd.out]; exact hc1, hR12.more (fun q => .inl), rfl, fun _ => hndp.1, fits_head hndp.1, Nat.le_refl _, hA2, KbP.refl _ _⟩
            case round =>
              obtain ⟨r, bb, wh, a', A, c, hr, rfl, rfl, rfl, hbc, hRb, hpt, hft, hbl, ha', hA3, hk3⟩ := hrel
              obtain ⟨w3, hw3⟩ : ∃ x, x = wr := ⟨_, rfl⟩
              subst hw3
              by_cases hrl : r < nd.chg.length
              · obtain ⟨vb, vo, hAl, hvb, hvc⟩ := hVr.2 (by omega)
                obtain ⟨v, hv'⟩ : ∃ v, vs[r]? = some v := ⟨_, List.getElem?_eq_getElem (by omega)⟩
                obtain ⟨ch, hch⟩ : ∃ ch, nd.chg[r]? = some ch := ⟨_, List.getElem?_eq_getElem hrl⟩
                have hcv := hV2.2 r v ch hv' hch
                have hdr : nd.chg.drop r = ch :: nd.chg.drop (r + 1) := by
                  obtain ⟨h1, h2⟩ := List.getElem?_eq_some_iff.1 hch
                  rw [List.drop_eq_getElem_cons h1, h2]
                rw [hdr] at hpt hft
                have v0 : w3.cell? ⟨vb, vo + r, none⟩ = some v := (hk3.cell (p := ⟨vb, vo + r, none⟩) hvb (fun e => hXa' (e ▸ (hAlx ⟨vb, vo, none⟩ hAl)))).trans (hvc r v hv')
                have hz3 := hk3.size
                have HN3 := Lib.hid (HNx.out w3 a' hk3 hA3 (by omega))
                have hkr := keepAt_rng hp.2.2.2.1 a'
                have hav := adv_le s.pl.keep a'
                obtain ⟨kv, hkv⟩ : ∃ x, x = keepAt s.pl.keep a' := ⟨_, rfl⟩
                unfold NextP at HN3
                rw [← hkv] at HN3 hkr
                have Hkv := Lib.hid hkv
                have Hdr := Lib.hid hdr
                have Hvl := Lib.hid hvl
                subst hAl
                have hrv : (r : Int) < (vs.length : Int) := by omega
                have hrv2 : (r : Int) < (cl : Int) := by omega
                clear hkv hdr hvl
                have hend : ∀ (w5 : World) (bb2 : Bs) (wh2 : Bool) (A2 : Option Addr) (c2 : Nat) (iv wv bv : Value), iv = .int .i64 ((r : Int) + 1) → wv = .bool wh2 → bv = .slice A2 bb2.length c2 → bb2.length ≤ c2 → RdP (fun q => I' q ∨ W2.heap.size ≤ q) w5 A2 bb2.length (bcs bb2) → parts s.pl.keep a' wh bb (ch :: nd.chg.drop (r + 1)) = parts s.pl.keep (adv s.pl.keep a') wh2 bb2 (nd.chg.drop (r + 1)) → (wh2 = true → fits bb2 (nd.chg.drop (r + 1))) → bb2.length ≤ 268435456 → Bk w5 ab 3 #[.int .i64 (adv s.pl.keep a' : Nat)] → KbP (fun q => q = ab) w3 w5 →
                    ∃ (r : Nat) (bb : Bs) (wh : Bool) (a' : Nat) (A : Option Addr) (c : Nat), r ≤ nd.chg.length ∧ iv = .int .i64 (r : Int) ∧ wv = .bool wh ∧ bv = .slice A bb.length c ∧ bb.length ≤ c ∧ RdP (fun q => I' q ∨ W2.heap.size ≤ q) w5 A bb.length (bcs bb) ∧ parts s.pl.keep a' wh bb (nd.chg.drop r) = parts s.pl.keep a true nd.safe nd.chg ∧ (wh = true → fits bb (nd.chg.drop r)) ∧ bb.length ≤ 268435456 ∧ a' ≤ a + r ∧ Bk w5 ab 3 #[.int .i64 (a' : Int)] ∧ KbP (fun q => q = ab) W2 w5 := by
                  intro w5 bb2 wh2 A2 c2 iv wv bv e1 e2 e3 hc2 hR2 hp2 hf2 hl2 hA5' hk5'
                  exact ⟨r + 1, bb2, wh2, adv s.pl.keep a', A2, c2, by omega, by rw [e1]; go_num, e2, e3, hc2, hR2, by rw [← hp2, hpt], hf2, hl2, by omega, hA5', hk3.trans hk5' (fun q e => .inl e)⟩
                have Hend := Lib.hid hend
                clear hend
                cases wh with
                | false =>
                  go_wp2_with (first | (go_at_call 45; refine HN3.out.mono ?_; rintro e w4 ⟨rfl, hA4, hk4⟩))
                  refine ⟨Hend.out w4 bb false A c _ _ _ rfl rfl rfl hbc (hRb.kbP hk4 ?_) rfl (fun h => by cases h) hbl hA4 hk4, by simp [intOf]; omega⟩
                  rintro q (h | h) rfl
                  · exact hIa' h
                  · omega
                | true =>
                  have hft := hft rfl
                  have hkI : ∀ (w4 : World), KbP (fun q => q = ab) w3 w4 → RdP (fun q => I' q ∨ W2.heap.size ≤ q) w4 A bb.length (bcs bb) ∧ W2.heap.size ≤ w4.heap.size := fun w4 hk4 => ⟨hRb.kbP hk4 (by
                    rintro q (h | h) rfl
                    · exact hIa' h
                    · omega), Nat.le_trans hz3 hk4.size⟩
                  cases ch with
                  | add d =>
                    obtain ⟨Ad, cd, rfl, hRd, hcd⟩ := hcv
                    have hdl := fits_head hft.2
                    rw [List.length_append] at hdl
                    have hpf := part_fits (k := kv) hft
                    have hpl := part_len (k := kv) hft
                    have hpa := part_add_len (b := bb) (d := d) (k := kv)
                    have HP := Lib.hid (fun (w4 : World) (hk4 : KbP (fun q => q = ab) w3 w4) => c_addedPart w4 kv hkr.1 hkr.2 (hkI w4 hk4).1.rd hbc ((hRd.kbP hk3 (fun q h e => hIa' (e ▸ h))).kbP hk4 (fun q h e => hIa' (e ▸ h))).rd hcd (by omega))
                    have hme := fun n w => method_addPart n (.slice Ad d.length cd) w
                    go_wp2_with (first | (go_at_call 45; refine HN3.out.mono ?_; rintro e w4 ⟨rfl, hA4, hk4⟩) | (go_at_call 139; refine (HP.out w4 hk4).mono ?_; rintro e w6 ⟨v6, rfl, A6, c6, rfl, hc6, hR6, hN6, hb6⟩))
                    refine ⟨Hend.out w6 (Fsy.part bb kv (.add d)).1 (Fsy.part bb kv (.add d)).2 A6 c6 _ _ _ rfl rfl (by rw [hpa]) (by rw [hpa]; exact hc6) (by rw [hpa]; exact clipRd (hkI w4 hk4).1 hR6 hN6 (hkI w4 hk4).2) (by rw [Hkv.out]; rfl) hpf hpl (hA4.below hb6 hA4.lt) (hk4.after hb6), by simp [intOf]; omega⟩
                  | cut n =>
                    cases hcv
                    have hpf := part_fits (k := kv) hft
                    have hpl := part_len (k := kv) hft
                    have HP := Lib.hid (fun (w4 : World) (hk4 : KbP (fun q => q = ab) w3 w4) => c_cutPart w4 (k := n) kv (hkI w4 hk4).1.rd hbc hft.2.1 (by omega) hkr.1 hkr.2)
                    have hme := fun n' w => method_cutPart n' (n : Int) w
                    go_wp2_with (first | (go_at_call 45; refine HN3.out.mono ?_; rintro e w4 ⟨rfl, hA4, hk4⟩) | (go_at_call 137; refine (HP.out w4 hk4).mono ?_; rintro e w6 ⟨v6, rfl, A6, c6, rfl, hc6, hR6, hN6, hb6⟩))
                    refine ⟨Hend.out w6 (Fsy.part bb kv (.cut n)).1 (Fsy.part bb kv (.cut n)).2 A6 c6 _ _ _ rfl rfl rfl hc6 (clipRd (hkI w4 hk4).1 hR6 hN6 (hkI w4 hk4).2) (by rw [Hkv.out]; rfl) hpf hpl (hA4.below hb6 hA4.lt) (hk4.after hb6), by simp [intOf]; omega⟩
              · obtain rfl : r = nd.chg.length := by omega
                rw [List.drop_length, parts_nil] at hpt
                have hB3 : Bk w3 fi 89 #[.slice A1 nd.safe.length c1, .slice Al vs.length cl, .slice A3 nd.data.length c3] := hB2.kbP hk3 (fun e => hXa' (e ▸ Hfi.out ▸ (hq.fs.files i hal).xf))
                have HC := Lib.hid (fun (W : World) (hb : Below w3.heap.size w3 W) => c_CloneB W (c := c) ((hRb.rd.below hb (Nat.le_refl _)).more hb.size) (Nat.le_refl _) (by omega))
                have hfl := hB3.lt
                have hnr : ¬ ((nd.chg.length : Int) < (vs.length : Int)) := by omega
                have hxfi : X' fi := Hfi.out ▸ (hq.fs.files i hal).xf
                have Hvl := Lib.hid hvl
                clear q2 hvl
                go_wp2_with (first | (go_at_call 25; with_reducible refine (HC.out w3 (Below.refl _ _)).mono ?_; rintro e w4 ⟨A4, c4, rfl, hc4, hR4, hb4⟩) | (go_at_call 25; with_reducible refine (HC.out w4 hb4).mono ?_; rintro e w5 ⟨A5, c5, rfl, hc5, hR5, hb5⟩; have hB5 := (hB3.below hb4 hfl).below hb5 (Nat.lt_of_lt_of_le hfl hb4.size); have q5 := hB5.cell; have z5 := hB5.frz))
                have hfd := fileDone (X' := X') (I' := I') hB3 hR4 hc4 hb4 hR5 hc5 hb5 hxfi
                obtain ⟨w6, hw6⟩ : ∃ x, x = (((w5.setCell ⟨fi, 0, none⟩ (.slice A4 bb.length c4)).setCell ⟨fi, 2, none⟩ (.slice A5 bb.length c5)).setCell ⟨fi, 1, none⟩ (.slice none 0 0)) := ⟨_, rfl⟩
                rw [← hw6] at hfd ⊢
                rw [Hfi.out] at hfd
                rw [Hnd.out] at hpt
                obtain ⟨X2, I2, nodes2, a2, L2, lv2, hq2⟩ := hq.step (w' := w6) hx hnd hil hal hXa' hIa' hXk' hIk' (by omega) hm2 hk2 hpt.symm hA3 hk3 hfd.1 hfd.2 hq.cnt.lt hq.map.lt
                exact ⟨⟨j + 1, X2, I2, nodes2, a2, L2, lv2, by omega, by go_num, hq2⟩, by simp [intOf]; omega⟩
        · obtain rfl : j = (dieDir s).length := by omega
          have hrun := hq.run
          rw [List.drop_eq_nil_of_le (by omega)] at hrun
          have hPr := hP5.kbP hq.kp (by rintro (h | h | h); · have := hXlt _ (.inl h); omega
                                        · have := Hab.out; omega
                                        · omega)
          have cp := hPr.cell 0
          have cf9 : wr.cell? ⟨fb, 9, none⟩ = some (.map (some G.sm)) := hq.fs.bk.cell 9
          have hBf := hq.fs.bk
          have HC := Lib.hid (fun (W : World) (hb : Below wr.heap.size wr W) => c_mapClone W (ownsMap_kbP hq.fs.smap (KbP.of_below hb : KbP (fun _ => False) wr W) (fun h => h)))
          have lpr := hPr.lt
          have hXfb : X fb := hG.xfb
          have hfin : ∀ w7 : World, w7.ownsMap Tryz.prog 9 ptrR wr.heap.size (dieDir s).length D → Below wr.heap.size wr w7 → FsE X I w fb (Fsy.die s) (.tuple #[]) (.returned (.tuple #[])) ((w7.setCell ⟨fb, 8, none⟩ (.map (some wr.heap.size))).setCell ⟨fb, 10, none⟩ (.slice none 0 0)) := by
            intro w7 hm7 hb7
            have hnn' : nodes = (dieNames s.pl.keep (dieDir s) (namesOf (dieDir s)) s.nodes (adv s.pl.keep 0)).1 := congrArg Prod.fst hrun
            have hdie : Fsy.die s = { midSt s nodes with dir := (midSt s nodes).safe, mvs := [] } := by unfold Fsy.die midSt; rw [← hnn']
            have hk8 : KbP (fun b => b = fb) w7 ((w7.setCell ⟨fb, 8, none⟩ (.map (some wr.heap.size))).setCell ⟨fb, 10, none⟩ (.slice none 0 0)) := ((KbP.refl (fun b => b = fb) w7).setCell (p := ⟨fb, 8, none⟩) (.inl rfl) _).setCell (p := ⟨fb, 10, none⟩) (.inl rfl) _
            have hBk := ((hq.fs.bk.below hb7 hq.fs.bk.lt).set_ 8 (.map (some wr.heap.size))).set_ 10 (.slice none 0 0)
            have hT := FsG.turnDir (dm' := wr.heap.size) hq.fs hb7 hm7 (Nat.le_refl _) hk8 hBk
            rw [hdie]
            have s1 := hk15.size
            have s2 := hq.kp.size
            have hpw := Hpb.out
            have haw := Hab.out
            refine ⟨rfl, _, _, ⟨_, hT⟩, fun b hb => ?_, fun b hb => ?_, ?_⟩
            · rcases hb with hb | rfl
              · exact (hq.sx b hb).imp_right (fun h => by omega)
              · exact .inr (by omega)
            · exact (hq.si b hb).imp_right (fun h => by omega)
            · refine ((hk15.trans hq.kp (fun b hb => ?_)).after hb7).trans hk8 (fun b e => .inl (e ▸ hXfb))
              rcases hb with hb | hb | hb
              · exact .inl hb
              · exact .inr (by omega)
              · exact .inr (by omega)
          have Hfin := Lib.hid hfin
          have cpd : wr.drew.cell? ⟨pb, 0, none⟩ = _ := cp
          clear hfin hq hrun hP5 hA5 hM5 hG5 hR5 hnl5 hnn hN5 hk15 habk Hab Hkb lp3 lf3 hc5 hdl hdok Hsv i1 i0 hkB hsmP hsmF hXlt hz5 Hmv HnmE Hpb HW1 hk1 hG hi hN hp hj hlt
          go_wp2
          go_region_with (go_at_call 43; refine (HC.out _ (Below.drew (Below.refl _ _))).mono ?_; rintro e w7 ⟨rfl, hm7, hb7⟩; have hB7 := hBf.drew.below hb7 hBf.lt; have q7 := hB7.cell; have z7 := hB7.frz; have q7p := (hPr.drew.below hb7 lpr).cell)
          all_goals
            go_end0
            exact Hfin.out _ hm7 ((Below.refl wr.heap.size wr).drew.trans hb7)
end Go.Proofs.YtgilnjngphhhlaaGreat
