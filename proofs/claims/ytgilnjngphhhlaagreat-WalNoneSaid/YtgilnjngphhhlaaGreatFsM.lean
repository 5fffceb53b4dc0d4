/- Layer 1: a death: what its second loop keeps. -/
import Derived.Test.YtgilnjngphhhlaaGreatFsI
import Derived.Test.YtgilnjngphhhlaaGreatPtrMap
namespace Go.Fsy
open Go.Lec Go.Maps
theorem parts_at {keep : List Int} : ∀ {l : List Ch} {i : Nat} {wh : Bool} {b : Bs}, (parts keep i wh b l).2 ≤ i + l.length
  | [], i, wh, b => by cases wh <;> exact Nat.le_refl _
  | c :: l, i, true, b => by
    rw [parts]
    have := parts_at (keep := keep) (l := l) (i := adv keep i) (wh := (part b (keepAt keep i) c).2) (b := (part b (keepAt keep i) c).1)
    have ha : adv keep i ≤ i + 1 := by unfold adv; split <;> omega
    rw [List.length_cons]
    omega
  | c :: l, i, false, b => by
    rw [parts]
    have := parts_at (keep := keep) (l := l) (i := adv keep i) (wh := false) (b := b)
    have ha : adv keep i ≤ i + 1 := by unfold adv; split <;> omega
    rw [List.length_cons]
    omega
theorem adv_le (keep : List Int) (i : Nat) : adv keep i ≤ i + 1 := by unfold adv; split <;> omega
theorem parts_nil (keep : List Int) (i : Nat) (wh : Bool) (b : Bs) : parts keep i wh b [] = (b, i) := by cases wh <;> rfl
theorem set_same {nodes : List Nd} {i : Nat} (hi : i < nodes.length) (h : (ndAt nodes i).chg = []) : nodes.set i ⟨(ndAt nodes i).safe, []⟩ = nodes := by
  have h1 : (⟨(ndAt nodes i).safe, []⟩ : Nd) = nodes[i] := by
    unfold ndAt at h ⊢
    rw [List.getD_eq_getElem?_getD, List.getElem?_eq_getElem hi] at h ⊢
    simp only [Option.getD_some] at h ⊢
    rw [← h]
  rw [h1, List.set_getElem_self]
theorem dieNames_some {keep : List Int} {d : Dir} {x : Bs} {xs : List Bs} {nodes : List Nd} {a i : Nat} (h : node d x = some i) :
    dieNames keep d (x :: xs) nodes a = dieNames keep d xs (nodes.set i ⟨(parts keep a true (ndAt nodes i).safe (ndAt nodes i).chg).1, []⟩) (parts keep a true (ndAt nodes i).safe (ndAt nodes i).chg).2 := by
  rw [dieNames, h]
theorem valP_none {L : List (Nat × Value)} {x : Nat} (h : valP L x = none) : ∀ p ∈ L, p.1 ≠ x := by
  intro p hp he
  unfold valP at h
  rw [Option.map_eq_none_iff, List.find?_eq_none] at h
  have := h p hp
  simp [he] at this
theorem valP_some {L : List (Nat × Value)} {x : Nat} {v : Value} (h : valP L x = some v) : (x, v) ∈ L := by
  unfold valP at h
  obtain ⟨p, hp, rfl⟩ := Option.map_eq_some_iff.1 h
  have h1 := List.mem_of_find?_eq_some hp
  have h2 := List.find?_some hp
  simp only [beq_iff_eq] at h2
  rw [← h2]
  exact h1
theorem part_cut (b : Bs) (k : Int) (n : Nat) : part b k (.cut n) = if k < 0 ∨ k % 2 = 1 then (b.take n, true) else (b, false) := rfl
theorem part_fits {b : Bs} {k : Int} {c : Ch} {l : List Ch} (h : fits b (c :: l)) (hw : (part b k c).2 = true) : fits (part b k c).1 l := by
  cases c with
  | add d =>
    simp only [part, beq_iff_eq] at hw ⊢
    rw [hw, List.take_length]
    exact h.2
  | cut n =>
    rw [part_cut] at hw ⊢
    by_cases hn : k < 0 ∨ k % 2 = 1
    · rw [if_pos hn]; exact h.2.2
    · rw [if_neg hn] at hw; cases hw
theorem part_len {b : Bs} {k : Int} {c : Ch} {l : List Ch} (h : fits b (c :: l)) : (part b k c).1.length ≤ 268435456 := by
  cases c with
  | add d =>
    have h2 := fits_head h.2
    have := survive_le k d.length
    rw [List.length_append] at h2
    simp only [part, List.length_append, List.length_take]
    omega
  | cut n =>
    have h1 := fits_head h
    rw [part_cut]
    by_cases hn : k < 0 ∨ k % 2 = 1
    · rw [if_pos hn]; simp only [List.length_take]; omega
    · rw [if_neg hn]; exact h1
theorem part_add_len {b d : Bs} {k : Int} : (part b k (.add d)).1.length = b.length + survive k d.length := by
  have := survive_le k d.length
  simp only [part, List.length_append, List.length_take]
  omega
/-- The state in the midst of a death. -/
def midSt (s : St) (nodes : List Nd) : St := { s with died := true, safe := dieDir s, nodes := nodes }
theorem alive_mid {s : St} {a b : List Nd} {i : Nat} (h : alive (midSt s a) i) : alive (midSt s b) i := h
end Go.Fsy
namespace Go.Proofs.YtgilnjngphhhlaaGreat
open Go.RowKit Go.Lec Go.Fsy Go.Op Go.Maps
theorem infoF : (Tryz.prog.info? 89).map (fun i => (i.zero, i.size, i.bytes)) = some (some (.agg #[.slice none 0 0, .slice none 0 0, .slice none 0 0]), 3, 72) := by kernel_rfl
theorem infoF' : ∃ j, Tryz.prog.info? 89 = some j ∧ j.size ≠ 0 := by
  have h := infoF
  cases hc : Tryz.prog.info? 89 with
  | none => rw [hc] at h; cases h
  | some j => rw [hc] at h; simp only [Option.map_some, Option.some.injEq, Prod.mk.injEq] at h; exact ⟨j, rfl, by rw [h.2.1]; decide⟩
/-- A look-up in a map keyed by files. -/
theorem lookKept {w : World} {b x : Nat} {L : List (Nat × Value)} (h : KmP w b L) (hx : plainB w x) (hL : ∀ p ∈ L, plainB w p.1) :
    (Instr.lookup 104 (.map (some b)) (.pointer (some ⟨x, 0, none⟩)) false).run Tryz.prog w = .ok ((valP L x).getD (.int .i64 0)) w := by
  obtain ⟨j, hj, hz⟩ := infoF'
  exact run_lookup_ptr Tryz.underlying104 Tryz.underlying85 hj hz (by kernel_rfl) h hx hL
theorem storeKept {w : World} {b x : Nat} {L : List (Nat × Value)} {v : Value} (h : KmP w b L) (hx : plainB w x) (hL : ∀ p ∈ L, plainB w p.1) (hn : valP L x = none) :
    ∃ w', (Instr.mapUpdate 104 (.map (some b)) (.pointer (some ⟨x, 0, none⟩)) v).run Tryz.prog w = .ok () w' ∧ KmP w' b (L ++ [(x, v)]) ∧ KbP (fun q => q = b) w w' := by
  obtain ⟨j, hj, hz⟩ := infoF'
  exact run_store_ptr Tryz.underlying104 Tryz.underlying85 hj hz h hx hL hn
theorem clipRd {J : Nat → Prop} {W w4 w5 : World} {A A' : Option Addr} {n n0 : Nat} {xs xs0 : List Value} (h : RdP (fun q => J q ∨ W.heap.size ≤ q) w4 A n0 xs0) (hc : Rd w5 w5.heap.size A' n xs) (hl : 0 < n → ∀ p, A' = some p → (A = some p ∧ 0 < n0) ∨ w4.heap.size ≤ p.block) (hs : W.heap.size ≤ w4.heap.size) : RdP (fun q => J q ∨ W.heap.size ≤ q) w5 A' n xs :=
  ⟨hc, fun h0 p hp => (hl h0 p hp).elim (fun e => h.lie e.2 p e.1) (fun e => .inr (Nat.le_trans hs e))⟩
/-- What is kept, name by name. -/
structure DieQ (X I : Nat → Prop) (w5 : World) (fb ab kb N : Nat) (s : St) (G0 : Geo) (j : Nat) (wr : World) (X' I' : Nat → Prop) (nodes : List Nd) (a : Nat) (L : List (Nat × Value)) (lv : Nat → Value) : Prop where
  fs : FsG X' I' wr fb (midSt s nodes) { G0 with lv := lv }
  sx : ∀ b, X' b → X b ∨ w5.heap.size ≤ b
  si : ∀ b, I' b → I b ∨ w5.heap.size ≤ b
  kp : KbP (fun b => X b ∨ b = ab ∨ b = kb) w5 wr
  cnt : Bk wr ab 3 #[.int .i64 (a : Int)]
  lea : a ≤ 1 + j * N
  map : KmP wr kb L
  ent : ∀ p ∈ L, ∃ i, p = (G0.fid i, .int .i64 1) ∧ alive (midSt s nodes) i ∧ (ndAt nodes i).chg = []
  run : dieNames s.pl.keep (dieDir s) ((namesOf (dieDir s)).drop j) nodes a = dieNames s.pl.keep (dieDir s) (namesOf (dieDir s)) s.nodes (adv s.pl.keep 0)
  len : nodes.length = s.nodes.length
  nds : ∀ n ∈ nodes, fits n.safe n.chg ∧ n.chg.length ≤ N
section
variable {X I X' I' : Nat → Prop} {w5 wr : World} {fb ab kb N j a : Nat} {s : St} {G0 : Geo} {nodes : List Nd} {L : List (Nat × Value)} {lv : Nat → Value}
theorem DieQ.nd (h : DieQ X I w5 fb ab kb N s G0 j wr X' I' nodes a L lv) (i : Nat) : fits (ndAt nodes i).safe (ndAt nodes i).chg ∧ (ndAt nodes i).chg.length ≤ N := by
  unfold ndAt
  rw [List.getD_eq_getElem?_getD]
  cases hg : nodes[i]? with
  | none => exact ⟨Nat.zero_le _, Nat.zero_le _⟩
  | some n => exact h.nds n (List.mem_of_getElem? hg)
theorem DieQ.plain {i : Nat} (h : DieQ X I w5 fb ab kb N s G0 j wr X' I' nodes a L lv) (hal : alive (midSt s nodes) i) : plainB wr (G0.fid i) := by
  obtain ⟨cs, hB⟩ := (h.fs.files i hal).bk
  exact ⟨cs, _, hB⟩
theorem DieQ.plains (h : DieQ X I w5 fb ab kb N s G0 j wr X' I' nodes a L lv) : ∀ p ∈ L, plainB wr p.1 := by
  intro p hp
  obtain ⟨i, rfl, hal, _⟩ := h.ent p hp
  exact h.plain hal
/-- A file that was done already. -/
theorem DieQ.skip {x : Bs} {i : Nat} {v : Value} (h : DieQ X I w5 fb ab kb N s G0 j wr X' I' nodes a L lv) (hj : (namesOf (dieDir s))[j]? = some x) (hn : node (dieDir s) x = some i) (hlt : i < s.nodes.length) (hal : alive (midSt s nodes) i) (hv : valP L (G0.fid i) = some v) :
    v = .int .i64 1 ∧ DieQ X I w5 fb ab kb N s G0 (j + 1) wr X' I' nodes a L lv := by
  obtain ⟨i', hp, hal', hc⟩ := h.ent _ (valP_some hv)
  simp only [Prod.mk.injEq] at hp
  have he : i = i' := h.fs.inj i i' hal hal' hp.1
  subst he
  refine ⟨hp.2, h.fs, h.sx, h.si, h.kp, h.cnt, Nat.le_trans h.lea (by rw [Nat.add_mul]; omega), h.map, h.ent, ?_, h.len, h.nds⟩
  rw [← h.run]
  obtain ⟨hjl, hjx⟩ := List.getElem?_eq_some_iff.1 hj
  rw [List.drop_eq_getElem_cons hjl, hjx, dieNames_some hn, hc, parts_nil, set_same (by rw [h.len]; exact hlt) hc]
/-- A file is done. -/
theorem DieQ.step {x : Bs} {i a2 : Nat} {W2 W3 w' : World} {b : Bs} (h : DieQ X I w5 fb ab kb N s G0 j wr X' I' nodes a L lv) (hj : (namesOf (dieDir s))[j]? = some x) (hn : node (dieDir s) x = some i) (hlt : i < s.nodes.length) (hal : alive (midSt s nodes) i)
    (hXa : ¬ X' ab) (hIa : ¬ I' ab) (hXk : ¬ X' kb) (hIk : ¬ I' kb) (hak : ab ≠ kb)
    (hm : KmP W2 kb (L ++ [(G0.fid i, .int .i64 1)])) (hk2 : KbP (fun q => q = kb) wr W2)
    (hb : parts s.pl.keep a true (ndAt nodes i).safe (ndAt nodes i).chg = (b, a2))
    (hc : Bk W3 ab 3 #[.int .i64 (a2 : Int)]) (hk3 : KbP (fun q => q = ab) W2 W3)
    (hf : FileOk X' (fun q => I' q ∨ (W3.heap.size ≤ q ∧ q < w'.heap.size)) w' (G0.fid i) (.slice none 0 0) ⟨b, []⟩)
    (hk : KbP (fun q => q = G0.fid i) W3 w') (_hab : ab < wr.heap.size) (_hkb : kb < wr.heap.size) :
    ∃ X'' I'' nodes' a' L' lv', DieQ X I w5 fb ab kb N s G0 (j + 1) w' X'' I'' nodes' a' L' lv' := by
  have hG2 := h.fs.kbP hk2 (fun q hq e => hXk (e ▸ hq)) (fun q hq e => hIk (e ▸ hq))
  have hG3 := hG2.kbP hk3 (fun q hq e => hXa (e ▸ hq)) (fun q hq e => hIa (e ▸ hq))
  have hx : X' (G0.fid i) := (h.fs.files i hal).xf
  obtain ⟨X'', I'', lv', hG', hgr⟩ := fs_setNdG (w' := w') (nd := ⟨b, []⟩) (lv' := .slice none 0 0) hG3 hal (by show i < nodes.length; rw [h.len]; exact hlt) (hf.more (fun q => .inl) (fun q hq => hq.imp_right (fun e => ⟨e.1, e.2, fun e => by cases e⟩))) (.inr (fun g hg => by cases hg)) (hk.more (fun q hq => .inl hq))
  have hw53 := h.kp.size
  have h23 := hk2.size
  have h33 := hk3.size
  refine ⟨X'', I'', nodes.set i ⟨b, []⟩, a2, L ++ [(G0.fid i, .int .i64 1)], lv', hG', fun q hq => ?_, fun q hq => ?_, ?_, ?_, ?_, ?_, ?_, ?_, ?_, ?_⟩
  · rcases hgr.sx q hq with e | e
    · exact h.sx q e
    · exact .inr (by omega)
  · rcases hgr.si q hq with e | e
    · exact h.si q e
    · exact .inr (by omega)
  · refine ((h.kp.trans hk2 (fun q hq => .inl (.inr (.inr hq)))).trans hk3 (fun q hq => .inl (.inr (.inl hq)))).trans hk (fun q hq => ?_)
    rcases h.sx q (hq ▸ hx) with e | e
    · exact .inl (.inl e)
    · exact .inr e
  · exact hc.kbP hk (fun e => hXa (e ▸ hx))
  · have h1 := parts_at (keep := s.pl.keep) (l := (ndAt nodes i).chg) (i := a) (wh := true) (b := (ndAt nodes i).safe)
    rw [hb] at h1
    have h2 := (h.nd i).2
    have h3 := h.lea
    rw [Nat.add_mul]
    simp only at h1
    omega
  · exact (hm.kbP hk3 (fun e => hak e.symm)).kbP hk (fun e => hXk (e ▸ hx))
  · intro p hp
    rcases List.mem_append.1 hp with hp | hp
    · obtain ⟨i', e, ha, hc'⟩ := h.ent p hp
      refine ⟨i', e, ha, ?_⟩
      by_cases hii : i = i'
      · subst hii; rw [ndAt_set (by rw [h.len]; exact hlt)]
      · rw [ndAt_other hii]; exact hc'
    · rw [List.mem_singleton] at hp
      exact ⟨i, hp, hal, by rw [ndAt_set (by rw [h.len]; exact hlt)]⟩
  · rw [← h.run]
    obtain ⟨hjl, hjx⟩ := List.getElem?_eq_some_iff.1 hj
    rw [List.drop_eq_getElem_cons hjl, hjx, dieNames_some hn, hb]
  · rw [List.length_set]; exact h.len
  · intro n hn'
    rcases List.mem_or_eq_of_mem_set hn' with hn' | rfl
    · exact h.nds n hn'
    · refine ⟨?_, Nat.zero_le _⟩
      have := parts_len (keep := s.pl.keep) (i := a) (wh := true) (h.nd i).1
      rw [hb] at this
      exact this
/-- A file whose bytes are all safe. -/
theorem fileDone {w3 w4 w5 : World} {fi c4 c5 : Nat} {bb : Bs} {A4 A5 : Option Addr} {x y z : Value} (hB : Bk w3 fi 89 #[x, y, z]) (hR4 : RdP (fun b => w3.heap.size ≤ b) w4 A4 bb.length (bcs bb)) (hc4 : bb.length ≤ c4) (hb4 : Below w3.heap.size w3 w4) (hR5 : RdP (fun b => w4.heap.size ≤ b) w5 A5 bb.length (bcs bb)) (hc5 : bb.length ≤ c5) (hb5 : Below w4.heap.size w4 w5) (hx : X' fi) :
    FileOk X' (fun q => I' q ∨ (w3.heap.size ≤ q ∧ q < (((w5.setCell ⟨fi, 0, none⟩ (.slice A4 bb.length c4)).setCell ⟨fi, 2, none⟩ (.slice A5 bb.length c5)).setCell ⟨fi, 1, none⟩ (.slice none 0 0)).heap.size)) (((w5.setCell ⟨fi, 0, none⟩ (.slice A4 bb.length c4)).setCell ⟨fi, 2, none⟩ (.slice A5 bb.length c5)).setCell ⟨fi, 1, none⟩ (.slice none 0 0)) fi (.slice none 0 0) ⟨bb, []⟩ ∧ KbP (fun q => q = fi) w3 (((w5.setCell ⟨fi, 0, none⟩ (.slice A4 bb.length c4)).setCell ⟨fi, 2, none⟩ (.slice A5 bb.length c5)).setCell ⟨fi, 1, none⟩ (.slice none 0 0)) := by
  have hfl := hB.lt
  have s4 := hb4.size
  have s5 := hb5.size
  have hB5 := (hB.below hb4 hfl).below hb5 (by omega)
  have hk5 : KbP (fun q => q = fi) w5 (((w5.setCell ⟨fi, 0, none⟩ (.slice A4 bb.length c4)).setCell ⟨fi, 2, none⟩ (.slice A5 bb.length c5)).setCell ⟨fi, 1, none⟩ (.slice none 0 0)) := (((KbP.refl (fun q => q = fi) w5).setCell (p := ⟨fi, 0, none⟩) (.inl rfl) _).setCell (p := ⟨fi, 2, none⟩) (.inl rfl) _).setCell (p := ⟨fi, 1, none⟩) (.inl rfl) _
  have r4 := (hR4.kbP (KbP.of_below (hb5) : KbP (fun _ => False) w4 w5) (fun _ _ h => h)).kbP hk5 (fun b hb e => by omega)
  have r5 := hR5.kbP hk5 (fun b hb e => by omega)
  refine ⟨⟨⟨A4, c4, A5, c5, [], ((hB5.set_ 0 _).set_ 2 _).set_ 1 _, ⟨r4.rd, fun h p hp => .inr ⟨r4.lie h p hp, r4.lt h p hp⟩⟩, hc4, ⟨r5.rd, fun h p hp => .inr ⟨Nat.le_trans s4 (r5.lie h p hp), r5.lt h p hp⟩⟩, hc5, OwnK.nil_ _ _ _ _, rfl, fun k v c h => by simp at h⟩, hx, fun g hg => by cases hg⟩, ((KbP.refl (fun q => q = fi) w3).after hb4).then_ hb5 s4 |>.trans hk5 (fun b e => .inl e)⟩
/-- The directory is made anew out of the safe one. -/
theorem FsG.turnDir {w w1 w' : World} {G : Geo} {dm' : Nat} (h : FsG X I w fb s G) (hb1 : Below w.heap.size w w1) (hm : w1.ownsMap Tryz.prog 9 ptrR dm' s.safe.length G.D2) (hd : w.heap.size ≤ dm') (hk : KbP (fun b => b = fb) w1 w') (hb : Bk w' fb 74 (fsCs s { G with dm := dm', D1 := G.D2, mv := .slice none 0 0 })) :
    FsG (fun b => X b ∨ b = dm') I w' fb { s with dir := s.safe, mvs := [] } { G with dm := dm', D1 := G.D2, mv := .slice none 0 0 } := by
  have h1 := h.below hb1
  have hI : ∀ b, I b → ¬ b = fb := fun b hb e => h.xi b hb (e ▸ h.xfb)
  have hal : ∀ i, alive { s with dir := s.safe, mvs := [] } i → alive s i := fun i hi => by
    rcases hi with ⟨n, hn⟩ | ⟨n, hn⟩ | ⟨m, hm, _⟩
    · exact .inr (.inl ⟨n, hn⟩)
    · exact .inr (.inl ⟨n, hn⟩)
    · cases hm
  have hsmlt := h.smap.lt
  have hfl := h.bk.lt
  refine ⟨hb, h1.rk.kbP hk hI, h1.rf.kbP hk hI, h1.ru.kbP hk hI, h.nk, h.nf, h.nu, ownsMap_kbP hm hk (fun e => by change dm' = fb at e; omega), ownsMap_kbP h1.smap hk (fun e => bk_map h.bk h.smap e.symm), h.rep2, h.rep2,
    ⟨rfl, .inl ⟨rfl, rfl⟩⟩, fun i hi => ?_, fun i j hi hj => h.inj i j (hal i hi) (hal j hj), fun i j g hi hj => h.injl i j g (hal i hi) (hal j hj), (fun e => by change dm' = G.sm at e; omega), .inl h.xfb, .inr rfl, .inl h.xsm, (fun g hg => by cases hg), fun b hb hx => ?_, fun b hb' => ?_⟩
  · have hf := h1.files i (hal i hi)
    obtain ⟨vs, hO⟩ := hf.own
    obtain ⟨cs, hB⟩ := hf.bk
    exact (hf.kbP hk (fun e => bk_ne h1.bk hB (by decide) e.symm) (fun g hg e => own_bkK hO h1.bk (by decide) (e ▸ hg)) hI).more (fun b => .inl) (fun b hb => hb)
  · rcases hx with hx | hx
    · exact h.xi b hb hx
    · have := h.lt b (.inr hb); omega
  · have h2 := hb1.size
    have h3 := hk.size
    rcases hb' with (hb' | hb') | hb'
    · have := h.lt b (.inl hb'); omega
    · have := hm.lt; omega
    · have := h.lt b (.inr hb'); omega
end
end Go.Proofs.YtgilnjngphhhlaaGreat
