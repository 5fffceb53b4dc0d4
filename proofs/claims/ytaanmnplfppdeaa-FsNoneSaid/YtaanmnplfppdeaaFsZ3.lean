/- Layer 1: a clone: the walk of Clone. -/
import Derived.Test.YtaanmnplfppdeaaFsZ2
import Derived.Test.YtaanmnplfppdeaaHeldBy
namespace Go.Proofs.Ytaanmnplfppdeaa
open Go.RowKit Go.Lec Go.Fsy Go.Op Go.Maps
/-- Where a file lies, if there is one. -/
def pO (f : Nat → Nat) (o : Option Nat) : Option Addr := o.map fun i => ⟨f i, 0, none⟩
theorem mvCs_form (m : Mv) : ∃ x0 x1 : ByteArray, ∀ f, mvCs f m = [.string x0, .string x1, .pointer (pO f m.nd)] := by
  cases m <;> exact ⟨_, _, fun f => rfl⟩
theorem c_cpO {X I X' I' : Nat → Prop} {w W : World} {s : St} {G Gc : Geo} {mb sb cb k fb N : Nat} {rem1 rem2 : Dir} {done : List Nat} (o : Option Nat) (hS : FsG X I w fb s G) (hi : Fsy.Inv s N) (hN : N ≤ 1048576) (h : ClG I w s G mb sb cb X' I' W Gc rem1 rem2 k done) (ho : ∀ i, o = some i → alive s i) :
    Calls Try.prog 36 #[.pointer (pO G.fid o), .pointer (some ⟨sb, 0, none⟩)] W fun e W' => ∃ X'' I'' Gc' done', e = .returned (.pointer (pO Gc'.fid o)) ∧ ClG I w s G mb sb cb X'' I'' W' Gc' rem1 rem2 k done' ∧ (∀ i, o = some i → i ∈ done') ∧ Gc'.mv = Gc.mv ∧ KbP (fun b => b = mb) W W' := by
  cases o with
  | none =>
    refine (c_copied_nil W sb).mono ?_
    rintro e W' ⟨rfl, rfl⟩
    exact ⟨X', I', Gc, done, rfl, h, (fun i hi => by cases hi), rfl, KbP.refl _ _⟩
  | some i =>
    refine (c_cp hS hi hN h (ho i rfl)).mono ?_
    rintro e W' ⟨X'', I'', Gc', done', rfl, hC, hin, _, _, e3, _, _, hk, _, _⟩
    exact ⟨X'', I'', Gc', done', rfl, hC, (fun j hj => by cases hj; exact hin), e3, hk⟩
theorem ranges_drew {H : Type} {w : World} {P : Program} {k : TypeId} {R : Value → Option (DataW H × List MemPlace)} {b r n : Nat} {D : DataW H} {left : Lit → Bool} {cnt : Nat} (h : w.ranges P k R b r n D left cnt) : w.drew.ranges P k R b r n D left cnt := h
/-- What Clone answers: another file system, in new memory but for bytes that nobody turns. -/
def CloneP (I : Nat → Prop) (w : World) (s : St) (e : Ending) (w' : World) : Prop :=
  ∃ cb X' I', e = .returned (ptrV cb) ∧ FsP X' I' w' cb s ∧ (∀ b, X' b → w.heap.size ≤ b) ∧ (∀ b, I' b → I b ∨ w.heap.size ≤ b) ∧ Below w.heap.size w w'
theorem moveCells {w : World} {G : Geo} {s : St} (hm : OwnK w 0 70 3 G.mv s.mvs.length (s.mvs.flatMap (mvCs G.fid))) {k : Nat} (hk : k < s.mvs.length) :
    ∃ b o c, G.mv = .slice (some ⟨b, o, none⟩) s.mvs.length c ∧ b < w.heap.size ∧ ∀ j, j < 3 → w.cell? ⟨b, o + k * 3 + j, none⟩ = (mvCs G.fid s.mvs[k])[j]? := by
  obtain ⟨A, c, hv, _⟩ := hm.shape
  rw [hv] at hm
  have hr := OwnK.rd hm
  obtain ⟨b, o, e, hb, hc⟩ := hr.2 (by omega)
  refine ⟨b, o, c, by rw [hv, e], hb, fun j hj => ?_⟩
  have hx := mvsAt G.fid s.mvs k j hk hj
  have hl := mvCs_len G.fid s.mvs[k]
  have hu : (mvCs G.fid s.mvs[k])[j]? = some ((mvCs G.fid s.mvs[k])[j]'(by omega)) := List.getElem?_eq_getElem (by omega)
  rw [hu] at hx ⊢
  have := hc _ _ hx
  rw [← Nat.add_assoc] at this
  exact this
set_option maxRecDepth 100000 in
set_option maxHeartbeats 4000000 in
theorem c_Clone (w : World) {X I : Nat → Prop} {fb N : Nat} {s : St} (h : FsP X I w fb s) (hi : Fsy.Inv s N) (hN : N ≤ 1048575) (hp : s.pl.ok) :
    Calls Try.prog 20 #[ptrV fb] w (CloneP I w s) := by
  obtain ⟨G, hG⟩ := h
  have q := hG.bk.cell
  have H0 := Lib.hid (c_is w fb (q 0))
  have HNew := Lib.hid (c_FsNew w (I := I) (p := s.pl) ⟨hG.rk, hG.rf, hG.ru, hG.nk, hG.nf, hG.nu⟩ hp.1 hp.2.1 hp.2.2.1)
  unfold NewP at HNew
  have HG := Lib.hid hG
  have hmm := @run_makeMap Try.prog
  have hmf : ∀ (fn : Fn) (first cap : Array Value) (w : World), (Instr.makeFunc fn first cap).run Try.prog w = .ok (.func fn first cap) w := fun _ _ _ _ => rfl
  have hlt := hG.bk.lt
  have HIl := Lib.hid (show ∀ b, I b → b < w.heap.size from fun b hb => hG.lt b (.inr hb))
  unfold fsCs at q
  clear hG
  unfold plV ptrV at *
  go_enter Try.func20, Try.ntmps20
  go_wp2_with (first | (go_at_call 22; refine H0.out.mono ?_; rintro e w0 ⟨rfl, rfl⟩) | (go_at_call 21; refine HNew.out.mono ?_; rintro e w1 ⟨cb, X0, I0, rfl, ⟨G0, hG0⟩, hx0, hi0, hb1⟩; have q0 := hG0.bk.cell; have z0 := hG0.bk.frz; unfold fsCs at q0; have c7 : w1.cell? ⟨fb, 7, none⟩ = some (.bool s.died) := (hb1.cell (p := ⟨fb, 7, none⟩) hlt).trans (q 7)))
  have hcb : w0.heap.size ≤ cb := hx0 cb hG0.xfb
  have hfc : fb ≠ cb := by omega
  have hbfb : Bk w1 fb 38 (fsCs s G) := HG.out.bk.below hb1 hlt
  have c6 : (w1.setCell ⟨cb, 7, none⟩ (.bool s.died)).drew.cell? ⟨fb, 6, none⟩ = some (.int .i64 (s.cnt : Int)) := ((hbfb.far (p := ⟨cb, 7, none⟩) hfc (.bool s.died)).drew).cell 6
  have b7 := (hG0.bk.set_ 7 (.bool s.died)).drew
  have hHeld : (fun _ : World => True) (w1.setCell ⟨cb, 7, none⟩ (.bool s.died)).drew := trivial
  refine wp_region_held (S := fun _ : World => True) (by kernel_rfl) ?_
  simp only [List.size_toArray, List.length_cons, List.length_nil, Nat.reduceAdd]
  refine heldTake (i := 0) (v := ?_) rfl (by kernel_rfl) (by kernel_rfl) (by kernel_rfl) (fun _ _ _ h => h) hHeld (by rfl) ?_ ?_
  rotate_left
  · (intro w hSw; (try dsimp only at hSw); go_simp; try with_reducible rfl)
  try simp only [Act.put, List.setIfInBounds_toArray, List.set_cons_zero, List.set_cons_succ]
  refine heldTake (i := 1) (v := ?_) rfl (by kernel_rfl) (by kernel_rfl) (by kernel_rfl) (fun _ _ _ h => h) hHeld (by rfl) ?_ ?_
  rotate_left
  · (intro w hSw; (try dsimp only at hSw); go_simp; try with_reducible rfl)
  try simp only [Act.put, List.setIfInBounds_toArray, List.set_cons_zero, List.set_cons_succ]
  refine heldTake (i := 2) (v := ?_) rfl (by kernel_rfl) (by kernel_rfl) (by kernel_rfl) (fun _ _ _ h => h) hHeld (by rfl) ?_ ?_
  rotate_left
  · (intro w hSw; (try dsimp only at hSw); go_simp; try with_reducible rfl)
  try simp only [Act.put, List.setIfInBounds_toArray, List.set_cons_zero, List.set_cons_succ]
  refine heldTake (i := 3) (v := ?_) rfl (by kernel_rfl) (by kernel_rfl) (by kernel_rfl) (fun _ _ _ h => h) hHeld (by rfl) ?_ ?_
  rotate_left
  · (intro w hSw; (try dsimp only at hSw); go_simp; try with_reducible rfl)
  try simp only [Act.put, List.setIfInBounds_toArray, List.set_cons_zero, List.set_cons_succ]
  refine heldTake (i := 4) (v := ?_) rfl (by kernel_rfl) (by kernel_rfl) (by kernel_rfl) (fun _ _ _ h => h) hHeld (by rfl) ?_ ?_
  rotate_left
  · (intro w hSw; (try dsimp only at hSw); go_simp; try with_reducible rfl)
  try simp only [Act.put, List.setIfInBounds_toArray, List.set_cons_zero, List.set_cons_succ]
  refine heldTake (i := 5) (v := ?_) rfl (by kernel_rfl) (by kernel_rfl) (by kernel_rfl) (fun _ _ _ h => h) hHeld (by rfl) ?_ ?_
  rotate_left
  · (intro w hSw; (try dsimp only at hSw); go_simp; try with_reducible rfl)
  try simp only [Act.put, List.setIfInBounds_toArray, List.set_cons_zero, List.set_cons_succ]
  refine heldStep (i := 6) rfl (by kernel_rfl) (fun K hK => ?_)
  go_simp
  go_at_call 35
  refine (c_aLoad _ fb 6 (s.cnt : Int) c6).mono ?_
  rintro e w3 ⟨rfl, rfl⟩
  refine hK.out _ _ (trivial) (fun hHeld => ?_)
  clear hK K
  try simp only [Act.put, List.setIfInBounds_toArray, List.set_cons_zero, List.set_cons_succ]
  refine heldStep (i := 7) rfl (by kernel_rfl) (fun K hK => ?_)
  go_simp
  go_at_call 32
  refine (c_aStore _ cb 6 0 (s.cnt : Int) (b7.cell 6) (b7.frz 6)).mono ?_
  rintro e w3 ⟨rfl, rfl⟩
  refine hK.out _ _ (trivial) (fun hHeld => ?_)
  clear hK K
  try simp only [Act.put, List.setIfInBounds_toArray, List.set_cons_zero, List.set_cons_succ]
  refine wpAnyH_done (by kernel_rfl) ?_ _
  have hG2 : FsG X0 I0 ((w1.setCell ⟨cb, 7, none⟩ (.bool s.died)).setCell ⟨cb, 6, none⟩ (.int .i64 (s.cnt : Int))) cb { Fsy.new s.pl with died := s.died, cnt := s.cnt } G0 :=
    hG0.turnFb (((KbP.refl (fun b => b = cb) w1).setCell (p := ⟨cb, 7, none⟩) (.inl rfl) _).setCell (p := ⟨cb, 6, none⟩) (.inl rfl) _) s.died s.cnt ((hG0.bk.set_ 7 (.bool s.died)).set_ 6 (.int .i64 (s.cnt : Int)))
  have hbw2 : Below w0.heap.size w0 (((((w1.setCell ⟨cb, 7, none⟩ (.bool s.died)).setCell ⟨cb, 6, none⟩ (.int .i64 (s.cnt : Int))).alloc (.map #[] 0)).alloc (.cells #[.map (some w1.heap.size)] 85)).drew) := ((((hb1.setCell (p := ⟨cb, 7, none⟩) hcb _).setCell (p := ⟨cb, 6, none⟩) hcb _).alloc (by have := hb1.size; simp; omega) _).alloc (by have := hb1.size; simp; omega) _).drew
  have hbw3 : Below w1.heap.size ((w1.setCell ⟨cb, 7, none⟩ (.bool s.died)).setCell ⟨cb, 6, none⟩ (.int .i64 (s.cnt : Int))) (((((w1.setCell ⟨cb, 7, none⟩ (.bool s.died)).setCell ⟨cb, 6, none⟩ (.int .i64 (s.cnt : Int))).alloc (.map #[] 0)).alloc (.cells #[.map (some w1.heap.size)] 85)).drew) := ((((Below.refl w1.heap.size _).alloc (by simp) _).alloc (by simp) _).drew)
  have hKm : KmP (((((w1.setCell ⟨cb, 7, none⟩ (.bool s.died)).setCell ⟨cb, 6, none⟩ (.int .i64 (s.cnt : Int))).alloc (.map #[] 0)).alloc (.cells #[.map (some w1.heap.size)] 85)).drew) w1.heap.size [] := by
    have h1 := KmP.new_ ((w1.setCell ⟨cb, 7, none⟩ (.bool s.died)).setCell ⟨cb, 6, none⟩ (.int .i64 (s.cnt : Int)))
    simp only [World.size_setCell] at h1
    exact KmP.kbP (X := fun _ => False) h1 (((KbP.refl _ _).alloc _).drew) (fun h => h)
  have hSb : Bk (((((w1.setCell ⟨cb, 7, none⟩ (.bool s.died)).setCell ⟨cb, 6, none⟩ (.int .i64 (s.cnt : Int))).alloc (.map #[] 0)).alloc (.cells #[.map (some w1.heap.size)] 85)).drew) (w1.heap.size + 1) 85 #[.map (some w1.heap.size)] := by
    have h1 := Bk.new_ (((w1.setCell ⟨cb, 7, none⟩ (.bool s.died)).setCell ⟨cb, 6, none⟩ (.int .i64 (s.cnt : Int))).alloc (.map #[] 0)) 85 #[.map (some w1.heap.size)]
    simp only [World.size_setCell, World.size_alloc] at h1
    exact h1.drew
  have hl0 := hG0.lt
  have hC : ClG I w0 s G w1.heap.size (w1.heap.size + 1) cb X0 (fun b => I b ∨ I0 b) (((((w1.setCell ⟨cb, 7, none⟩ (.bool s.died)).setCell ⟨cb, 6, none⟩ (.int .i64 (s.cnt : Int))).alloc (.map #[] 0)).alloc (.cells #[.map (some w1.heap.size)] 85)).drew) G0 s.dir s.safe 0 [] :=
    ClG.start (hG2.below (by simpa using hbw3)) hx0 hi0 HIl.out hbw2 hKm hSb (fun h => by have := hl0 _ (.inl h); omega) (fun h => by have := hl0 _ (.inr h); omega) hb1.size (fun h => by have := hl0 _ (.inl h); omega) (by have := hb1.size; omega)
  have hGr := HG.out.below hbw2
  have hmp := hGr.dmap
  have c8 : (((((w1.setCell ⟨cb, 7, none⟩ (.bool s.died)).setCell ⟨cb, 6, none⟩ (.int .i64 (s.cnt : Int))).alloc (.map #[] 0)).alloc (.cells #[.map (some w1.heap.size)] 85)).drew).cell? ⟨fb, 8, none⟩ = some (.map (some G.dm)) := hGr.bk.cell 8
  have HC := Lib.hid hC
  clear hC hGr hSb hKm hbw3 hbw2 hG2 hG0 hHeld b7 c6 c7 q0 z0
  go_wp2_with (at_range; refine wpList_range_own _ rfl _ 35 rfl 9 59 keyS Try.underlying35 ptrR G.dm s.dir.length G.D1 rfl hmp ?_; intro wr0 hrg0 hg0 hs0)
  have hr0 : (((((w1.setCell ⟨cb, 7, none⟩ (.bool s.died)).setCell ⟨cb, 6, none⟩ (.int .i64 (s.cnt : Int))).alloc (.map #[] 0)).alloc (.cells #[.map (some w1.heap.size)] 85)).drew).heap.size = w1.heap.size + 1 + 1 := by simp
  rw [hr0] at hrg0
  have hC0 := HC.out
  have hnX : ¬ X0 (w1.heap.size + 1 + 1) := fun h => by have := hl0 _ (.inl h); omega
  have hnI : ¬ (I (w1.heap.size + 1 + 1) ∨ I0 (w1.heap.size + 1 + 1)) := by
    rintro (h | h)
    · have := HIl.out _ h; have := hb1.size; omega
    · have := hl0 _ (.inr h); omega
  have hC1 : ClG I w0 s G w1.heap.size (w1.heap.size + 1) cb X0 (fun b => I b ∨ I0 b) wr0 G0 s.dir s.safe 0 [] := hC0.kbP (Y := fun _ => False) (KbP.of_grown hg0 (fun g e => by cases e)) (fun _ _ h => h) (fun _ _ h => h) (fun h => h) (fun h => h) (fun _ h => h.elim)
  have hml := hb1.size
  have Hst := Lib.hid (ToCome.start HG.out.rep1 hi.dir.1)
  have Hst2 := Lib.hid (ToCome.start HG.out.rep2 hi.safe.1)
  have HC1 := Lib.hid hC1
  obtain ⟨mb, hmb⟩ : ∃ x, x = w1.heap.size := ⟨_, rfl⟩
  rw [← hmb] at hrg0 hnX hnI HC1 hml
  have Hrg0 := Lib.hid hrg0
  have HI := Lib.hid hi
  rw [← hmb]
  clear hrg0 hg0 hs0 hr0 hC0 hC1 HC hmp c8 hl0 hmb hb1 hx0 hi0 q hi
  have HnX := Lib.hid hnX
  have HnI := Lib.hid hnI
  clear hnX hnI

  go_loopw [] (fun wr => ∃ (left : Lit → Bool) (cnt : Nat) (rem : Dir) (X' I' : Nat → Prop) (Gc : Geo) (done : List Nat), wr.ranges Try.prog 9 ptrR G.dm (mb + 1 + 1) s.dir.length G.D1 left cnt ∧ ToCome s.dir rem left ∧ ClG I w0 s G mb (mb + 1) cb X' I' wr Gc rem s.safe 0 done ∧ ¬ X' (mb + 1 + 1) ∧ ¬ I' (mb + 1 + 1)) (fun wr => wr.rangeLeft G.dm (mb + 1 + 1))
  case atStart => exact ⟨_, _, s.dir, X0, _, G0, [], Hrg0.out, Hst.out, HC1.out, HnX.out, HnI.out⟩
  case round =>
    obtain ⟨left, cnt, rem, X', I', Gc, done, hrg, hlf, hC, hxr, hir⟩ := hrel
    go_wp2_with (first | (at_next; refine wpList_next_ranges _ rfl _ rfl 9 keyS ptrR Value.string mkP (fun key kl hk => by obtain ⟨x, hx, _⟩ := keyS_inv key kl hk; exact ⟨x, hx⟩) ptrR_mk G.dm (mb + 1 + 1) s.dir.length G.D1 _ _ rfl hrg ?_ ?_))
    rotate_left
    · intro x c kl y1 y2 w2 cnt2 hk hlk hv hat hrg2 hlt hg2 hs2 hen
      obtain ⟨x', hx, hkl⟩ := keyS_inv _ _ hk
      cases hx
      subst hkl
      obtain ⟨i, hi1, hi2, rfl⟩ := hlf.entry (y := (y1, y2)) HG.out.rep1 hlk hv hat
      have hal : alive s i := by have := node_some hi2; exact .inl ⟨_, this⟩
      have hrl := hrg2.lt
      have hC2 := (hC.kbP (Y := fun b => b = (mb + 1 + 1)) (KbP.of_grown hg2 (fun g e => by cases e; rfl)) (fun b hb e => hxr (e ▸ hb)) (fun b hb e => hir (e ▸ hb)) (by omega) (by omega) (fun b e => by omega)).below (Below.refl _ _).drew
      have HCP := Lib.hid (c_cp HG.out HI.out (by omega) hC2 hal)
      unfold CpP ptrV at HCP
      have hHeld : (fun W : World => W.cell? ⟨cb, 8, none⟩ = some (.map (some Gc.dm))) w2.drew := hC2.bk.cell 8
      have Hlf := Lib.hid (hlf.take x.data.toList)
      have Hnd := Lib.hid hlf.nd
      have Hrg := Lib.hid hrg
      have Hrg2 := Lib.hid (ranges_drew hrg2)
      have Hlt := Lib.hid hlt
      have Hxr := Lib.hid hxr
      have Hir := Lib.hid hir
      have Hhk := Lib.hid hk
      have hdl : G.dm < w0.heap.size := HG.out.dmap.lt
      clear hrg hrg2 hlf hC hC2 hlk hat hv hxr hir hlt hg2 hs2 hk
      unfold mkP at hen ⊢
      go_wp2
      refine wp_region_T (S := fun W : World => W.cell? ⟨cb, 8, none⟩ = some (.map (some Gc.dm))) (m := 8) (by kernel_rfl) ?_
      simp only [List.size_toArray, List.length_cons, List.length_nil, Nat.reduceAdd]
      refine tTake (i := 0) (v := ?_) rfl (by kernel_rfl) (by kernel_rfl) (by kernel_rfl) (by kernel_rfl) (fun _ _ _ h => h) hHeld (by rfl) ?_ ?_
      rotate_left
      · (intro w hSw; (try dsimp only at hSw); go_simp; try with_reducible rfl)
      try simp only [Act.put, List.setIfInBounds_toArray, List.set_cons_zero, List.set_cons_succ]
      refine tTake (i := 1) (v := ?_) rfl (by kernel_rfl) (by kernel_rfl) (by kernel_rfl) (by kernel_rfl) (fun _ _ _ h => h) hHeld (by rfl) ?_ ?_
      rotate_left
      · (intro w hSw; (try dsimp only at hSw); go_simp; try with_reducible rfl)
      try simp only [Act.put, List.setIfInBounds_toArray, List.set_cons_zero, List.set_cons_succ]
      refine tTake (i := 2) (v := ?_) rfl (by kernel_rfl) (by kernel_rfl) (by kernel_rfl) (by kernel_rfl) (fun _ _ _ h => h) hHeld (by rfl) ?_ ?_
      rotate_left
      · (intro w hSw; (try dsimp only at hSw); go_simp; try with_reducible rfl)
      try simp only [Act.put, List.setIfInBounds_toArray, List.set_cons_zero, List.set_cons_succ]
      refine tTake (i := 3) (v := ?_) rfl (by kernel_rfl) (by kernel_rfl) (by kernel_rfl) (by kernel_rfl) (fun _ _ _ h => h) hHeld (by rfl) ?_ ?_
      rotate_left
      · (intro w hSw; (try dsimp only at hSw); go_simp; try with_reducible rfl)
      try simp only [Act.put, List.setIfInBounds_toArray, List.set_cons_zero, List.set_cons_succ]
      refine tTake (i := 4) (v := ?_) rfl (by kernel_rfl) (by kernel_rfl) (by kernel_rfl) (by kernel_rfl) (fun _ _ _ h => h) hHeld (by rfl) ?_ ?_
      rotate_left
      · (intro w hSw; (try dsimp only at hSw); go_simp; try with_reducible rfl)
      try simp only [Act.put, List.setIfInBounds_toArray, List.set_cons_zero, List.set_cons_succ]
      refine tTake (i := 5) (v := ?_) rfl (by kernel_rfl) (by kernel_rfl) (by kernel_rfl) (by kernel_rfl) (fun _ _ _ h => h) hHeld (by rfl) ?_ ?_
      rotate_left
      · (intro w hSw; (try dsimp only at hSw); go_simp; try with_reducible rfl)
      try simp only [Act.put, List.setIfInBounds_toArray, List.set_cons_zero, List.set_cons_succ]
      refine tTake (i := 6) (v := ?_) rfl (by kernel_rfl) (by kernel_rfl) (by kernel_rfl) (by kernel_rfl) (fun _ _ _ h => h) hHeld (by rfl) ?_ ?_
      rotate_left
      · (intro w hSw; (try dsimp only at hSw); go_simp; try with_reducible rfl)
      try simp only [Act.put, List.setIfInBounds_toArray, List.set_cons_zero, List.set_cons_succ]
      refine tStep (i := 7) rfl (by kernel_rfl) (fun K hK => ?_)
      go_simp
      go_at_call 36
      refine HCP.out.mono ?_
      rintro e w5 ⟨X'', I'', Gc', done', rfl, hC5, hin, e1, e2, e3, e4, e5, hk5, hgx, hgi⟩
      have hHeldN : (fun W : World => W.cell? ⟨cb, 8, none⟩ = some (.map (some Gc.dm))) _ := (by rw [← e1]; exact hC5.bk.cell 8 : w5.cell? ⟨cb, 8, none⟩ = some (.map (some Gc.dm)))
      refine hK.out _ _ (fun _ => hHeldN) ?_
      clear hK K hHeld
      have hHeld := hHeldN
      clear hHeldN
      try simp only [Act.put, List.setIfInBounds_toArray, List.set_cons_zero, List.set_cons_succ]
      obtain ⟨w6, hst, hm6, hg6⟩ := hC5.dmap.update keyS Try.underlying35 (by have := hC5.p1.size; have := HI.out.nDir; have := HI.out.nSafe; unfold maxLen; omega) Hhk.out (val := .pointer (some ⟨Gc'.fid i, 0, none⟩)) (d := .lit (.int .i64 (Gc'.fid i))) (ps := []) rfl
      have hstE := hst
      rw [e1] at hstE
      clear hst
      refine tStep (i := 8) rfl (by kernel_rfl) (fun K hK => ?_)
      go_simp
      refine hK.out _ _ (fun h => absurd h (by decide)) ?_
      clear hK K
      try simp only [Act.put, List.setIfInBounds_toArray, List.set_cons_zero, List.set_cons_succ]
      refine tDone (by kernel_rfl) ?_ _
      clear hstE hHeld
      have hk6 : KbP (fun b => b = Gc'.dm) w5 w6 := KbP.of_grown hg6 (fun g e => by cases e; rfl)
      have hC6 := hC5.putDir Hnd.out hi1 hi2 hin hm6 hk6
      have hx6 : ¬ X'' ((mb + 1 + 1)) := fun h => (hgx _ h).elim Hxr.out (fun h => by have h2 : w2.heap.size ≤ (mb + 1 + 1) := h; omega)
      have hi6 : ¬ I'' ((mb + 1 + 1)) := fun h => (hgi _ h).elim Hir.out (fun h => by have h2 : w2.heap.size ≤ (mb + 1 + 1) := h; omega)
      have hrg6 := (Hrg2.out.kept (grown_kb hk5) (fun e => by have e' : G.dm = mb := Option.some.inj e; omega) (fun e => by have e' : (mb + 1 + 1) = mb := Option.some.inj e; omega)).kept hg6 (fun e => by have e' : G.dm = Gc'.dm := Option.some.inj e; have := hC5.xlow _ hC5.xdm; omega) (fun e => by have e' : (mb + 1 + 1) = Gc'.dm := Option.some.inj e; exact hx6 (e' ▸ hC5.xdm))
      clear e1 e2 e3 e4 e5
      have Hfin := Lib.hid (And.intro hrg6 (And.intro hC6 (And.intro hx6 hi6)))
      clear hrg6 hC6 hx6 hi6 hk6 hm6 hg6 hC5 hk5 hgx hgi
      go_wp2
      go_roundw
      case rel => exact ⟨_, cnt2, without rem x.data.toList, X'', I'', _, done', Hfin.out.1, Hlf.out, Hfin.out.2.1, Hfin.out.2.2.1, Hfin.out.2.2.2⟩
      case measure => rw [Hfin.out.1.left_eq, Hrg.out.left_eq]; exact Hlt.out
    · intro hc0 hl0
      have hre := hlf.done hl0
      subst hre
      have hGr := HG.out.below hC.bl
      have hmp := hGr.smap
      have c9 : wr.cell? ⟨fb, 9, none⟩ = some (.map (some G.sm)) := hGr.bk.cell 9
      have hlC := hC.lt
      have hmr : mb + 1 < wr.heap.size := hC.sbk.lt
      have hwr := hC.bl.size
      have HC := Lib.hid hC
      clear hrg hlf hC hxr hir hc0 hl0 hGr
      go_wp2_with (at_range; refine wpList_range_own _ rfl _ 35 rfl 9 59 keyS Try.underlying35 ptrR G.sm s.safe.length G.D2 rfl hmp ?_; intro wr1 hrg1 hg1 hs1)
      go_frame
      have hC1 := HC.out.kbP (Y := fun _ => False) (KbP.of_grown hg1 (fun g e => by cases e)) (fun _ _ h => h) (fun _ _ h => h) (fun h => h) (fun h => h) (fun _ h => h.elim)
      have hnX : ¬ X' wr.heap.size := fun h => Nat.lt_irrefl _ (hlC _ (.inl h))
      have hnI : ¬ I' wr.heap.size := fun h => Nat.lt_irrefl _ (hlC _ (.inr h))
      obtain ⟨r1, hr1⟩ : ∃ x, x = wr.heap.size := ⟨_, rfl⟩
      rw [← hr1] at hrg1 hnX hnI hmr hwr ⊢
      have Hrg1 := Lib.hid hrg1
      have HC1 := Lib.hid hC1
      have HnX1 := Lib.hid hnX
      have HnI1 := Lib.hid hnI
      clear hrg1 hg1 hs1 hC1 hnX hnI hr1 hlC hmp c9 HC
      go_loopw [] (fun wr => ∃ (left : Lit → Bool) (cnt : Nat) (rem : Dir) (X' I' : Nat → Prop) (Gc : Geo) (done : List Nat), wr.ranges Try.prog 9 ptrR G.sm r1 s.safe.length G.D2 left cnt ∧ ToCome s.safe rem left ∧ ClG I w0 s G mb (mb + 1) cb X' I' wr Gc [] rem 0 done ∧ ¬ X' r1 ∧ ¬ I' r1) (fun wr => wr.rangeLeft G.sm r1)
      case atStart => exact ⟨_, _, s.safe, X', I', Gc, done, Hrg1.out, Hst2.out, HC1.out, HnX1.out, HnI1.out⟩
      case round =>
        clear HC1 HnX1 HnI1 Hrg1
        obtain ⟨left, cnt, rem, X', I', Gc, done, hrg, hlf, hC, hxr, hir⟩ := hrel
        go_wp2_with (first | (at_next; refine wpList_next_ranges _ rfl _ rfl 9 keyS ptrR Value.string mkP (fun key kl hk => by obtain ⟨x, hx, _⟩ := keyS_inv key kl hk; exact ⟨x, hx⟩) ptrR_mk G.sm r1 s.safe.length G.D2 _ _ rfl hrg ?_ ?_))
        rotate_left
        · intro x c kl y1 y2 w2 cnt2 hk hlk hv hat hrg2 hlt hg2 hs2 hen
          obtain ⟨x', hx, hkl⟩ := keyS_inv _ _ hk
          cases hx
          subst hkl
          obtain ⟨i, hi1, hi2, rfl⟩ := hlf.entry (y := (y1, y2)) HG.out.rep2 hlk hv hat
          have hal : alive s i := by have := node_some hi2; exact .inr (.inl ⟨_, this⟩)
          have hrl := hrg2.lt
          have hC2 := (hC.kbP (Y := fun b => b = r1) (KbP.of_grown hg2 (fun g e => by cases e; rfl)) (fun b hb e => hxr (e ▸ hb)) (fun b hb e => hir (e ▸ hb)) (by omega) (by omega) (fun b e => by omega)).below (Below.refl _ _).drew
          have HCP := Lib.hid (c_cp HG.out HI.out (by omega) hC2 hal)
          unfold CpP ptrV at HCP
          have hHeld : (fun W : World => W.cell? ⟨cb, 9, none⟩ = some (.map (some Gc.sm))) w2.drew := hC2.bk.cell 9
          have Hlf := Lib.hid (hlf.take x.data.toList)
          have Hnd := Lib.hid hlf.nd
          have Hrg := Lib.hid hrg
          have Hrg2 := Lib.hid (ranges_drew hrg2)
          have Hlt := Lib.hid hlt
          have Hxr := Lib.hid hxr
          have Hir := Lib.hid hir
          have Hhk := Lib.hid hk
          have hdl : G.sm < w0.heap.size := HG.out.smap.lt
          clear hrg hrg2 hlf hC hC2 hlk hat hv hxr hir hlt hg2 hs2 hk
          unfold mkP at hen ⊢
          go_wp2
          refine wp_region_T (S := fun W : World => W.cell? ⟨cb, 9, none⟩ = some (.map (some Gc.sm))) (m := 8) (by kernel_rfl) ?_
          simp only [List.size_toArray, List.length_cons, List.length_nil, Nat.reduceAdd]
          refine tTake (i := 0) (v := ?_) rfl (by kernel_rfl) (by kernel_rfl) (by kernel_rfl) (by kernel_rfl) (fun _ _ _ h => h) hHeld (by rfl) ?_ ?_
          rotate_left
          · (intro w hSw; (try dsimp only at hSw); go_simp; try with_reducible rfl)
          try simp only [Act.put, List.setIfInBounds_toArray, List.set_cons_zero, List.set_cons_succ]
          refine tTake (i := 1) (v := ?_) rfl (by kernel_rfl) (by kernel_rfl) (by kernel_rfl) (by kernel_rfl) (fun _ _ _ h => h) hHeld (by rfl) ?_ ?_
          rotate_left
          · (intro w hSw; (try dsimp only at hSw); go_simp; try with_reducible rfl)
          try simp only [Act.put, List.setIfInBounds_toArray, List.set_cons_zero, List.set_cons_succ]
          refine tTake (i := 2) (v := ?_) rfl (by kernel_rfl) (by kernel_rfl) (by kernel_rfl) (by kernel_rfl) (fun _ _ _ h => h) hHeld (by rfl) ?_ ?_
          rotate_left
          · (intro w hSw; (try dsimp only at hSw); go_simp; try with_reducible rfl)
          try simp only [Act.put, List.setIfInBounds_toArray, List.set_cons_zero, List.set_cons_succ]
          refine tTake (i := 3) (v := ?_) rfl (by kernel_rfl) (by kernel_rfl) (by kernel_rfl) (by kernel_rfl) (fun _ _ _ h => h) hHeld (by rfl) ?_ ?_
          rotate_left
          · (intro w hSw; (try dsimp only at hSw); go_simp; try with_reducible rfl)
          try simp only [Act.put, List.setIfInBounds_toArray, List.set_cons_zero, List.set_cons_succ]
          refine tTake (i := 4) (v := ?_) rfl (by kernel_rfl) (by kernel_rfl) (by kernel_rfl) (by kernel_rfl) (fun _ _ _ h => h) hHeld (by rfl) ?_ ?_
          rotate_left
          · (intro w hSw; (try dsimp only at hSw); go_simp; try with_reducible rfl)
          try simp only [Act.put, List.setIfInBounds_toArray, List.set_cons_zero, List.set_cons_succ]
          refine tTake (i := 5) (v := ?_) rfl (by kernel_rfl) (by kernel_rfl) (by kernel_rfl) (by kernel_rfl) (fun _ _ _ h => h) hHeld (by rfl) ?_ ?_
          rotate_left
          · (intro w hSw; (try dsimp only at hSw); go_simp; try with_reducible rfl)
          try simp only [Act.put, List.setIfInBounds_toArray, List.set_cons_zero, List.set_cons_succ]
          refine tTake (i := 6) (v := ?_) rfl (by kernel_rfl) (by kernel_rfl) (by kernel_rfl) (by kernel_rfl) (fun _ _ _ h => h) hHeld (by rfl) ?_ ?_
          rotate_left
          · (intro w hSw; (try dsimp only at hSw); go_simp; try with_reducible rfl)
          try simp only [Act.put, List.setIfInBounds_toArray, List.set_cons_zero, List.set_cons_succ]
          refine tStep (i := 7) rfl (by kernel_rfl) (fun K hK => ?_)
          go_simp
          go_at_call 36
          refine HCP.out.mono ?_
          rintro e w5 ⟨X'', I'', Gc', done', rfl, hC5, hin, e1, e2, e3, e4, e5, hk5, hgx, hgi⟩
          have hHeldN : (fun W : World => W.cell? ⟨cb, 9, none⟩ = some (.map (some Gc.sm))) _ := (by rw [← e2]; exact hC5.bk.cell 9 : w5.cell? ⟨cb, 9, none⟩ = some (.map (some Gc.sm)))
          refine hK.out _ _ (fun _ => hHeldN) ?_
          clear hK K hHeld
          have hHeld := hHeldN
          clear hHeldN
          try simp only [Act.put, List.setIfInBounds_toArray, List.set_cons_zero, List.set_cons_succ]
          obtain ⟨w6, hst, hm6, hg6⟩ := hC5.smap.update keyS Try.underlying35 (by have := hC5.p2.size; have := HI.out.nDir; have := HI.out.nSafe; unfold maxLen; omega) Hhk.out (val := .pointer (some ⟨Gc'.fid i, 0, none⟩)) (d := .lit (.int .i64 (Gc'.fid i))) (ps := []) rfl
          have hstE := hst
          rw [e2] at hstE
          clear hst
          refine tStep (i := 8) rfl (by kernel_rfl) (fun K hK => ?_)
          go_simp
          refine hK.out _ _ (fun h => absurd h (by decide)) ?_
          clear hK K
          try simp only [Act.put, List.setIfInBounds_toArray, List.set_cons_zero, List.set_cons_succ]
          refine tDone (by kernel_rfl) ?_ _
          clear hstE hHeld
          have hk6 : KbP (fun b => b = Gc'.sm) w5 w6 := KbP.of_grown hg6 (fun g e => by cases e; rfl)
          have hC6 := hC5.putSafe Hnd.out hi1 hi2 hin hm6 hk6
          have hx6 : ¬ X'' (r1) := fun h => (hgx _ h).elim Hxr.out (fun h => by have h2 : w2.heap.size ≤ r1 := h; omega)
          have hi6 : ¬ I'' (r1) := fun h => (hgi _ h).elim Hir.out (fun h => by have h2 : w2.heap.size ≤ r1 := h; omega)
          have hrg6 := (Hrg2.out.kept (grown_kb hk5) (fun e => by have e' : G.sm = mb := Option.some.inj e; omega) (fun e => by have e' : r1 = mb := Option.some.inj e; omega)).kept hg6 (fun e => by have e' : G.sm = Gc'.sm := Option.some.inj e; have := hC5.xlow _ hC5.xsm; omega) (fun e => by have e' : r1 = Gc'.sm := Option.some.inj e; exact hx6 (e' ▸ hC5.xsm))
          clear e1 e2 e3 e4 e5
          have Hfin := Lib.hid (And.intro hrg6 (And.intro hC6 (And.intro hx6 hi6)))
          clear hrg6 hC6 hx6 hi6 hk6 hm6 hg6 hC5 hk5 hgx hgi
          go_wp2
          go_roundw
          case rel => exact ⟨_, cnt2, without rem x.data.toList, X'', I'', _, done', Hfin.out.1, Hlf.out, Hfin.out.2.1, Hfin.out.2.2.1, Hfin.out.2.2.2⟩
          case measure => rw [Hfin.out.1.left_eq, Hrg.out.left_eq]; exact Hlt.out
        · intro hc0 hl0
          have hre := hlf.done hl0
          subst hre
          have hGr := HG.out.below hC.bl
          obtain ⟨Am, cm, hmvE, _⟩ := HG.out.mvs.shape
          have c10 : wr.cell? ⟨fb, 10, none⟩ = some (.slice Am s.mvs.length cm) := by rw [← hmvE]; exact hGr.bk.cell 10
          obtain ⟨ml, hml'⟩ : ∃ x, x = s.mvs.length := ⟨_, rfl⟩
          have Hml := Lib.hid hml'
          have HmvE := Lib.hid hmvE
          have HC := Lib.hid hC
          have hmN := HI.out.nSafe
          rw [← hml'] at c10 hmN
          clear hrg hlf hC hxr hir hc0 hl0 hGr hmvE hml'
          go_wp2
          go_loopw [78] (fun i wr => ∃ (k : Nat) (X' I' : Nat → Prop) (Gc : Geo) (done : List Nat), k ≤ ml ∧ i = .int .i64 (k : Int) ∧ ClG I w0 s G mb (mb + 1) cb X' I' wr Gc [] [] k done) (fun i _ => ml - (intOf i).toNat)
          case atStart => exact ⟨0, X', I', Gc, done, Nat.zero_le _, rfl, HC.out⟩
          case round =>
            clear HC
            obtain ⟨k, X', I', Gc, done, hk, rfl, hC⟩ := hrel
            by_cases hlt : k < ml
            · have hkm : k < s.mvs.length := by have := Hml.out; omega
              obtain ⟨b, o, cm', hE, hbB, hcell⟩ := moveCells (HG.out.below hC.bl).mvs hkm
              have hE2 := HmvE.out.symm.trans hE
              rw [← Hml.out] at hE2
              simp only [Value.slice.injEq] at hE2
              obtain ⟨rfl, -, rfl⟩ := hE2
              obtain ⟨x0, x1, hform⟩ := mvCs_form s.mvs[k]
              rw [hform] at hcell
              have g0 : wr.cell? ⟨b, o + k * 3, none⟩ = some (.string x0) := hcell 0 (by omega)
              have g1 : wr.cell? ⟨b, o + k * 3 + 1, none⟩ = some (.string x1) := hcell 1 (by omega)
              have g2 : wr.cell? ⟨b, o + k * 3 + 2, none⟩ = some (.pointer (pO G.fid (s.mvs[k]).nd)) := hcell 2 (by omega)
              obtain ⟨on, hon⟩ : ∃ x, x = (s.mvs[k]).nd := ⟨_, rfl⟩
              have hal : ∀ i, on = some i → alive s i := fun i hi => .inr (.inr ⟨_, List.getElem_mem hkm, by rw [← hon]; exact hi⟩)
              rw [← hon] at g2
              have hC2 := hC.below (((Below.refl _ _).alloc (Nat.le_refl _) (.cells #[.string x0, .string x1, .pointer (pO G.fid on)] 70)).drew)
              have HCP := Lib.hid (c_cpO on HG.out HI.out (by omega) hC2 hal)
              obtain ⟨Av, cv, hvE, _⟩ := hC.mvs.shape
              have hBx := (Bk.new_ wr 70 #[.string x0, .string x1, .pointer (pO G.fid on)]).drew
              obtain ⟨pa, hpa⟩ : ∃ x, x = pO G.fid on := ⟨_, rfl⟩
              rw [← hpa] at g2 HCP hBx hC2
              have c10c : (wr.alloc (.cells #[.string x0, .string x1, .pointer pa] 70)).drew.cell? ⟨cb, 10, none⟩ = some (.slice Av k cv) := by rw [← hvE]; exact hC2.bk.cell 10
              obtain ⟨bx, hbx⟩ : ∃ x, x = wr.heap.size := ⟨_, rfl⟩
              have hbxmb : mb ≠ bx := by have := hC.km.lt; omega
              have hbxcb : cb ≠ bx := by have := hC.lt _ (.inl hC.xcb); omega
              have hz2 : (wr.alloc (.cells #[.string x0, .string x1, .pointer pa] 70)).drew.heap.size = bx + 1 := by rw [hbx]; simp
              rw [← hbx] at hBx
              have hHeld : (fun W : World => W.cell? ⟨cb, 10, none⟩ = some (.slice Av k cv) ∧ W.cell? ⟨bx, 0, none⟩ = some (.string x0) ∧ W.cell? ⟨bx, 1, none⟩ = some (.string x1) ∧ W.cell? ⟨bx, 2, none⟩ = some (.pointer pa)) (wr.alloc (.cells #[.string x0, .string x1, .pointer pa] 70)).drew := ⟨c10c, hBx.cell 0, hBx.cell 1, hBx.cell 2⟩
              have Hmvl := Lib.hid (show ∀ g, (Value.slice Av k cv).ownBlock = some g → g < bx from fun g hg => by have := (World.ownsRow.lt hC.mvs g (by rw [hvE]; exact hg)).2; omega)
              have Hform := Lib.hid hform
              have HvE := Lib.hid hvE
              have HBx := Lib.hid hBx
              have Hbx := Lib.hid hbx
              have Hon := Lib.hid hon
              clear hcell hform hE hC hC2 hal hvE hpa c10c hBx hbx hon
              go_wp2
              rw [← Hbx.out]
              refine wp_region_T (S := fun W : World => W.cell? ⟨cb, 10, none⟩ = some (.slice Av k cv) ∧ W.cell? ⟨bx, 0, none⟩ = some (.string x0) ∧ W.cell? ⟨bx, 1, none⟩ = some (.string x1) ∧ W.cell? ⟨bx, 2, none⟩ = some (.pointer pa)) (m := 16) (by kernel_rfl) ?_
              simp only [List.size_toArray, List.length_cons, List.length_nil, Nat.reduceAdd]
              refine tTake (i := 0) (v := ?_) rfl (by kernel_rfl) (by kernel_rfl) (by kernel_rfl) (by kernel_rfl) (fun _ _ _ h => h) hHeld (by rfl) ?_ ?_
              rotate_left
              · (intro w hSw; (try dsimp only at hSw); go_simp; try with_reducible rfl)
              try simp only [Act.put, List.setIfInBounds_toArray, List.set_cons_zero, List.set_cons_succ]
              refine tTake (i := 1) (v := ?_) rfl (by kernel_rfl) (by kernel_rfl) (by kernel_rfl) (by kernel_rfl) (fun _ _ _ h => h) hHeld (by rfl) ?_ ?_
              rotate_left
              · (intro w hSw; (try dsimp only at hSw); go_simp; try with_reducible rfl)
              try simp only [Act.put, List.setIfInBounds_toArray, List.set_cons_zero, List.set_cons_succ]
              refine tTake (i := 2) (v := ?_) rfl (by kernel_rfl) (by kernel_rfl) (by kernel_rfl) (by kernel_rfl) (fun _ _ _ h => h) hHeld (by rfl) ?_ ?_
              rotate_left
              · (intro w hSw; (try dsimp only at hSw); go_simp; try with_reducible rfl)
              try simp only [Act.put, List.setIfInBounds_toArray, List.set_cons_zero, List.set_cons_succ]
              refine tTake (i := 3) (v := ?_) rfl (by kernel_rfl) (by kernel_rfl) (by kernel_rfl) (by kernel_rfl) (fun _ _ _ h => h) hHeld (by rfl) ?_ ?_
              rotate_left
              · (intro w hSw; (try dsimp only at hSw); go_simp; try with_reducible rfl)
              try simp only [Act.put, List.setIfInBounds_toArray, List.set_cons_zero, List.set_cons_succ]
              refine tTake (i := 4) (v := ?_) rfl (by kernel_rfl) (by kernel_rfl) (by kernel_rfl) (by kernel_rfl) (fun _ _ _ h => h) hHeld (by rfl) ?_ ?_
              rotate_left
              · (intro w hSw; (try dsimp only at hSw); go_simp; try with_reducible rfl)
              try simp only [Act.put, List.setIfInBounds_toArray, List.set_cons_zero, List.set_cons_succ]
              refine tTake (i := 5) (v := ?_) rfl (by kernel_rfl) (by kernel_rfl) (by kernel_rfl) (by kernel_rfl) (fun _ _ _ h => h) hHeld (by rfl) ?_ ?_
              rotate_left
              · (intro w hSw; (try dsimp only at hSw); go_simp; try with_reducible rfl)
              try simp only [Act.put, List.setIfInBounds_toArray, List.set_cons_zero, List.set_cons_succ]
              refine tTake (i := 6) (v := ?_) rfl (by kernel_rfl) (by kernel_rfl) (by kernel_rfl) (by kernel_rfl) (fun _ _ _ h => h) hHeld (by rfl) ?_ ?_
              rotate_left
              · (intro w hSw; (try dsimp only at hSw); go_simp; try with_reducible rfl)
              try simp only [Act.put, List.setIfInBounds_toArray, List.set_cons_zero, List.set_cons_succ]
              refine tTake (i := 7) (v := ?_) rfl (by kernel_rfl) (by kernel_rfl) (by kernel_rfl) (by kernel_rfl) (fun _ _ _ h => h) hHeld (by rfl) ?_ ?_
              rotate_left
              · (intro w hSw; (try dsimp only at hSw); go_simp; try with_reducible rfl)
              try simp only [Act.put, List.setIfInBounds_toArray, List.set_cons_zero, List.set_cons_succ]
              refine tTake (i := 8) (v := ?_) rfl (by kernel_rfl) (by kernel_rfl) (by kernel_rfl) (by kernel_rfl) (fun _ _ _ h => h) hHeld (by rfl) ?_ ?_
              rotate_left
              · (intro w hSw; (try dsimp only at hSw); go_simp; try with_reducible rfl)
              try simp only [Act.put, List.setIfInBounds_toArray, List.set_cons_zero, List.set_cons_succ]
              refine tTake (i := 9) (v := ?_) rfl (by kernel_rfl) (by kernel_rfl) (by kernel_rfl) (by kernel_rfl) (fun _ _ _ h => h) hHeld (by rfl) ?_ ?_
              rotate_left
              · (intro w hSw; (try dsimp only at hSw); go_simp; try with_reducible rfl)
              try simp only [Act.put, List.setIfInBounds_toArray, List.set_cons_zero, List.set_cons_succ]
              refine tTake (i := 10) (v := ?_) rfl (by kernel_rfl) (by kernel_rfl) (by kernel_rfl) (by kernel_rfl) (fun _ _ _ h => h) hHeld (by rfl) ?_ ?_
              rotate_left
              · (intro w hSw; (try dsimp only at hSw); go_simp; try with_reducible rfl)
              try simp only [Act.put, List.setIfInBounds_toArray, List.set_cons_zero, List.set_cons_succ]
              refine tTake (i := 11) (v := ?_) rfl (by kernel_rfl) (by kernel_rfl) (by kernel_rfl) (by kernel_rfl) (fun _ _ _ h => h) hHeld (by rfl) ?_ ?_
              rotate_left
              · (intro w hSw; (try dsimp only at hSw); go_simp; try with_reducible rfl)
              try simp only [Act.put, List.setIfInBounds_toArray, List.set_cons_zero, List.set_cons_succ]
              refine tStep (i := 12) rfl (by kernel_rfl) (fun K hK => ?_)
              go_simp
              go_at_call 36
              refine HCP.out.mono ?_
              rintro e w5 ⟨X'', I'', Gc', done', rfl, hC5, hin, e3, hk5⟩
              obtain ⟨pb, hpb⟩ : ∃ x, x = pO Gc'.fid on := ⟨_, rfl⟩
              have Hpb := Lib.hid hpb
              rw [← hpb]
              clear hpb
              have hB5 := HBx.out.kbP hk5 (fun e => hbxmb e.symm)
              have c5 : w5.cell? ⟨cb, 10, none⟩ = some (.slice Av k cv) := by rw [← HvE.out, ← e3]; exact hC5.bk.cell 10
              have hHeldN : (fun W : World => W.cell? ⟨cb, 10, none⟩ = some (.slice Av k cv) ∧ W.cell? ⟨bx, 0, none⟩ = some (.string x0) ∧ W.cell? ⟨bx, 1, none⟩ = some (.string x1) ∧ W.cell? ⟨bx, 2, none⟩ = some (.pointer pa)) _ := ⟨c5, hB5.cell 0, hB5.cell 1, hB5.cell 2⟩
              refine hK.out _ _ (fun _ => hHeldN) ?_
              clear hK K hHeld
              have hHeld := hHeldN
              clear hHeldN
              try simp only [Act.put, List.setIfInBounds_toArray, List.set_cons_zero, List.set_cons_succ]
              refine tTake (i := 13) (v := ?_) rfl (by kernel_rfl) (by kernel_rfl) (by kernel_rfl) (by kernel_rfl) (fun _ _ _ h => h) hHeld (by rfl) ?_ ?_
              rotate_left
              · (intro w hSw; (try dsimp only at hSw); go_simp; try with_reducible rfl)
              try simp only [Act.put, List.setIfInBounds_toArray, List.set_cons_zero, List.set_cons_succ]
              refine tStep (i := 14) rfl (by kernel_rfl) (fun K hK => ?_)
              go_simp
              have hC6 := hC5.below ((Below.refl _ _).alloc (Nat.le_refl _) (.cells #[.string x0, .string x1, .pointer pb] 70))
              have hB6 := hB5.alloc (.cells #[.string x0, .string x1, .pointer pb] 70)
              have c6 : (w5.alloc (.cells #[.string x0, .string x1, .pointer pb] 70)).cell? ⟨cb, 10, none⟩ = some (.slice Av k cv) := by rw [← HvE.out, ← e3]; exact hC6.bk.cell 10
              have hHeldN : (fun W : World => W.cell? ⟨cb, 10, none⟩ = some (.slice Av k cv) ∧ W.cell? ⟨bx, 0, none⟩ = some (.string x0) ∧ W.cell? ⟨bx, 1, none⟩ = some (.string x1) ∧ W.cell? ⟨bx, 2, none⟩ = some (.pointer pa)) _ := ⟨c6, hB6.cell 0, hB6.cell 1, hB6.cell 2⟩
              refine hK.out _ _ (fun _ => hHeldN) ?_
              clear hK K hHeld
              have hHeld := hHeldN
              clear hHeldN
              try simp only [Act.put, List.setIfInBounds_toArray, List.set_cons_zero, List.set_cons_succ]
              refine tStep (i := 15) rfl (by kernel_rfl) (fun K hK => ?_)
              refine at_app (.tmp 86) (.tmp 96) ?_
              have hm6 := hC6.mvs
              rw [e3, HvE.out] at hm6
              have hbx6 : ∀ g, (Value.slice Av k cv).ownBlock = some g → g ≠ bx := fun g hg e => by
                have := Hmvl.out g hg
                omega
              refine step_appK rfl (.tmp 86) (.tmp 96) rfl slm (by decide) rfl hm6 (Nat.zero_le _) rfl (news := [.string x0, .string x1, .pointer pb]) rfl (fun j u hu => by rw [Nat.zero_add]; exact ((Bk.new_ w5 _ _).cell j).trans (by simpa using hu)) (by intro u hu; simp only [List.mem_cons, List.not_mem_nil, or_false] at hu; rcases hu with rfl | rfl | rfl <;> rfl) (by omega) ?_
              intro v8 w8 ho8 hb8 hg8 hat8
              obtain ⟨A8, c8', rfl, hc8⟩ := ho8.shape
              have hC6b := hC6.bk
              have hB8c := bkGrown hC6b hg8 (own_bkK hm6 hC6b (by decide))
              have hB8 := bkGrown hB6 hg8 (fun e => hbx6 _ e rfl)
              have c8c : w8.cell? ⟨cb, 10, none⟩ = some (.slice Av k cv) := by rw [← HvE.out, ← e3]; exact hB8c.cell 10
              have hHeldN : (fun W : World => W.cell? ⟨cb, 10, none⟩ = some (.slice Av k cv) ∧ W.cell? ⟨bx, 0, none⟩ = some (.string x0) ∧ W.cell? ⟨bx, 1, none⟩ = some (.string x1) ∧ W.cell? ⟨bx, 2, none⟩ = some (.pointer pa)) _ := ⟨c8c, hB8.cell 0, hB8.cell 1, hB8.cell 2⟩
              refine hK.out _ _ (fun _ => hHeldN) ?_
              clear hK K hHeld
              have hHeld := hHeldN
              clear hHeldN
              try simp only [Act.put, List.setIfInBounds_toArray, List.set_cons_zero, List.set_cons_succ]
              refine tStep (i := 16) rfl (by kernel_rfl) (fun K hK => ?_)
              go_simp
              refine hK.out _ _ (fun h => absurd h (by decide)) ?_
              clear hK K
              try simp only [Act.put, List.setIfInBounds_toArray, List.set_cons_zero, List.set_cons_succ]
              refine tStep (i := 17) rfl (by kernel_rfl) (fun K hK => ?_)
              go_simp
              refine hK.out _ _ (fun h => absurd h (by decide)) ?_
              clear hK K
              try simp only [Act.put, List.setIfInBounds_toArray, List.set_cons_zero, List.set_cons_succ]
              have z8 := hB8c.frz
              refine tStep (i := 18) rfl (by kernel_rfl) (fun K hK => ?_)
              go_simp
              refine hK.out _ _ (fun h => absurd h (by decide)) ?_
              clear hK K
              try simp only [Act.put, List.setIfInBounds_toArray, List.set_cons_zero, List.set_cons_succ]
              refine tDone (by kernel_rfl) ?_ _
              have hC9 : ClG I w0 s G mb (mb + 1) cb (fun b => X'' b ∨ (Value.slice A8 (k + 1) c8').ownBlock = some b) I'' (w8.setCell ⟨cb, 10, none⟩ (.slice A8 (k + 1) c8')) { Gc' with mv := .slice A8 (k + 1) c8' } [] [] (k + 1) done' := by
                refine hC6.addMv hkm (fun i hi => hin i (Hon.out.trans hi)) ?_ (by rw [e3, HvE.out]; exact hat8) ?_ (hB8c.set_ 10 _)
                · rw [Hform.out, ← Hon.out, ← Hpb.out]
                  exact OwnK.far ho8 (own_bkK ho8 hB8c (by decide)) _
                · rw [e3, HvE.out]
                  exact (KbP.of_grown hg8 (fun g hg => .inr hg)).setCell (p := ⟨cb, 10, none⟩) (.inl (.inl rfl)) _
              have Hfin := Lib.hid hC9
              clear hC9 hC5 hC6 hC6b hB8c hB8 hB5 hB6 c5 c6 c8c hHeld hin e3 hg8 hat8 ho8 hk5 z8 hm6 hbx6
              go_wp2
              go_roundw
              case rel => exact ⟨k + 1, _, _, _, _, by omega, by go_num, Hfin.out⟩
              case measure => simp [intOf]; omega
            · obtain rfl : k = ml := by omega
              rw [Hml.out] at hC
              have hF := Lib.hid (hC.fin HI.out)
              have Hx := Lib.hid hC.xlow
              have Hi := Lib.hid hC.ilow
              have Hb := Lib.hid hC.bl
              clear hC
              go_wp2
              go_ret
              exact ⟨cb, X', I', rfl, ⟨Gc, hF.out⟩, Hx.out, Hi.out, Hb.out⟩
end Go.Proofs.Ytaanmnplfppdeaa
