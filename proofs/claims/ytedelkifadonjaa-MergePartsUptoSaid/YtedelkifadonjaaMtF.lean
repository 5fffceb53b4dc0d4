/- Layer 23: the pairs of an iterator from a key on, below another (entries). -/
import Derived.Test.YtedelkifadonjaaMtE
import Derived.RangeFuncBound
import Derived.RangeFuncBox
import Derived.Shelf.Abstract
import Derived.Shelf.RegionOpen
import Derived.OwnWalkIn
import Derived.TacticsInMore
import Derived.LoopNIn
import Derived.LoopIn
import Derived.Test.YtedelkifadonjaaRangeG
import Derived.Test.YtedelkifadonjaaMvPlain
namespace Go.Lec
open Go.RowKit
theorem kb_of_kx {X : Nat → Prop} {w w' : World} (h : Kx X w w') : ∃ S : List Nat, Kb S w w' ∧ ∀ b ∈ S, X b := by
  classical
  exact ⟨(List.range w.heap.size).filter (fun b => decide (X b)), ⟨h.os, h.tape, h.output, h.size, fun k hk hn => h.block k hk fun hx => hn (List.mem_filter.2 ⟨List.mem_range.2 hk, by simpa using hx⟩)⟩, fun b hb => by simpa using (List.mem_filter.1 hb).2⟩
theorem Kx.of_kb {X : Nat → Prop} {w w' : World} {S : List Nat} (h : Kb S w w') (hS : ∀ b ∈ S, X b) : Kx X w w' := ⟨h.os, h.tape, h.output, h.size, fun k hk hn => h.block k hk fun hm => hn (hS k hm)⟩
theorem Bk.kx {X : Nat → Prop} {w w' : World} {b : Nat} {t : TypeId} {cs : Array Value} (h : Bk w b t cs) (hk : Kx X w w') (hX : ¬ X b) : Bk w' b t cs := (hk.block b h.lt hX).trans h
theorem Rd.kx {X : Nat → Prop} {w w' : World} {A : Option Addr} {n : Nat} {xs : List Value} (h : Rd w w.heap.size A n xs) (hk : Kx X w w') (hX : 0 < n → ∀ a, A = some a → ¬ X a.block) : Rd w' w'.heap.size A n xs :=
  ⟨h.1, fun hn => by
    obtain ⟨b, o, e, hb, hc⟩ := h.2 hn
    exact ⟨b, o, e, Nat.lt_of_lt_of_le hb hk.size, fun i u hu => (hk.cell (p := ⟨b, o + i, none⟩) hb (hX hn ⟨b, o, none⟩ e)).trans (hc i u hu)⟩⟩
theorem tw_lt {p : PairB → Bool} : ∀ {l : List PairB} {k : Nat}, k < (l.takeWhile p).length → ∃ x, l[k]? = some x ∧ (l.takeWhile p)[k]? = some x ∧ p x = true
  | [], k, h => absurd h (by simp)
  | y :: l, k, h => by
    by_cases hy : p y = true
    · rw [List.takeWhile_cons, if_pos hy] at h ⊢
      cases k with
      | zero => exact ⟨y, rfl, rfl, hy⟩
      | succ k => exact tw_lt (l := l) (by simpa using h)
    · rw [List.takeWhile_cons, if_neg hy] at h
      exact absurd h (by simp)
theorem tw_end {p : PairB → Bool} : ∀ {l : List PairB} {x : PairB}, l[(l.takeWhile p).length]? = some x → p x = false
  | [], x, h => by simp at h
  | y :: l, x, h => by
    by_cases hy : p y = true
    · rw [List.takeWhile_cons, if_pos hy] at h
      exact tw_end (l := l) (by simpa using h)
    · rw [List.takeWhile_cons, if_neg hy] at h
      have : y = x := by simpa using h
      rw [← this]; simpa using hy
end Go.Lec
namespace Go.Proofs.Ytedelkifadonjaa
open Go.RowKit Go.Lec Go.Op
/-- A pair as it is told, and the block from which on it lies. -/
structure Ex where
  m : Pr
  lo : Nat
def Ex.val (x : Ex) : Array Value := #[.agg #[.slice x.m.A1 x.m.n1 x.m.c1, .slice x.m.A2 x.m.n2 x.m.c2]]
def ExY (R : List PairB) (B : Nat) (pre : List Ex) (x : Ex) (W : World) : Prop := R[pre.length]? = some x.m.pl ∧ x.m.ok W W.heap.size ∧ x.m.hi x.lo ∧ x.lo ≤ W.heap.size ∧ B ≤ x.lo
/-- An iterator whose memory lies beside G. -/
def UIt (X : It) (M : Nat) (G : Nat → Prop) (W : World) : Prop :=
  ∃ (D : Nat → Prop) (X' : It) (st0 st : Nat), Same X X' ∧ ItM D W X' st0 st ∧ st ≤ M ∧ (∀ b, D b → b < W.heap.size) ∧ (∀ b, G b → b ∉ X.ctl ∧ ¬ D b)
def UAt (all : List PairB) (X : It) (M q : Nat) (G : Nat → Prop) (W : World) : Prop :=
  ∃ (D : Nat → Prop) (X' : It) (st : Nat), Same X X' ∧ ItAt all D W X' st q ∧ st ≤ M ∧ (∀ b, G b → b ∉ X.ctl ∧ ¬ D b)
section
variable {all : List PairB} {X : It} {M M' q : Nat} {G G' Y : Nat → Prop} {W W' : World}
theorem UAt.it (h : UAt all X M q G W) (hM : M ≤ M') : UIt X M' G W := by
  obtain ⟨D, X', st, h1, h2, h3, h4⟩ := h
  exact ⟨D, X', _, st, h1, h2.it, Nat.le_trans h3 hM, h2.lt, h4⟩
theorem UIt.kx (h : UIt X M G W) (hk : Kx Y W W') (hY : ∀ b, Y b → b < W.heap.size → G b) (hG : ∀ b, G' b → b < W.heap.size → G b) : UIt X M (fun b => G' b ∧ (G b ∨ W.heap.size ≤ b)) W' := by
  obtain ⟨D, X', st0, st, h1, h2, h3, h4, h5⟩ := h
  obtain ⟨S, hS, hX⟩ := kb_of_kx hk
  have hl : ∀ b ∈ X.ctl, b < W.heap.size := fun b hb => h2.lt b (by rw [h1.ctl]; exact hb)
  refine ⟨D, X', st0, st, h1, ?_, h3, fun b hb => Nat.lt_of_lt_of_le (h4 b hb) hk.size, fun b hb => ?_⟩
  · obtain ⟨D2, rfl⟩ : ∃ D2, D2 = D := ⟨_, rfl⟩
    have key : ∀ b, b ∈ S → b < W.heap.size → b ∉ X.ctl ∧ ¬ D2 b := fun b hb hlt => h5 b (hY b (hX b hb) hlt)
    exact h2.kb hS (fun b hb hm => (key b hm (h2.lt b hb)).1 (by rw [← h1.ctl]; exact hb)) (fun b hb hm => (key b hm (h4 b hb)).2 hb)
  · rcases hb.2 with h | h
    · exact h5 b h
    · exact ⟨fun hm => by have := hl b hm; omega, fun hD => by have := h4 b hD; omega⟩
theorem UIt.sub (h : UIt X M G W) (hG : ∀ b, G' b → G b) : UIt X M G' W := by
  obtain ⟨D, X', st0, st, h1, h2, h3, h4, h5⟩ := h
  exact ⟨D, X', st0, st, h1, h2, h3, h4, fun b hb => h5 b (hG b hb)⟩
theorem UIt.keep (h : UIt X M G W) (hk : Kx G W W') (hG : ∀ b, G' b → G b ∨ W.heap.size ≤ b) : UIt X M G' W' :=
  (h.kx (Y := G) (G' := G') hk (fun _ hb _ => hb) (fun b hb hlt => (hG b hb).elim id (fun h => by omega))).sub fun b hb => ⟨hb, hG b hb⟩
theorem UAt.below (h : UAt all X M q G W) (hb : Below W.heap.size W W') : UAt all X M q G W' := by
  obtain ⟨D, X', st, h1, h2, h3, h5⟩ := h
  exact ⟨D, X', st, h1, h2.below hb, h3, h5⟩
theorem UAt.keep (h : UAt all X M q G W) (hk : Kx Y W W') (hY : ∀ b, Y b → G b ∨ W.heap.size ≤ b) (hG : ∀ b, G' b → G b ∨ W.heap.size ≤ b) : UAt all X M q G' W' := by
  obtain ⟨D, X', st, h1, h2, h3, h5⟩ := h
  obtain ⟨S, hS, hX⟩ := kb_of_kx hk
  have hl : ∀ b ∈ X'.ctl, b < W.heap.size := h2.it.lt
  have key : ∀ b, (G b ∨ W.heap.size ≤ b) → b ∉ X'.ctl ∧ ¬ D b := fun b hb => by
    rcases hb with h | h
    · rw [h1.ctl]; exact h5 b h
    · exact ⟨fun hm => by have := hl b hm; omega, fun hD => by have := h2.lt b hD; omega⟩
  exact ⟨D, X', st, h1, h2.kb hS (fun b hb hm => (key b (hY b (hX b hm))).1 hb) (fun b hb hm => (key b (hY b (hX b hm))).2 hb), h3, fun b hb => by rw [← h1.ctl]; exact key b (hG b hb)⟩
end
/-- What the iterator has captured: where the iterator over lists lies, from which key on, below which. -/
structure Caps (sx fb tb : Nat) (X : It) (Af : Option Addr) (nf cf : Nat) (At : Option Addr) (nt ct : Nat) (frm upt : List UInt8) (Cb : Nat → Prop) (W : World) : Prop where
  bs : Bk W sx 59 #[.iface 33 (.pointer (some ⟨X.ib, 0, none⟩))]
  bf : Bk W fb 23 #[.slice Af nf cf]
  bt : Bk W tb 23 #[.slice At nt ct]
  rf : Rd W W.heap.size Af nf (bcs frm)
  rt : Rd W W.heap.size At nt (bcs upt)
  s : Cb sx
  f : Cb fb
  t : Cb tb
  af : 0 < nf → ∀ a, Af = some a → Cb a.block
  at_ : 0 < nt → ∀ a, At = some a → Cb a.block
theorem Caps.kx {sx fb tb : Nat} {X : It} {Af At : Option Addr} {nf cf nt ct : Nat} {frm upt : List UInt8} {Cb Y : Nat → Prop} {W W' : World} (h : Caps sx fb tb X Af nf cf At nt ct frm upt Cb W) (hk : Kx Y W W') (hY : ∀ b, Cb b → ¬ Y b) : Caps sx fb tb X Af nf cf At nt ct frm upt Cb W' :=
  ⟨h.bs.kx hk (hY _ h.s), h.bf.kx hk (hY _ h.f), h.bt.kx hk (hY _ h.t), h.rf.kx hk (fun hn a e => hY _ (h.af hn a e)), h.rt.kx hk (fun hn a e => hY _ (h.at_ hn a e)), h.s, h.f, h.t, h.af, h.at_⟩
def partL (all : List PairB) (frm upt : List UInt8) : List PairB := (all.drop (posD (fun k => bytesLess k frm) all)).takeWhile (fun p => ends upt p.1)
/-- Where the iterator stands between its rounds. -/
def EntR (all : List PairB) (X : It) (M q0 W0 : Nat) (R : List PairB) (J : List Ex → (Nat → Prop) → World → Prop) (C : World → Prop) (Cb : Nat → Prop) (r : Nat) (v5 : Value) (wr : World) : Prop :=
  ∃ (ys : List Ex) (G : Nat → Prop), r + ys.length = R.length ∧ v5 = .bool (decide (q0 + ys.length < all.length)) ∧ ys.map (fun x => x.m.pl) = R.take ys.length ∧ J ys G wr ∧ UAt all X (M + (ys.length + 1) * X.Hs.length) (q0 + ys.length) G wr ∧ C wr ∧ (∀ b, G b → b < wr.heap.size) ∧ (∀ b, Cb b → ¬ G b) ∧ W0 ≤ wr.heap.size
set_option maxRecDepth 100000 in
set_option maxHeartbeats 4000000 in
theorem entries_G (n : Nat) (hn : 1 ≤ n) {all : List PairB} {X : It} {M sx fb tb nf cf nt ct : Nat} {Af At : Option Addr} {frm upt : List UInt8} {Cb : Nat → Prop} (w : World) (hm : Makes X all) (hal : all.length ≤ 10000) (hM : M ≤ 1152921504606846976) (hX : X.Hs.length ≤ 100000) (hcx : ∀ b, Cb b → b ∉ X.ctl) (hcl : ∀ b, Cb b → b < w.heap.size) :
    SeqG Try.prog n 43 #[.pointer (some ⟨sx, 0, none⟩), .pointer (some ⟨fb, 0, none⟩), .pointer (some ⟨tb, 0, none⟩)] Ex.val Ex.lo (· ∈ X.ctl) (ExY (partL all frm upt) w.heap.size)
      (fun G W => UIt X M G W ∧ Caps sx fb tb X Af nf cf At nt ct frm upt Cb W ∧ ∀ b, Cb b → ¬ G b) (fun G W => UIt X (M + 10002 * X.Hs.length) G W) (fun xs => xs.map (fun x => x.m.pl) = partL all frm upt) (fun _ => True) (partL all frm upt).length w := by
  intro l J Jx W G hW hU hGlt hJ hY h0
  obtain ⟨hUI, hC, hCG⟩ := hU
  obtain ⟨D, X1, st0, st, hs1, hI1, hst1, hD1, hG1⟩ := hUI
  have hm1 : Makes X1 all := ⟨by rw [hs1.K]; exact hm.all, by rw [hs1.K]; exact hm.srt⟩
  have q0 := hC.bs.cell 0
  have q1 := hC.bf.cell 0
  have hSe := i_Seek hI1 hm1 hD1 (by omega) (ck := cf) hC.rf (Nat.le_refl _) (fun h0 a ha hc => hcx _ (hC.af h0 a ha) (by rw [← hs1.ctl]; exact hc))
  unfold NowP at hSe
  rw [hs1.ib, hs1.ctl, hs1.len] at hSe
  obtain ⟨p0, hp0⟩ : ∃ p0, p0 = posD (fun x => bytesLess x frm) all := ⟨_, rfl⟩
  obtain ⟨R, hR⟩ : ∃ R, R = partL all frm upt := ⟨_, rfl⟩
  have HR := Lib.hid (show R = (all.drop p0).takeWhile (fun p => ends upt p.1) by rw [hR, hp0]; rfl)
  rw [← hp0] at hSe
  rw [← hR] at hY ⊢
  have hRl : p0 + R.length ≤ all.length := by
    have h1 : p0 ≤ all.length := by rw [hp0]; exact posD_le _ _
    have h2 := (List.takeWhile_prefix (p := fun p : PairB => ends upt p.1) (l := all.drop p0)).length_le
    rw [← HR.out, List.length_drop] at h2
    omega
  have HSe := Lib.hid hSe
  have HC := Lib.hid hC
  have Hs1 := Lib.hid hs1
  have HG1 := Lib.hid hG1
  have HGlt := Lib.hid hGlt
  have HCG := Lib.hid hCG
  have hWw := hW.size
  have HJ := Lib.hid hJ
  have HYy := Lib.hid hY
  have Hcl := Lib.hid hcl
  have Hcx := Lib.hid hcx
  clear hSe hC hI1 hD1 hm1 hp0 hR hGlt hCG hG1 hJ hY hcl hcx
  refine callsIn_of_wp Try.func43 rfl trivial ?_ rfl
  simp only [Try.ntmps43, List.size_toArray, List.length_cons, List.length_nil, Nat.reduceAdd, Nat.reduceSub, Array.replicate_succ, Array.replicate_zero, List.push_toArray, List.append_toArray, List.nil_append, List.cons_append]
  gi_wp2_with fail
  refine ⟨fun _ _ => trivial, ?_⟩
  go_invoke
  go_simp
  refine (callsIn_wide.2 HSe.out).mono ?_
  rintro e w1 ⟨rfl, D2, X2, st2, hs2, hst2, hI2, hg2, hk2⟩
  have hkx : Kx (fun b => b ∈ X.ctl) W w1 := Kx.of_kb hk2 (fun _ h => h)
  have HC1 := Lib.hid (HC.out.kx hkx (fun b hb => Hcx.out b hb))
  have hJ1 := HJ.out _ _ _ _ h0 hkx
  have hR1 : EntR all X M p0 W.heap.size R J (Caps sx fb tb X Af nf cf At nt ct frm upt Cb) Cb R.length (.bool (decide (p0 < all.length))) w1 :=
    ⟨[], G, rfl, rfl, rfl, hJ1, ⟨D2, X2, st2, Hs1.out.trans hs2, hI2, by simp only [List.length_nil]; omega, fun b hb => ⟨(HG1.out b hb).1, fun hD => by
      rcases hg2.new_ b hD with h1 | h1
      · exact (HG1.out b hb).2 h1
      · have := HGlt.out b hb; omega⟩⟩, HC1.out, fun b hb => Nat.lt_of_lt_of_le (HGlt.out b hb) hk2.size, HCG.out, hk2.size⟩
  clear HSe hs2 hst2 hI2 hg2 hk2 hkx HC1 hJ1 q0 q1 h0 HC
  have HR1 := Lib.hid hR1
  clear hR1
  gi_wp2
  gi_loopw [5] (fun v5 wr => ∃ r, EntR all X M p0 W.heap.size R J (Caps sx fb tb X Af nf cf At nt ct frm upt Cb) Cb r v5 wr) (fun v5 wr => leastM (fun r => EntR all X M p0 W.heap.size R J (Caps sx fb tb X Af nf cf At nt ct frm upt Cb) Cb r v5 wr))
  case atStart => exact ⟨_, HR1.out⟩
  case round =>
    obtain ⟨hr, hmin⟩ := leastM_spec hrel
    obtain ⟨r, hre⟩ : ∃ r, r = leastM (fun r => EntR all X M p0 W.heap.size R J (Caps sx fb tb X Af nf cf At nt ct frm upt Cb) Cb r u5 wr) := ⟨_, rfl⟩
    rw [← hre] at hr hmin
    have Hre := Lib.hid hre
    have Hdn := Lib.hid (show ∀ (v : Value) (W' : World), EntR all X M p0 W.heap.size R J (Caps sx fb tb X Af nf cf At nt ct frm upt Cb) Cb (r - 1) v W' → leastM (fun r => EntR all X M p0 W.heap.size R J (Caps sx fb tb X Af nf cf At nt ct frm upt Cb) Cb r v W') ≤ r - 1 from fun v W' h => (leastM_spec (p := fun r => EntR all X M p0 W.heap.size R J (Caps sx fb tb X Af nf cf At nt ct frm upt Cb) Cb r v W') ⟨_, h⟩).2 _ h)
    clear hre hmin hrel
    obtain ⟨ys, G', hry, rfl, hyp, hJs, hUA, hCs, hGl, hCG, hWr⟩ := hr
    obtain ⟨k, hk⟩ : ∃ k, k = ys.length := ⟨_, rfl⟩
    rw [← hk] at hry hyp hUA
    obtain ⟨q, hq⟩ : ∃ q, q = p0 + k := ⟨_, rfl⟩
    rw [← hk, ← hq]
    rw [← hq] at hUA
    have hUA2 := hUA
    obtain ⟨D2, X2, st2, hs2, hI2, hst2, hG2⟩ := hUA
    have hkn : (k + 1) * X.Hs.length ≤ 10001 * 100000 := Nat.mul_le_mul (by omega) hX
    have hkm : (k + 1) * X.Hs.length ≤ 10002 * X.Hs.length := Nat.mul_le_mul_right _ (by omega)
    have HUA := Lib.hid hUA2
    have HI2 := Lib.hid hI2
    have Hs2 := Lib.hid hs2
    have HG2 := Lib.hid hG2
    have Hk := Lib.hid hk
    have Hq := Lib.hid hq
    have Hyp := Lib.hid hyp
    have HJs := Lib.hid hJs
    have HCs := Lib.hid hCs
    have HGl := Lib.hid hGl
    have HCG := Lib.hid hCG
    by_cases hqa : q < all.length
    · have hd : decide (q < all.length) = true := decide_eq_true hqa
      rw [hd]
      have Hqd := Lib.hid hd
      have hPr := i_Pair hI2 hqa
      unfold PairP at hPr
      rw [hs2.ib] at hPr
      have HPr := Lib.hid hPr
      have q0 := hCs.bs.cell 0
      have hdk : (all.drop p0)[k]? = some all[q] := by rw [List.getElem?_drop, ← hq, List.getElem?_eq_getElem hqa]
      clear hd hPr hUA2 hI2 hs2 hG2 hk hq hyp hJs hCs hGl hCG
      gi_wp2_with fail
      refine ⟨fun _ _ => trivial, ?_⟩
      go_invoke
      go_simp
      refine (callsIn_wide.2 HPr.out).mono ?_
      rintro e w2 ⟨m, rfl, hm1, hm2, hm3, hb2⟩
      have hb3 := (Below.refl w2.heap.size w2).alloc (Nat.le_refl _) (.cells #[.slice m.A1 m.n1 m.c1, .slice m.A2 m.n2 m.c2] 56)
      have N3 := Bk.new_ w2 56 #[.slice m.A1 m.n1 m.c1, .slice m.A2 m.n2 m.c2]
      obtain ⟨w3, hw3⟩ : ∃ x, x = w2.alloc (.cells #[.slice m.A1 m.n1 m.c1, .slice m.A2 m.n2 m.c2] 56) := ⟨_, rfl⟩
      obtain ⟨pb, hpb⟩ : ∃ x, x = w2.heap.size := ⟨_, rfl⟩
      rw [← hw3] at hb3 N3
      rw [← hpb] at N3
      have hb23 := hb2.trans (hb3.mono hb2.size)
      have hm13 := ((encPr_ok hm1).below hb3 (Nat.le_refl _)).more hb3.size
      have hC3 := HCs.out.kx (Kx.new_ hb23 : Kx (fun _ => False) wr w3) (fun _ _ h => h)
      have x0 := N3.cell 0
      have x1 := N3.cell 1
      have x3 := hC3.bt.cell 0
      have HJ3 := Lib.hid (HJ.out _ _ _ _ HJs.out (Kx.new_ hb23))
      have HCmp := Lib.hid (c_bCompare w3 (c := m.c1) (c2 := ct) (pr_ok hm13).1 hC3.rt)
      have hul : upt.length = nt := by have := hC3.rt.1; rwa [bcs_length] at this
      have Hw3 := Lib.hid hw3
      have Hpb := Lib.hid hpb
      have Hb23 := Lib.hid hb23
      have Hm := Lib.hid (And.intro (pr_ok hm13) (And.intro hm2 hm3))
      clear hb2 hb3 N3 hw3 hpb hb23 hm13 hC3 hm1 hm2
      by_cases hkR : k < R.length
      · obtain ⟨p, hp1, hp2, hp3⟩ := tw_lt (p := fun p : PairB => ends upt p.1) (l := all.drop p0) (k := k) (by rw [← HR.out]; exact hkR)
        rw [← HR.out] at hp2
        rw [hdk] at hp1
        have hpe : all[q] = p := Option.some.inj hp1
        rw [hpe] at hm3
        have HYs := HYy.out ys ⟨m, wr.heap.size⟩ G' w3 HJ3.out ⟨by rw [← Hk.out, hp2, ← hm3], Hm.out.1, Hm.out.2.1, Hb23.out.size, Nat.le_trans hWw hWr⟩ hWr HGl.out (by rw [← Hk.out]; exact hkR)
        unfold Ex.val at HYs
        obtain ⟨fn, tmps, assign, body, hy, hRR⟩ := HYs
        have HRR := Lib.hid hRR
        have Hp := Lib.hid (And.intro hp2 hm3)
        have hend : (0 < nt → bytesLess m.key upt = true) := fun h0 => by
          have h1 : ends upt p.1 = true := hp3
          rw [← hm3] at h1
          unfold ends at h1
          rw [hul, decide_eq_true h0] at h1
          simpa [Pr.pl] using h1
        clear hRR hp1 hp2 hp3 hpe hdk hm3
        have hw3 := Hw3.out
        have hpb := Hpb.out
        clear Hw3 Hpb
        subst hw3 hpb
        have hcmp0 : 0 < nt → decide ((0 : Int) ≤ Lib.compareBytes m.key upt) = false := fun h0 => by
          have h1 := cmp_neg_decide m.key upt
          rw [hend h0] at h1
          have h2 : Lib.compareBytes m.key upt < 0 := of_decide_eq_true h1
          exact decide_eq_false (by omega)
        have Hcmp0 := Lib.hid hcmp0
        clear hcmp0 hend
        by_cases h0 : 0 < nt
        · have hcmp := Hcmp0.out h0
          have h0' : (0 : Int) < (nt : Int) := by omega
          gi_wp2_with (first | (refine ⟨trivial, ?_⟩; gi_at_call 38; refine (callsIn_wide.2 HCmp.out).mono ?_; rintro e w4 ⟨rfl, rfl⟩))
          refine HRR.out.mono ?_
          rintro e w4 (⟨rfl, G2, hJ2, hk4, hg4⟩ | ⟨rfl, G2, hJx, hk4, hg4⟩)
          · have hkr : Kx (fun b => G' b ∨ wr.heap.size ≤ b) wr w4 := (Kx.new_ Hb23.out).trans hk4 (fun b hb => .inl hb)
            have hU4 := HUA.out.keep hkr (fun _ h => h) (G' := G2) (fun b hb => (hg4 b hb).2)
            have hC4 := HCs.out.kx hkr (fun b hb h => h.elim (HCG.out b hb) (fun h => by have := Hcl.out b hb; omega))
            have hCG4 : ∀ b, Cb b → ¬ G2 b := fun b hb h => (hg4 b h).2.elim (HCG.out b hb) (fun h => by have := Hcl.out b hb; omega)
            obtain ⟨D4, X4, st4, hs4, hI4, hst4, hG4⟩ := hU4
            have hNx := i_Next hI4 hqa (by omega)
            unfold NowP at hNx
            rw [hs4.ib, hs4.ctl, hs4.len] at hNx
            have HNx := Lib.hid hNx
            have q4 := hC4.bs.cell 0
            have HC4 := Lib.hid hC4
            have H4 := Lib.hid (And.intro hs4 (And.intro hst4 hG4))
            have HJ2 := Lib.hid hJ2
            have Hg4 := Lib.hid hg4
            have HCG4 := Lib.hid hCG4
            have hz4 := hkr.size
            clear hNx hC4 hs4 hst4 hG4 hI4 hJ2 hk4 hg4 hkr hCG4 HRR HPr HCmp x0 x1 x3
            gi_wp2_with fail
            refine ⟨fun _ _ => trivial, ?_⟩
            go_invoke
            go_simp
            refine (callsIn_wide.2 HNx.out).mono ?_
            rintro e w5 ⟨rfl, D5, X5, st5, hs5, hst5, hI5, hg5, hk5⟩
            have hkx : Kx (fun b => b ∈ X.ctl) w4 w5 := Kx.of_kb hk5 (fun _ h => h)
            obtain ⟨hs4, hst4, hG4⟩ := H4.out
            have hJ5 := HJ.out _ _ _ _ HJ2.out hkx
            have hnew : EntR all X M p0 W.heap.size R J (Caps sx fb tb X Af nf cf At nt ct frm upt Cb) Cb (r - 1) (.bool (decide (q + 1 < all.length))) w5 := by
              have hke := Hk.out
              have hqe := Hq.out
              refine ⟨ys ++ [⟨m, wr.heap.size⟩], G2, by rw [List.length_append, List.length_singleton]; omega, by rw [List.length_append, List.length_singleton, ← hke, hqe]; rfl, ?_, hJ5, ⟨D5, X5, st5, hs4.trans hs5, ?_, ?_, fun b hb => ⟨(hG4 b hb).1, fun hD => ?_⟩⟩, HC4.out.kx hkx (fun b hb => Hcx.out b hb), fun b hb => Nat.lt_of_lt_of_le (Hg4.out b hb).1 hk5.size, HCG4.out, by have := hk5.size; omega⟩
              · rw [List.map_append, List.length_append, List.length_singleton, ← hke, Hyp.out, List.take_succ_eq_append_getElem hkR]
                have h1 := (List.getElem?_eq_some_iff.1 Hp.out.1).2
                rw [h1, ← Hp.out.2]; rfl
              · rw [List.length_append, List.length_singleton, ← hke, show p0 + (k + 1) = q + 1 by omega]; exact hI5
              · rw [List.length_append, List.length_singleton, ← hke]
                have : (k + 1 + 1) * X.Hs.length = (k + 1) * X.Hs.length + X.Hs.length := by rw [Nat.add_mul (k + 1) 1, Nat.one_mul]
                omega
              · rcases hg5.new_ b hD with h1 | h1
                · exact (hG4 b hb).2 h1
                · have := (Hg4.out b hb).1; omega
            have hd := Hdn.out _ _ hnew
            have Hnew := Lib.hid hnew
            have Hd := Lib.hid hd
            clear hnew hd hJ5 hkx hs5 hst5 hI5 hg5 hk5 hs4 hst4 hG4
            gi_wp2
            refine ⟨⟨_, Hnew.out⟩, ?_⟩
            have h1 := Hd.out
            have h2 := Hre.out
            rw [← Hk.out, ← Hq.out, Hqd.out] at h2
            rw [← h2]
            omega
          · gi_wp2
            refine bodyPost_ret (results_none rfl _ _ _) rfl ?_
            have hkr : Kx (fun b => G' b ∨ wr.heap.size ≤ b) wr w4 := (Kx.new_ Hb23.out).trans hk4 (fun b hb => .inl hb)
            have hU4 := HUA.out.keep hkr (fun _ h => h) (G' := G2) (fun b hb => (hg4 b hb).2)
            exact ⟨⟨_, rfl⟩, .inr ⟨_, G2, trivial, hJx, hU4.it (by omega)⟩⟩
        · have h0' : ¬ (0 : Int) < (nt : Int) := by omega
          gi_wp2
          refine ⟨trivial, ?_⟩
          gi_wp2
          refine HRR.out.mono ?_
          rintro e w4 (⟨rfl, G2, hJ2, hk4, hg4⟩ | ⟨rfl, G2, hJx, hk4, hg4⟩)
          · have hkr : Kx (fun b => G' b ∨ wr.heap.size ≤ b) wr w4 := (Kx.new_ Hb23.out).trans hk4 (fun b hb => .inl hb)
            have hU4 := HUA.out.keep hkr (fun _ h => h) (G' := G2) (fun b hb => (hg4 b hb).2)
            have hC4 := HCs.out.kx hkr (fun b hb h => h.elim (HCG.out b hb) (fun h => by have := Hcl.out b hb; omega))
            have hCG4 : ∀ b, Cb b → ¬ G2 b := fun b hb h => (hg4 b h).2.elim (HCG.out b hb) (fun h => by have := Hcl.out b hb; omega)
            obtain ⟨D4, X4, st4, hs4, hI4, hst4, hG4⟩ := hU4
            have hNx := i_Next hI4 hqa (by omega)
            unfold NowP at hNx
            rw [hs4.ib, hs4.ctl, hs4.len] at hNx
            have HNx := Lib.hid hNx
            have q4 := hC4.bs.cell 0
            have HC4 := Lib.hid hC4
            have H4 := Lib.hid (And.intro hs4 (And.intro hst4 hG4))
            have HJ2 := Lib.hid hJ2
            have Hg4 := Lib.hid hg4
            have HCG4 := Lib.hid hCG4
            have hz4 := hkr.size
            clear hNx hC4 hs4 hst4 hG4 hI4 hJ2 hk4 hg4 hkr hCG4 HRR HPr HCmp x0 x1 x3
            gi_wp2_with fail
            refine ⟨fun _ _ => trivial, ?_⟩
            go_invoke
            go_simp
            refine (callsIn_wide.2 HNx.out).mono ?_
            rintro e w5 ⟨rfl, D5, X5, st5, hs5, hst5, hI5, hg5, hk5⟩
            have hkx : Kx (fun b => b ∈ X.ctl) w4 w5 := Kx.of_kb hk5 (fun _ h => h)
            obtain ⟨hs4, hst4, hG4⟩ := H4.out
            have hJ5 := HJ.out _ _ _ _ HJ2.out hkx
            have hnew : EntR all X M p0 W.heap.size R J (Caps sx fb tb X Af nf cf At nt ct frm upt Cb) Cb (r - 1) (.bool (decide (q + 1 < all.length))) w5 := by
              have hke := Hk.out
              have hqe := Hq.out
              refine ⟨ys ++ [⟨m, wr.heap.size⟩], G2, by rw [List.length_append, List.length_singleton]; omega, by rw [List.length_append, List.length_singleton, ← hke, hqe]; rfl, ?_, hJ5, ⟨D5, X5, st5, hs4.trans hs5, ?_, ?_, fun b hb => ⟨(hG4 b hb).1, fun hD => ?_⟩⟩, HC4.out.kx hkx (fun b hb => Hcx.out b hb), fun b hb => Nat.lt_of_lt_of_le (Hg4.out b hb).1 hk5.size, HCG4.out, by have := hk5.size; omega⟩
              · rw [List.map_append, List.length_append, List.length_singleton, ← hke, Hyp.out, List.take_succ_eq_append_getElem hkR]
                have h1 := (List.getElem?_eq_some_iff.1 Hp.out.1).2
                rw [h1, ← Hp.out.2]; rfl
              · rw [List.length_append, List.length_singleton, ← hke, show p0 + (k + 1) = q + 1 by omega]; exact hI5
              · rw [List.length_append, List.length_singleton, ← hke]
                have : (k + 1 + 1) * X.Hs.length = (k + 1) * X.Hs.length + X.Hs.length := by rw [Nat.add_mul (k + 1) 1, Nat.one_mul]
                omega
              · rcases hg5.new_ b hD with h1 | h1
                · exact (hG4 b hb).2 h1
                · have := (Hg4.out b hb).1; omega
            have hd := Hdn.out _ _ hnew
            have Hnew := Lib.hid hnew
            have Hd := Lib.hid hd
            clear hnew hd hJ5 hkx hs5 hst5 hI5 hg5 hk5 hs4 hst4 hG4
            gi_wp2
            refine ⟨⟨_, Hnew.out⟩, ?_⟩
            have h1 := Hd.out
            have h2 := Hre.out
            rw [← Hk.out, ← Hq.out, Hqd.out] at h2
            rw [← h2]
            omega
          · gi_wp2
            refine bodyPost_ret (results_none rfl _ _ _) rfl ?_
            have hkr : Kx (fun b => G' b ∨ wr.heap.size ≤ b) wr w4 := (Kx.new_ Hb23.out).trans hk4 (fun b hb => .inl hb)
            have hU4 := HUA.out.keep hkr (fun _ h => h) (G' := G2) (fun b hb => (hg4 b hb).2)
            exact ⟨⟨_, rfl⟩, .inr ⟨_, G2, trivial, hJx, hU4.it (by omega)⟩⟩
      · have hkR' : k = R.length := by omega
        have hte := tw_end (p := fun p : PairB => ends upt p.1) (l := all.drop p0) (x := all[q]) (by rw [← HR.out, ← hkR']; exact hdk)
        rw [← hm3] at hte
        have hte : ends upt m.key = false := hte
        unfold ends at hte
        rw [hul] at hte
        have h0 : 0 < nt := by
          rcases Nat.eq_zero_or_pos nt with h | h
          · rw [h] at hte; simp at hte
          · exact h
        rw [decide_eq_true h0] at hte
        have hless : bytesLess m.key upt = false := by simpa using hte
        have hcmp : decide ((0 : Int) ≤ Lib.compareBytes m.key upt) = true := by
          have h1 := cmp_neg_decide m.key upt
          rw [hless] at h1
          have h2 : ¬ Lib.compareBytes m.key upt < 0 := of_decide_eq_false h1
          exact decide_eq_true (by omega)
        have h0' : (0 : Int) < (nt : Int) := by omega
        have hw3 := Hw3.out
        have hpb := Hpb.out
        clear Hw3 Hpb hte hless hdk hm3
        subst hw3 hpb
        gi_wp2_with (first | (refine ⟨trivial, ?_⟩; gi_at_call 38; refine (callsIn_wide.2 HCmp.out).mono ?_; rintro e w4 ⟨rfl, rfl⟩))
        refine ⟨(fun _ h => by cases h), ?_⟩
        gi_wp2
        refine bodyPost_ret (results_none rfl _ _ _) rfl ?_
        exact ⟨⟨_, rfl⟩, .inl ⟨ys, G', by rw [Hyp.out, hkR', List.take_length], HJ3.out, (HUA.out.below Hb23.out).it (by omega)⟩⟩
    · have hkR' : k = R.length := by omega
      have hd : decide (q < all.length) = false := decide_eq_false hqa
      rw [hd]
      clear hd hUA2 hI2 hs2 hG2 hk hq hyp hJs hCs hGl hCG
      gi_wp2
      go_end0
      exact ⟨⟨_, rfl⟩, .inl ⟨ys, G', by rw [Hyp.out, hkR', List.take_length], HJs.out, HUA.out.it (by omega)⟩⟩
theorem c_entries (w : World) {ib : Nat} {Af At : Option Addr} {nf cf nt ct : Nat} : Calls Try.prog 22 #[.iface 33 (.pointer (some ⟨ib, 0, none⟩)), .slice Af nf cf, .slice At nt ct] w fun e w' =>
    e = .returned (.func (.func 43) #[] #[.pointer (some ⟨w.heap.size, 0, none⟩), .pointer (some ⟨w.heap.size + 1, 0, none⟩), .pointer (some ⟨w.heap.size + 1 + 1, 0, none⟩)]) ∧
      w' = ((w.alloc (.cells #[.iface 33 (.pointer (some ⟨ib, 0, none⟩))] 59)).alloc (.cells #[.slice Af nf cf] 23)).alloc (.cells #[.slice At nt ct] 23) := by
  have hmf : ∀ (fn : Fn) (first cap : Array Value) (w : World), (Instr.makeFunc fn first cap).run Try.prog w = .ok (.func fn first cap) w := fun _ _ _ _ => rfl
  go_enter Try.func22, Try.ntmps22
  go_wp2
  go_ret
  exact ⟨rfl, rfl⟩
end Go.Proofs.Ytedelkifadonjaa
