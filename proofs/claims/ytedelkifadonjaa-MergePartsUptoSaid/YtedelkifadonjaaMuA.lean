/- Layer 23: what is seen, part by part (View): whether keys are one's. -/
import Derived.Test.YtedelkifadonjaaMtG
import Derived.Test.YtedelkifadonjaaRangeG
import Derived.Sort.CutIn
import Derived.Test.YtedelkifadonjaaInRound
namespace Go.Lec
/-- In the wide fence a round's contract leans not on how deep. -/
theorem yieldAt_any {n m : Nat} {P : Program} {l : Nat} {args : Array Value} {W : World} {R : Ending → World → Prop} (h : YieldAt Fence.wide n P l args W R) : YieldAt Fence.wide m P l args W R := by
  obtain ⟨fn, tmps, assign, body, h1, h2⟩ := h
  exact ⟨fn, tmps, assign, body, h1, h2.1, fun c cs _ => h2.2 c cs (room_wide _)⟩
end Go.Lec
namespace Go.Proofs.Ytedelkifadonjaa
open Go.RowKit Go.Lec Go.Op
set_option maxRecDepth 100000 in
/-- ikey.Same. -/
theorem c_ikSame (w : World) {K M : Key} {B1 B2 c1 c2 : Nat} {A1 A2 : Option Addr} (h1 : Rd w B1 A1 (bcs K.srt).length (bcs K.srt)) (h2 : Rd w B2 A2 (bcs M.srt).length (bcs M.srt)) (hB1 : B1 ≤ w.heap.size) (hB2 : B2 ≤ w.heap.size) :
    Calls Try.prog 24 #[.agg #[.int .i64 K.ep, .slice A1 (bcs K.srt).length c1, .int .i64 K.sq, .int .i64 K.kd, .string ⟨K.txt.toArray⟩], .agg #[.int .i64 M.ep, .slice A2 (bcs M.srt).length c2, .int .i64 M.sq, .int .i64 M.kd, .string ⟨M.txt.toArray⟩]] w
      fun e w' => e = .returned (.bool (decide ((K.ep, K.srt) = (M.ep, M.srt)))) ∧ Below w.heap.size w w' := by
  obtain ⟨kep, ksrt, ksq, kkd, ktxt⟩ := K
  obtain ⟨mep, msrt, msq, mkd, mtxt⟩ := M
  dsimp only at h1 h2 ⊢
  have hb1 := (Below.refl w.heap.size w).alloc (Nat.le_refl _) (.cells #[.int .i64 kep, .slice A1 (bcs ksrt).length c1, .int .i64 ksq, .int .i64 kkd, .string ⟨ktxt.toArray⟩] 38)
  have N1 := (Bk.new_ w 38 #[.int .i64 kep, .slice A1 (bcs ksrt).length c1, .int .i64 ksq, .int .i64 kkd, .string ⟨ktxt.toArray⟩]).alloc (.cells #[.int .i64 mep, .slice A2 (bcs msrt).length c2, .int .i64 msq, .int .i64 mkd, .string ⟨mtxt.toArray⟩] 38)
  have N2 := Bk.new_ (w.alloc (.cells #[.int .i64 kep, .slice A1 (bcs ksrt).length c1, .int .i64 ksq, .int .i64 kkd, .string ⟨ktxt.toArray⟩] 38)) 38 #[.int .i64 mep, .slice A2 (bcs msrt).length c2, .int .i64 msq, .int .i64 mkd, .string ⟨mtxt.toArray⟩]
  have hb2 := hb1.alloc hb1.size (.cells #[.int .i64 mep, .slice A2 (bcs msrt).length c2, .int .i64 msq, .int .i64 mkd, .string ⟨mtxt.toArray⟩] 38)
  rw [World.size_alloc] at N2
  have q1 := N1.cell
  have q2 := N2.cell
  have HC := Lib.hid (c_bEqual _ (c := c1) (c2 := c2) (h1.below hb2 hB1) (h2.below hb2 hB2))
  have Hb := Lib.hid hb2
  clear N1 N2 hb1 hb2 h1 h2
  by_cases he : kep = mep
  · subst he
    have hd : decide ((kep, ksrt) = (kep, msrt)) = decide (ksrt = msrt) := by simp
    rw [hd]
    clear hd
    go_enter Try.func24, Try.ntmps24
    go_wp2_with (first | (go_at_call 41; refine HC.out.mono ?_; rintro e w1 ⟨rfl, rfl⟩))
    go_ret
    exact ⟨rfl, Hb.out⟩
  · have he' : ((kep : Int) == (mep : Int)) = false := by rw [beq_eq_false_iff_ne]; omega
    have hd : decide ((kep, ksrt) = (mep, msrt)) = false := decide_eq_false (fun h => he (congrArg Prod.fst h))
    rw [hd]
    clear hd he
    go_enter Try.func24, Try.ntmps24
    go_wp2
    go_ret
    exact ⟨rfl, Hb.out⟩
theorem c_mView (w : World) {ib : Nat} {Af At : Option Addr} {nf cf nt ct : Nat} {sq : Int} : Calls Try.prog 10 #[.iface 33 (.pointer (some ⟨ib, 0, none⟩)), .slice Af nf cf, .slice At nt ct, .int .i64 sq] w fun e w' =>
    e = .returned (.func (.func 21) #[] #[.pointer (some ⟨w.heap.size, 0, none⟩), .pointer (some ⟨w.heap.size + 1, 0, none⟩), .pointer (some ⟨w.heap.size + 1 + 1, 0, none⟩), .pointer (some ⟨w.heap.size + 1 + 1 + 1, 0, none⟩)]) ∧
      w' = (((w.alloc (.cells #[.iface 33 (.pointer (some ⟨ib, 0, none⟩))] 59)).alloc (.cells #[.slice Af nf cf] 23)).alloc (.cells #[.slice At nt ct] 23)).alloc (.cells #[.int .i64 sq] 3) := by
  have hmf : ∀ (fn : Fn) (first cap : Array Value) (w : World), (Instr.makeFunc fn first cap).run Try.prog w = .ok (.func fn first cap) w := fun _ _ _ _ => rfl
  go_enter Try.func10, Try.ntmps10
  go_wp2
  go_ret
  exact ⟨rfl, rfl⟩
end Go.Proofs.Ytedelkifadonjaa
/- Layer 23: what View tells (View$1): its contract (view_H). -/
namespace Go.Proofs.Ytedelkifadonjaa
open Go.RowKit Go.Lec Go.Op
attribute [local go_sem] Oper.semAt_some
/-- What is told: what was found, and the block from which on it lies. -/
structure Vx where
  F : Fnd
  lo : Nat
def Vx.val (x : Vx) : Array Value := #[.agg #[.int .i64 x.F.K.ep, .slice x.F.A1 (bcs x.F.K.srt).length x.F.c1, .int .i64 x.F.K.sq, .int .i64 x.F.K.kd, .string ⟨x.F.K.txt.toArray⟩, .slice x.F.A2 x.F.n2 x.F.c2]]
/-- The blocks of what was told. -/
def Vx.fz (x : Vx) (b : Nat) : Prop := x.lo ≤ b ∧ ((0 < (bcs x.F.K.srt).length ∧ ∃ a, x.F.A1 = some a ∧ a.block = b) ∨ (0 < x.F.n2 ∧ ∃ a, x.F.A2 = some a ∧ a.block = b))
def VxY (V : List (Key × List UInt8)) (B : Nat) (pre : List Vx) (x : Vx) (W : World) : Prop :=
  V[pre.length]? = some x.F.pl ∧ encFd.ok W W.heap.size x.F ∧ (0 < (bcs x.F.K.srt).length → ∀ a, x.F.A1 = some a → x.lo ≤ a.block) ∧ (0 < x.F.n2 → ∀ a, x.F.A2 = some a → x.lo ≤ a.block) ∧ x.lo ≤ W.heap.size ∧ B ≤ x.lo
/-- What View has captured. -/
structure VCaps (sx fb tb qb : Nat) (X : It) (Af : Option Addr) (nf cf : Nat) (At : Option Addr) (nt ct : Nat) (sq : Int) (frm upt : List UInt8) (Cb : Nat → Prop) (W : World) : Prop where
  cp : Caps sx fb tb X Af nf cf At nt ct frm upt Cb W
  bq : Bk W qb 3 #[.int .i64 sq]
  q : Cb qb
/-- Between the rounds: what was told, and the key that was seen last. n0: the first of View's own blocks (the yield's, the last key's, whether there is one). -/
structure VwO (n0 qb : Nat) (l : Nat) (sq : Int) (R : List PairB) (outs : List Vx) (Go : Nat → Prop) (told : Bool) (K : Key) (A : Option Addr) (c : Nat) (pre : List Ex) (G : Nat → Prop) (W : World) : Prop where
  go : ∀ b, Go b → G b
  gn : ∀ b, Go b → b < n0 ∨ n0 + 3 ≤ b
  ol : ∀ y ∈ outs, n0 + 3 ≤ y.lo ∧ ∀ b, y.fz b → G b
  by_ : Bk W n0 63 #[.func (.yield l) #[] #[]]
  bl : Bk W (n0 + 1) 38 #[.int .i64 K.ep, .slice A (bcs K.srt).length c, .int .i64 K.sq, .int .i64 K.kd, .string ⟨K.txt.toArray⟩]
  bt : Bk W (n0 + 1 + 1) 4 #[.bool told]
  rl : Rd W W.heap.size A (bcs K.srt).length (bcs K.srt)
  al : 0 < (bcs K.srt).length → ∀ a, A = some a → n0 + 3 ≤ a.block ∧ G a.block
  law : viewP sq none R = outs.map (fun y => y.F.pl) ++ viewP sq (lastO told K) (R.drop pre.length)
  g0 : G n0
  g1 : G (n0 + 1)
  g2 : G (n0 + 1 + 1)
  gl : ∀ b, G b → b < W.heap.size
  bq : Bk W qb 3 #[.int .i64 sq]
  gq : ¬ G qb
  ql : qb < n0
theorem Vx.fz_lo {x : Vx} {b : Nat} (h : x.fz b) : x.lo ≤ b := h.1
section
variable {n0 qb l : Nat} {sq : Int} {R : List PairB} {outs : List Vx} {Go : Nat → Prop} {told : Bool} {K : Key} {A : Option Addr} {c : Nat} {pre : List Ex} {G Y : Nat → Prop} {W W' : World}
theorem VwO.kx (h : VwO n0 qb l sq R outs Go told K A c pre G W) (hk : Kx Y W W') (hG : ∀ b, Y b → n0 ≤ b → ¬ G b) (hq : ¬ Y qb) : VwO n0 qb l sq R outs Go told K A c pre G W' :=
  ⟨h.go, h.gn, h.ol, h.by_.kx hk (fun hy => hG _ hy (by omega) h.g0), h.bl.kx hk (fun hy => hG _ hy (by omega) h.g1), h.bt.kx hk (fun hy => hG _ hy (by omega) h.g2), h.rl.kx hk (fun hn a e hy => hG _ hy (by have := (h.al hn a e).1; omega) (h.al hn a e).2), h.al, h.law, h.g0, h.g1, h.g2, fun b hb => Nat.lt_of_lt_of_le (h.gl b hb) hk.size, h.bq.kx hk hq, h.gq, h.ql⟩
theorem VwO.below (h : VwO n0 qb l sq R outs Go told K A c pre G W) (hk : Below W.heap.size W W') : VwO n0 qb l sq R outs Go told K A c pre G W' :=
  h.kx (Y := fun _ => False) (Kx.new_ hk) (fun _ h => h.elim) (fun h => h)
theorem VwO.moreG {G' : Nat → Prop} (h : VwO n0 qb l sq R outs Go told K A c pre G W) (hG : ∀ b, G b → G' b) (hl : ∀ b, G' b → b < W.heap.size) (hq : ¬ G' qb) : VwO n0 qb l sq R outs Go told K A c pre G' W :=
  ⟨fun b hb => hG b (h.go b hb), h.gn, fun y hy => ⟨(h.ol y hy).1, fun b hb => hG b ((h.ol y hy).2 b hb)⟩, h.by_, h.bl, h.bt, h.rl, fun hn a e => ⟨(h.al hn a e).1, hG _ (h.al hn a e).2⟩, h.law, hG _ h.g0, hG _ h.g1, hG _ h.g2, hl, h.bq, hq, h.ql⟩
end
/-- Between the rounds, with what the caller says of its own. -/
def VwI (n0 qb l : Nat) (J : List Vx → (Nat → Prop) → World → Prop) (sq : Int) (R : List PairB) (pre : List Ex) (G : Nat → Prop) (W : World) : Prop :=
  ∃ (outs : List Vx) (Go : Nat → Prop) (told : Bool) (K : Key) (A : Option Addr) (c : Nat), J outs Go W ∧ VwO n0 qb l sq R outs Go told K A c pre G W
/-- When the caller wants no more. -/
def VwX (n0 : Nat) (Jx : List Vx → (Nat → Prop) → World → Prop) (c : Code) (_pre : List Ex) (G : Nat → Prop) (W : World) : Prop :=
  c = .ret ∧ ∃ (outs : List Vx) (Go : Nat → Prop), Jx outs Go W ∧ (∀ b, Go b → G b) ∧ ∀ y ∈ outs, n0 + 3 ≤ y.lo ∧ ∀ b, y.fz b → G b
/-- A pair in a round, in its block. -/
structure VwA (wz : Nat) (R : List PairB) (pre : List Ex) (x : Ex) (G : Nat → Prop) (xb : Nat) (W : World) : Prop where
  bx : Bk W xb 56 #[.slice x.m.A1 x.m.n1 x.m.c1, .slice x.m.A2 x.m.n2 x.m.c2]
  gx : G xb
  ok : x.m.ok W W.heap.size
  g1 : 0 < x.m.n1 → ∀ a, x.m.A1 = some a → G a.block
  g2 : 0 < x.m.n2 → ∀ a, x.m.A2 = some a → G a.block
  at_ : R[pre.length]? = some x.m.pl
  lo : x.lo ≤ W.heap.size
  hi : x.m.hi x.lo ∧ wz ≤ x.lo
  xl : x.lo ≤ xb
theorem VwA.kx {wz : Nat} {R : List PairB} {pre : List Ex} {x : Ex} {G Y : Nat → Prop} {xb : Nat} {W W' : World} (h : VwA wz R pre x G xb W) (hk : Kx Y W W') (hG : ∀ b, Y b → ¬ G b) : VwA wz R pre x G xb W' :=
  ⟨h.bx.kx hk (fun hy => hG _ hy h.gx), h.gx, ⟨h.ok.1.kx hk (fun hn a e hy => hG _ hy (h.g1 hn a e)), h.ok.2.1.kx hk (fun hn a e hy => hG _ hy (h.g2 hn a e)), h.ok.2.2⟩, h.g1, h.g2, h.at_, Nat.le_trans h.lo hk.size, h.hi, h.xl⟩
/-- A round as it begins: what was told till now, the pair in its block. -/
def VwAll (n0 qb l : Nat) (J : List Vx → (Nat → Prop) → World → Prop) (sq : Int) (R : List PairB) (wz : Nat) (pre : List Ex) (x : Ex) (G : Nat → Prop) (xb : Nat) (W : World) : Prop :=
  ∃ (outs : List Vx) (Go : Nat → Prop) (told : Bool) (K : Key) (A : Option Addr) (c : Nat), J outs Go W ∧ VwO n0 qb l sq R outs Go told K A c pre G W ∧ (∀ b, Go b → b < x.lo) ∧ VwA wz R pre x G xb W
set_option maxRecDepth 100000 in
set_option maxHeartbeats 4000000 in
theorem view_H (n : Nat) (hn : 5 ≤ n) {all : List PairB} {X : It} {M sx fb tb qb nf cf nt ct : Nat} {Af At : Option Addr} {sq : Int} {frm upt : List UInt8} {Cb : Nat → Prop} (w : World) (hm : Makes X all) (hal : all.length ≤ 10000) (hM : M ≤ 1152921504606846976) (hX : X.Hs.length ≤ 100000) (hcx : ∀ b, Cb b → b ∉ X.ctl) (hcl : ∀ b, Cb b → b < w.heap.size) (hkey : ∀ p ∈ all, p.1.length ≤ 1099511627) :
    SeqH Try.prog n 21 #[.pointer (some ⟨sx, 0, none⟩), .pointer (some ⟨fb, 0, none⟩), .pointer (some ⟨tb, 0, none⟩), .pointer (some ⟨qb, 0, none⟩)] Vx.val Vx.lo Vx.fz (· ∈ X.ctl) (VxY (viewP sq none (partL all frm upt)) w.heap.size)
      (fun G W => UIt X M G W ∧ VCaps sx fb tb qb X Af nf cf At nt ct sq frm upt Cb W ∧ ∀ b, Cb b → ¬ G b) (fun G W => UIt X (M + 10002 * X.Hs.length) G W) (fun xs => xs.map (fun x => x.F.pl) = viewP sq none (partL all frm upt)) (fun _ => True) (viewP sq none (partL all frm upt)).length w := by
  intro l J Jx W G hW hU hGlt hJ hJx hY h0
  obtain ⟨hUI, hC, hCG⟩ := hU
  obtain ⟨R, hR⟩ : ∃ R, R = partL all frm upt := ⟨_, rfl⟩
  have Hkey : ∀ p ∈ R, p.1.length ≤ 1099511627 := fun p hp => hkey p (by
    rw [hR] at hp; unfold partL at hp
    exact List.mem_of_mem_drop (List.takeWhile_prefix _ |>.subset hp))
  have Hkey := Lib.hid Hkey
  rw [← hR] at hY ⊢
  have HR := Lib.hid hR
  clear hkey hR
  have c1 := (((hC.cp.bs.alloc (.cells #[.func (.yield l) #[] #[]] 63)).alloc (.cells #[.int .i64 0, .slice none 0 0, .int .i64 0, .int .i64 0, .string ⟨#[]⟩] 38)).alloc (.cells #[.bool false] 4)).cell 0
  have c2 := (((hC.cp.bf.alloc (.cells #[.func (.yield l) #[] #[]] 63)).alloc (.cells #[.int .i64 0, .slice none 0 0, .int .i64 0, .int .i64 0, .string ⟨#[]⟩] 38)).alloc (.cells #[.bool false] 4)).cell 0
  have c3 := (((hC.cp.bt.alloc (.cells #[.func (.yield l) #[] #[]] 63)).alloc (.cells #[.int .i64 0, .slice none 0 0, .int .i64 0, .int .i64 0, .string ⟨#[]⟩] 38)).alloc (.cells #[.bool false] 4)).cell 0
  have HUI := Lib.hid hUI
  have HC := Lib.hid hC
  have HJ := Lib.hid hJ
  have HJx := Lib.hid hJx
  have HYy := Lib.hid hY
  have H0 := Lib.hid h0
  clear hUI hC hJ hJx hY h0
  refine callsIn_of_wp_marks Try.func21 rfl trivial ?_ rfl
  simp only [Try.ntmps21, List.size_toArray, List.length_cons, List.length_nil, Nat.reduceAdd, Nat.reduceSub, Array.replicate_succ, Array.replicate_zero, List.push_toArray, List.append_toArray, List.nil_append, List.cons_append]
  gi_wp2_with fail
  have hbA := (((Below.refl W.heap.size W).alloc (Nat.le_refl _) (.cells #[.func (.yield l) #[] #[]] 63)).alloc (by simp) (.cells #[.int .i64 0, .slice none 0 0, .int .i64 0, .int .i64 0, .string ⟨#[]⟩] 38)).alloc (by simp; omega) (.cells #[.bool false] 4)
  have NY := ((Bk.new_ W 63 #[.func (.yield l) #[] #[]]).alloc (.cells #[.int .i64 0, .slice none 0 0, .int .i64 0, .int .i64 0, .string ⟨#[]⟩] 38)).alloc (.cells #[.bool false] 4)
  have NL := (Bk.new_ (W.alloc (.cells #[.func (.yield l) #[] #[]] 63)) 38 #[.int .i64 0, .slice none 0 0, .int .i64 0, .int .i64 0, .string ⟨#[]⟩]).alloc (.cells #[.bool false] 4)
  have NT := Bk.new_ ((W.alloc (.cells #[.func (.yield l) #[] #[]] 63)).alloc (.cells #[.int .i64 0, .slice none 0 0, .int .i64 0, .int .i64 0, .string ⟨#[]⟩] 38)) 4 #[.bool false]
  rw [World.size_alloc] at NL
  rw [World.size_alloc, World.size_alloc] at NT
  obtain ⟨w3, hw3⟩ : ∃ x, x = ((W.alloc (.cells #[.func (.yield l) #[] #[]] 63)).alloc (.cells #[.int .i64 0, .slice none 0 0, .int .i64 0, .int .i64 0, .string ⟨#[]⟩] 38)).alloc (.cells #[.bool false] 4) := ⟨_, rfl⟩
  have hz3 : w3.heap.size = W.heap.size + 3 := by rw [hw3]; simp
  rw [← hw3] at hbA NY NL NT ⊢
  have HEn := Lib.hid (c_entries w3 (ib := X.ib) (Af := Af) (nf := nf) (cf := cf) (At := At) (nt := nt) (ct := ct))
  have Hw3 := Lib.hid hw3
  clear hw3 c1 c2 c3
  refine ⟨trivial, fun _ => by omega, ?_⟩
  refine (callsIn_wide.2 HEn.out).mono ?_
  rintro e w4 ⟨rfl, hw4⟩
  gi_wp2_with fail
  have hz4 : w4.heap.size = w3.heap.size + 3 := by rw [hw4]; simp
  have hb4 : Below w3.heap.size w3 w4 := by rw [hw4]; exact (((Below.refl _ _).alloc (Nat.le_refl _) _).alloc (by simp) _).alloc (by simp; omega) _
  have hbs := ((Bk.new_ w3 59 #[.iface 33 (.pointer (some ⟨X.ib, 0, none⟩))]).alloc (.cells #[.slice Af nf cf] 23)).alloc (.cells #[.slice At nt ct] 23)
  have hbf := (Bk.new_ (w3.alloc (.cells #[.iface 33 (.pointer (some ⟨X.ib, 0, none⟩))] 59)) 23 #[.slice Af nf cf]).alloc (.cells #[.slice At nt ct] 23)
  have hbt := Bk.new_ ((w3.alloc (.cells #[.iface 33 (.pointer (some ⟨X.ib, 0, none⟩))] 59)).alloc (.cells #[.slice Af nf cf] 23)) 23 #[.slice At nt ct]
  rw [← hw4] at hbs hbf hbt ⊢
  rw [World.size_alloc] at hbf
  rw [World.size_alloc, World.size_alloc] at hbt
  rw [hz3] at hbs hbf hbt
  have hWw := hW.size
  have hbW := hbA.trans (hb4.mono hbA.size)
  have hCl : ∀ b, Cb b → b < W.heap.size := fun b hb => Nat.lt_of_lt_of_le (hcl b hb) hWw
  have hCaps : Caps (W.heap.size + 3) (W.heap.size + 3 + 1) (W.heap.size + 3 + 1 + 1) X Af nf cf At nt ct frm upt (fun b => Cb b ∨ (W.heap.size + 3 ≤ b ∧ b < w4.heap.size)) w4 :=
    ⟨hbs, hbf, hbt, (HC.out.cp.rf.below hbW (Nat.le_refl _)).more hbW.size, (HC.out.cp.rt.below hbW (Nat.le_refl _)).more hbW.size, .inr ⟨by omega, by omega⟩, .inr ⟨by omega, by omega⟩, .inr ⟨by omega, by omega⟩, fun hn a e => .inl (HC.out.cp.af hn a e), fun hn a e => .inl (HC.out.cp.at_ hn a e)⟩
  have hxl : ∀ b ∈ X.ctl, b < W.heap.size := by
    obtain ⟨D, X1, st0, st, hs1, hI1, _⟩ := HUI.out
    intro b hb
    rw [← hs1.ctl] at hb
    exact hI1.lt b hb
  have hseq := entries_G (n - 1) (by omega) (M := M) (sx := W.heap.size + 3) (fb := W.heap.size + 3 + 1) (tb := W.heap.size + 3 + 1 + 1) (Af := Af) (nf := nf) (cf := cf) (At := At) (nt := nt) (ct := ct) (frm := frm) (upt := upt) (Cb := fun b => Cb b ∨ (W.heap.size + 3 ≤ b ∧ b < w4.heap.size)) w4 hm hal hM hX (fun b hb hx => hb.elim (fun h => hcx b h hx) (fun h => by have := hxl b hx; omega)) (fun b hb => hb.elim (fun h => by have := hCl b h; omega) (fun h => h.2))
  rw [← HR.out] at hseq
  have HGlt := Lib.hid hGlt
  have HCG := Lib.hid hCG
  have Hxl := Lib.hid hxl
  have hJ4 := HJ.out [] G W w4 H0.out (Kx.new_ hbW)
  have I0 : VwI W.heap.size qb l J sq R [] (fun b => G b ∨ b = W.heap.size ∨ b = W.heap.size + 1 ∨ b = W.heap.size + 1 + 1) w4 :=
    ⟨[], G, false, ⟨0, [], 0, 0, []⟩, none, 0, hJ4, ⟨fun b hb => .inl hb, fun b hb => .inl (HGlt.out b hb), fun y hy => (by cases hy), NY.below hb4 NY.lt, NL.below hb4 NL.lt, NT.below hb4 NT.lt, Rd.nil_, fun h => absurd h (by decide), rfl, .inr (.inl rfl), .inr (.inr (.inl rfl)), .inr (.inr (.inr rfl)), fun b hb => hb.elim (fun h => by have := HGlt.out b h; omega) (fun h => by omega), HC.out.bq.below hbW HC.out.bq.lt, fun hg => hg.elim (fun h => HCG.out _ HC.out.q h) (fun h => by have := hCl _ HC.out.q; omega), hCl _ HC.out.q⟩⟩
  have hUw := HUI.out
  have HC := HC.out
  clear hbs hbf hbt NY NL NT hGlt hCG hxl HUI hJ4
  refine range_G (n := n) (by omega) (gf := 43) (lb := #[.pointer (some ⟨W.heap.size + 3, 0, none⟩), .pointer (some ⟨W.heap.size + 3 + 1, 0, none⟩), .pointer (some ⟨W.heap.size + 3 + 1 + 1, 0, none⟩)]) rfl (enters_of Try.func43 (by kernel_rfl) rfl)
    hseq (fun b hb => by have := Hxl.out b hb; omega) (Below.refl _ _) (fun _ => rfl)
    (G0 := fun b => G b ∨ b = W.heap.size ∨ b = W.heap.size + 1 ∨ b = W.heap.size + 1 + 1) (fun b hb => hb.elim (fun h => by have := HGlt.out b h; omega) (fun h => by omega))
    (fun W' hW' => ⟨hUw.keep (Kx.new_ (hbW.trans (hW'.mono (by omega)))) (fun b hb => by
        rcases hb with (h | h) | h
        · exact .inl h
        · exact .inr (by omega)
        · exact .inr (by omega)), hCaps.kx (Kx.new_ hW' : Kx (fun _ => False) w4 W') (fun _ _ h => h), fun b hb hg => by
        rcases hb with hb | hb
        · have h1 := hCl b hb
          rcases hg with (h | h) | h
          · exact HCG.out b hb h
          · omega
          · omega
        · rcases hg with (h | h) | h
          · have := HGlt.out b h; omega
          · omega
          · omega⟩)
    (fun G G' W W' h hs hk => h.keep hk (fun b hb => .inl (hs b hb)))
    (fun pre G W1 => VwI W.heap.size qb l J sq R pre G W1)
    (fun c pre G W1 => VwX W.heap.size Jx c pre G W1)
    (fun s Gi A Bw h hk => by
      obtain ⟨outs, Go, told, K, A0, c0, hJo, hv⟩ := h
      exact ⟨outs, Go, told, K, A0, c0, HJ.out _ _ _ _ hJo (hk.more fun b hb => ⟨hb.imp id (fun h => ⟨by omega, fun hg => h.2 (hv.go b hg)⟩), fun y hy hf => by
          have h1 := hv.ol y hy
          have h2 := hf.1
          exact hb.elim (fun h => by have := Hxl.out b h; omega) (fun h => h.2 (h1.2 b hf))⟩), hv.kx hk (fun b hb hn hg => hb.elim (fun h => by have := Hxl.out b h; omega) (fun h => h.2 hg)) (fun hy => hy.elim (fun h => hcx _ HC.q h) (fun h => by have := hv.ql; omega))⟩)
    I0
    (fun pre x G a' W1 => ∃ xb, VwAll W.heap.size qb l J sq R w4.heap.size pre x G xb W1 ∧ a' = { tmps := #[.func (.yield l) #[] #[], .pointer (some ⟨sx, 0, none⟩), .pointer (some ⟨fb, 0, none⟩), .pointer (some ⟨tb, 0, none⟩), .pointer (some ⟨qb, 0, none⟩),
        .pointer (some ⟨W.heap.size, 0, none⟩), .pointer (some ⟨W.heap.size + 1, 0, none⟩), .pointer (some ⟨W.heap.size + 1 + 1, 0, none⟩), .pointer (some ⟨xb, 0, none⟩), undef, undef,
        .iface 33 (.pointer (some ⟨X.ib, 0, none⟩)), .slice Af nf cf, .slice At nt ct, .func (.func 43) #[] #[.pointer (some ⟨W.heap.size + 3, 0, none⟩), .pointer (some ⟨W.heap.size + 3 + 1, 0, none⟩), .pointer (some ⟨W.heap.size + 3 + 1 + 1, 0, none⟩)],
        .agg #[.slice x.m.A1 x.m.n1 x.m.c1, .slice x.m.A2 x.m.n2 x.m.c2], undef, undef, undef, undef, undef, undef, undef, undef, undef, undef, undef, undef, undef, undef, undef, undef, undef, undef, undef, undef, undef, undef, undef, undef, undef, undef, undef, undef, undef, undef, undef, undef, undef, undef, undef], defers := [] })
    (fun pre x Gi a' A Bw h hk => by
      obtain ⟨xb, ⟨outs, Go, told, K, A0, c0, hJo, hv, hgl, hA⟩, h2⟩ := h
      exact ⟨xb, ⟨outs, Go, told, K, A0, c0, HJ.out _ _ _ _ hJo (hk.more fun b hb => ⟨.inr ⟨by omega, fun hg => hb.2 (hv.go b hg)⟩, fun y hy hf => hb.2 ((hv.ol y hy).2 b hf)⟩), hv.kx hk (fun b hb _ hg => hb.2 hg) (fun hy => by have := hv.ql; omega), hgl, hA.kx hk (fun b hb => hb.2)⟩, h2⟩)
    ?assign ?body ?done ?stop
    (fun c s Gi A Bw h hk => by
      obtain ⟨h1, outs, Go, hJo, hg1, hg2⟩ := h
      exact ⟨h1, outs, Go, HJx.out _ _ _ _ hJo (hk.more fun b hb => ⟨⟨by omega, fun hg => hb.2 (hg1 b hg)⟩, fun y hy hf => hb.2 ((hg2 y hy).2 b hf)⟩), hg1, hg2⟩)
  case assign =>
    clear I0 hUw hCaps hseq
    rintro l' pre ⟨m, lo⟩ Gi W1 ⟨outs, Go, told, K, A0, c0, hJo, hv⟩ ⟨hy1, hy2, hy3, hy4, hy5⟩ hglt
    dsimp only [Ex.val]
    gi_wp2
    have hba := (Below.refl W1.heap.size W1).alloc (Nat.le_refl _) (.cells #[.slice m.A1 m.n1 m.c1, .slice m.A2 m.n2 m.c2] 56)
    have hN := Bk.new_ W1 56 #[.slice m.A1 m.n1 m.c1, .slice m.A2 m.n2 m.c2]
    have hzz : (W1.alloc (.cells #[.slice m.A1 m.n1 m.c1, .slice m.A2 m.n2 m.c2] 56)).heap.size = W1.heap.size + 1 := by simp
    have hmo := (hy2.below hba (Nat.le_refl _)).more hba.size
    try dsimp only at hy3 hy4 hy5 hglt
    refine ⟨Kx.new_ hba, fun b => Gi b ∨ (lo ≤ b ∧ b < W1.heap.size + 1), fun b hb => hb.imp id (fun h => h.1), ⟨outs, Go, told, K, A0, c0, HJ.out _ _ _ _ hJo (Kx.new_ hba), (hv.below hba).moreG (fun b hb => .inl hb) (fun b hb => ?_) (fun hg => hg.elim hv.gq (fun h => by have := hv.ql; omega)), fun b hb => hglt b (hv.go b hb), ⟨hN, .inr ⟨hy4, Nat.lt_succ_self _⟩, hmo, fun hn a e => ?_, fun hn a e => ?_, hy1, by rw [hzz]; exact Nat.le_succ_of_le hy4, ⟨hy3, by dsimp only; omega⟩, hy4⟩⟩⟩
    · rw [hzz]; exact hb.elim (fun h => Nat.lt_succ_of_lt (hv.gl b h)) (fun h => h.2)
    · have h1 := hy3.1 a e
      obtain ⟨b, o, e', hb, _⟩ := hy2.1.2 hn
      rw [e] at e'; cases e'
      exact .inr ⟨h1, Nat.lt_succ_of_lt hb⟩
    · have h1 := hy3.2 a e
      obtain ⟨b, o, e', hb, _⟩ := hy2.2.1.2 hn
      rw [e] at e'; cases e'
      exact .inr ⟨h1, Nat.lt_succ_of_lt hb⟩
  case done =>
    clear I0 hUw hCaps hseq
    rintro Dm xs Gi W1 hDm hnG hS ⟨outs, Go, told, K, A0, c0, hJo, hv⟩ hE1 hK
    have hfin : outs.map (fun y => y.F.pl) = viewP sq none R := by
      have hl := congrArg List.length hS
      rw [List.length_map] at hl
      have h1 := hv.law
      rw [hl, List.drop_length] at h1
      rw [h1]; simp [viewP]
    gi_wp2
    refine ⟨by simp, .inl ⟨_, _, rfl, run_takeDeferred hK, ?_⟩⟩
    have hkp := Kx.put (X := fun b => b = Dm) W1 Dm (.deferred none) rfl
    exact ⟨_, results_none rfl _ _ _, ⟨_, rfl⟩, .inl ⟨outs, Go, hfin, HJ.out _ _ _ _ hJo (hkp.more fun b hb => ⟨.inr ⟨by omega, fun hg => hnG (hb ▸ hv.go b hg)⟩, fun y hy hf => hnG (hb ▸ (hv.ol y hy).2 b hf)⟩), hE1.keep (hkp.more fun b hb => .inr hb) (fun b hb => .inl (.inl (hv.go b hb)))⟩⟩
  case stop =>
    clear I0 hUw hCaps hseq
    rintro Dm c pre Gi W1 hDm hnG _ ⟨rfl, outs, Go, hJo, hg1, hg2⟩ hE1 hK
    gi_wp2
    refine ⟨by simp, .inl ⟨_, _, rfl, run_takeDeferred hK, ?_⟩⟩
    have hkp := Kx.put (X := fun b => b = Dm) W1 Dm (.deferred none) rfl
    exact ⟨_, results_none rfl _ _ _, ⟨_, rfl⟩, .inr ⟨outs, Go, trivial, HJx.out _ _ _ _ hJo (hkp.more fun b hb => ⟨⟨by omega, fun hg => hnG (hb ▸ hg1 b hg)⟩, fun y hy hf => hnG (hb ▸ (hg2 y hy).2 b hf)⟩), hE1.keep (hkp.more fun b hb => .inr hb) (fun b hb => .inl (.inl (hg1 b hb)))⟩⟩
  case body =>
    clear I0 hUw hCaps hseq
    rintro l' pre ⟨m, lo⟩ Gi a' W1 ⟨xb, ⟨outs, Go, told, K0, A0, c0, hJo, hv, hgl, hA⟩, rfl⟩ hlen
    have hkl : m.key.length ≤ 1099511627 := Hkey.out m.pl (List.mem_of_getElem? hA.at_)
    have hk1 : m.key.length = m.n1 := by have := hA.ok.1.1; rwa [bcs_length] at this
    have hn1 : m.n1 ≤ 1099511627 := by omega
    have hdr : R.drop pre.length = m.pl :: R.drop (pre.length + 1) := by
      obtain ⟨h1, h2⟩ := List.getElem?_eq_some_iff.1 hA.at_
      rw [← h2]; exact List.drop_eq_getElem_cons h1
    have hlaw := hv.law
    rw [hdr] at hlaw
    have hpl : (pre ++ [(⟨m, lo⟩ : Ex)]).length = pre.length + 1 := by simp
    have q1 := hA.bx.cell 0
    have HDec := Lib.hid (c_Decode W1 hA.ok.1 (Nat.le_refl _) hA.ok.2.2.1 (Nat.le_trans hn1 (by decide)))
    have hxl2 := hA.xl
    have hlo2 := hA.lo
    have hlz := hA.hi.2
    have hql := hv.ql
    dsimp only at hxl2 hlo2 hlz q1
    have HA := Lib.hid hA
    have HV := Lib.hid hv
    have HJo := Lib.hid hJo
    have Hgl := Lib.hid hgl
    clear hdr hkl hk1 hA hv hJo hgl
    cases hdc : dec m.key with
    | error err =>
      have hdl : dec m.pl.1 = .error err := hdc
      have hne : (err == 0) = false := by rcases dec_err hdc with rfl | rfl <;> rfl
      have hne2 : (err != 0) = true := by rcases dec_err hdc with rfl | rfl <;> rfl
      have HDc : Calls Try.prog 23 #[.slice m.A1 m.n1 m.c1] W1 fun e w' => e = .returned (.tuple #[.agg #[.int .i64 0, .slice none 0 0, .int .i64 0, .int .i64 0, .string ⟨#[]⟩], .int .i64 err]) ∧ Below W1.heap.size W1 w' := HDec.out.mono (by
        rintro e w' (⟨K', v, h, _⟩ | ⟨err', h, rfl, hb⟩)
        · rw [hdc] at h; cases h
        · rw [hdc] at h; cases h; exact ⟨rfl, hb⟩)
      have HDc := Lib.hid HDc
      have Hlaw := Lib.hid hlaw
      have Hdl := Lib.hid hdl
      clear hlaw HDec hdl hdc
      gi_wp2_with fail
      refine ⟨trivial, fun _ => by omega, ?_⟩
      gi_at_call 23
      refine (CallsIn.inRound l' (callsIn_wide.2 HDc.out)).mono ?_
      rintro e W2 ⟨rfl, hb2⟩
      have hb3 := hb2.alloc hb2.size (.cells #[.int .i64 0, .slice none 0 0, .int .i64 0, .int .i64 0, .string ⟨#[]⟩] 38)
      gi_wp2_with fail
      all_goals first | (rename_i hx _; exact absurd hx (by unfold undef; simp)) | skip
      refine ⟨trivial, ?_⟩
      gi_wp2_with fail
      exact ⟨Gi, Kx.new_ hb3, fun b hb => ⟨Nat.lt_of_lt_of_le (HV.out.gl b hb) (hb3).size, .inl hb⟩, outs, Go, told, K0, A0, c0, HJ.out _ _ _ _ HJo.out (Kx.new_ hb3), { HV.out.below hb3 with law := by rw [hpl, Hlaw.out, viewP_err Hdl.out] }⟩
    | ok K =>
      have hdl : dec m.pl.1 = .ok K := hdc
      have HDc : Calls Try.prog 23 #[.slice m.A1 m.n1 m.c1] W1 fun e w' => ∃ v, e = .returned (.tuple #[.agg #[.int .i64 K.ep, v, .int .i64 K.sq, .int .i64 K.kd, .string ⟨K.txt.toArray⟩], .int .i64 0]) ∧ Lec.Own w' W1.heap.size 5 v (bcs K.srt) ∧ Below W1.heap.size W1 w' := HDec.out.mono (by
        rintro e w' (⟨K', v, h, rfl, h2, h3⟩ | ⟨err', h, _⟩)
        · rw [hdc] at h; cases h; exact ⟨v, rfl, h2, h3⟩
        · rw [hdc] at h; cases h)
      have HDc := Lib.hid HDc
      have Hlaw := Lib.hid hlaw
      have Hdl := Lib.hid hdl
      clear hlaw HDec hdl hdc
      gi_wp2_with fail
      refine ⟨trivial, fun _ => by omega, ?_⟩
      gi_at_call 23
      refine (CallsIn.inRound l' (callsIn_wide.2 HDc.out)).mono ?_
      rintro e W2 ⟨v, rfl, ho, hb2⟩
      obtain ⟨Av, cv, rfl, hcv⟩ := ho.shape
      have hz2 := hb2.size
      have hb3 := hb2.alloc hb2.size (.cells #[.int .i64 K.ep, .slice Av (bcs K.srt).length cv, .int .i64 K.sq, .int .i64 K.kd, .string ⟨K.txt.toArray⟩] 38)
      have hz3' : (W2.alloc (.cells #[.int .i64 K.ep, .slice Av (bcs K.srt).length cv, .int .i64 K.sq, .int .i64 K.kd, .string ⟨K.txt.toArray⟩] 38)).heap.size = W2.heap.size + 1 := by simp
      have hv3 := HV.out.below hb3
      have bn := Bk.new_ W2 38 #[.int .i64 K.ep, .slice Av (bcs K.srt).length cv, .int .i64 K.sq, .int .i64 K.kd, .string ⟨K.txt.toArray⟩]
      have nc := bn.cell
      have qc := hv3.bq.cell 0
      have tc := hv3.bt.cell 0
      have lc := hv3.bl.cell
      have bx := HA.out.bx.below hb3 HA.out.bx.lt
      have ho3 := ho.alloc (.cells #[.int .i64 K.ep, .slice Av (bcs K.srt).length cv, .int .i64 K.sq, .int .i64 K.kd, .string ⟨K.txt.toArray⟩] 38)
      have hov : 0 < (bcs K.srt).length → ∀ a, Av = some a → W1.heap.size ≤ a.block ∧ a.block < W2.heap.size := fun _ a e => ho.lt a.block (by rw [e]; rfl)
      have Hov := Lib.hid hov
      have hmo := (HA.out.ok.below hb3 (Nat.le_refl _)).more hb3.size
      have Hmo := Lib.hid hmo
      have Ho3 := Lib.hid ho3
      have Hv3 := Lib.hid hv3
      have Hbn := Lib.hid bn
      have Hbx := Lib.hid bx
      have Hb3 := Lib.hid hb3
      clear hov hmo ho3 ho hv3 bn bx hb2
      gi_upto_region 6 with fail
      gi_cut [37] from 22 (fun v wc => v = .bool (decide (sq < K.sq ∨ (told = true ∧ (K.ep, K.srt) = (K0.ep, K0.srt)))) ∧ Below (W2.alloc (.cells #[.int .i64 K.ep, .slice Av (bcs K.srt).length cv, .int .i64 K.sq, .int .i64 K.kd, .string ⟨K.txt.toArray⟩] 38)).heap.size (W2.alloc (.cells #[.int .i64 K.ep, .slice Av (bcs K.srt).length cv, .int .i64 K.sq, .int .i64 K.kd, .string ⟨K.txt.toArray⟩] 38)) wc)
      case first =>
        by_cases hs : sq < K.sq
        · have hs1 : decide (sq < K.sq) = true := decide_eq_true hs
          have hS : decide (sq < K.sq ∨ (told = true ∧ (K.ep, K.srt) = (K0.ep, K0.srt))) = true := decide_eq_true (.inl hs)
          have HS := Lib.hid hS
          clear hS
          gi_wp2_with fail
          all_goals first | (rename_i hx _; exact absurd hx (by unfold undef; simp)) | skip
          refine ⟨trivial, ?_⟩
          gi_wp2_with fail
          gi_meet
          case rel => exact ⟨by rw [HS.out], Below.refl _ _⟩
        · have hs1 : decide (sq < K.sq) = false := decide_eq_false hs
          cases told with
          | false =>
            have hS : decide (sq < K.sq ∨ (false = true ∧ (K.ep, K.srt) = (K0.ep, K0.srt))) = false := decide_eq_false (fun h => h.elim hs (fun h => by cases h.1))
            have HS := Lib.hid hS
            clear hS
            gi_wp2_with fail
            refine ⟨trivial, ?_⟩
            gi_wp2_with fail
            gi_meet
            case rel => exact ⟨by rw [HS.out], Below.refl _ _⟩
          | true =>
            have hS : decide (sq < K.sq ∨ (true = true ∧ (K.ep, K.srt) = (K0.ep, K0.srt))) = decide ((K.ep, K.srt) = (K0.ep, K0.srt)) := by
              rw [decide_eq_decide]; exact ⟨fun h => h.elim (fun h => absurd h hs) (fun h => h.2), fun h => .inr ⟨rfl, h⟩⟩
            have HS := Lib.hid hS
            clear hS
            have HSm := Lib.hid (c_ikSame (W2.alloc (.cells #[.int .i64 K.ep, .slice Av (bcs K.srt).length cv, .int .i64 K.sq, .int .i64 K.kd, .string ⟨K.txt.toArray⟩] 38)) (K := K) (M := K0) (c1 := cv) (c2 := c0) Ho3.out.rd Hv3.out.rl (Nat.le_refl _) (Nat.le_refl _))
            gi_wp2_with fail
            refine ⟨trivial, fun _ => by omega, ?_⟩
            gi_at_call 24
            refine (CallsIn.inRound l' (callsIn_wide.2 HSm.out)).mono ?_
            rintro e w5 ⟨rfl, hb5⟩
            gi_wp2_with fail
            gi_meet
            case rel => exact ⟨by rw [HS.out]; simp, hb5⟩
      case rest =>
        obtain ⟨rfl, hb5⟩ := hcut
        have hbw := Hb3.out.trans (hb5.mono Hb3.out.size)
        have hwz := hbw.size
        have hvw := Hv3.out.below hb5
        have hW2 : W2.heap.size < wc.heap.size := by have := hb5.size; omega
        by_cases hS : sq < K.sq ∨ (told = true ∧ (K.ep, K.srt) = (K0.ep, K0.srt))
        · have hS1 : decide (sq < K.sq ∨ (told = true ∧ (K.ep, K.srt) = (K0.ep, K0.srt))) = true := decide_eq_true hS
          rw [hS1]
          have hnx : viewP sq (lastO told K0) (m.pl :: R.drop (pre.length + 1)) = viewP sq (lastO told K0) (R.drop (pre.length + 1)) := by
            by_cases hs : sq < K.sq
            · exact viewP_high Hdl.out hs
            · obtain ⟨h1, h2⟩ := hS.resolve_left hs
              subst h1
              exact viewP_same Hdl.out hs (by rw [lastO, if_pos rfl, h2])
          clear hS1 hS qc tc lc nc hvw
          have HbW := Lib.hid hbw
          clear hbw
          gi_wp2_with fail
          exact ⟨Gi, Kx.new_ HbW.out, fun b hb => ⟨Nat.lt_of_lt_of_le (HV.out.gl b hb) (HbW.out).size, .inl hb⟩, outs, Go, told, K0, A0, c0, HJ.out _ _ _ _ HJo.out (Kx.new_ HbW.out), { HV.out.below HbW.out with law := by rw [hpl, Hlaw.out, hnx] }⟩
        · have hS1 : decide (sq < K.sq ∨ (told = true ∧ (K.ep, K.srt) = (K0.ep, K0.srt))) = false := decide_eq_false hS
          rw [hS1]
          have hnx := viewP_new (s := sq) (last := lastO told K0) (p := m.pl) (ps := R.drop (pre.length + 1)) Hdl.out (fun h => hS (.inl h)) (fun h => by
            cases told with
            | false => simp [lastO] at h
            | true => rw [lastO, if_pos rfl] at h; exact hS (.inr ⟨rfl, (Option.some.inj h).symm⟩))
          have Hnx := Lib.hid hnx
          have Hlaw2 := Lib.hid (Hlaw.out.trans (congrArg _ hnx))
          clear hS1 hS qc tc lc nc hnx
          have hbn := Hbn.out.below hb5 (by simp)
          have hbx := Hbx.out.below hb5 Hbx.out.lt
          have hrA := (Ho3.out.below hb5 (Nat.le_refl _)).rd
          have hmw := (Hmo.out.below hb5 (Nat.le_refl _)).more hb5.size
          have b0 := hvw.by_
          have bl := hvw.bl
          have bt := hvw.bt
          have EY := ((((((b0.far (p := ⟨W.heap.size + 1, 0, none⟩) (by dsimp only; omega) (.int .i64 K.ep)).far (p := ⟨W.heap.size + 1, 1, none⟩) (by dsimp only; omega) (.slice Av (bcs K.srt).length cv)).far (p := ⟨W.heap.size + 1, 2, none⟩) (by dsimp only; omega) (.int .i64 K.sq)).far (p := ⟨W.heap.size + 1, 3, none⟩) (by dsimp only; omega) (.int .i64 K.kd)).far (p := ⟨W.heap.size + 1, 4, none⟩) (by dsimp only; omega) (.string ⟨K.txt.toArray⟩)).far (p := ⟨W.heap.size + 1 + 1, 0, none⟩) (by dsimp only; omega) (.bool true))
          have EN := ((((((hbn.far (p := ⟨W.heap.size + 1, 0, none⟩) (by dsimp only; omega) (.int .i64 K.ep)).far (p := ⟨W.heap.size + 1, 1, none⟩) (by dsimp only; omega) (.slice Av (bcs K.srt).length cv)).far (p := ⟨W.heap.size + 1, 2, none⟩) (by dsimp only; omega) (.int .i64 K.sq)).far (p := ⟨W.heap.size + 1, 3, none⟩) (by dsimp only; omega) (.int .i64 K.kd)).far (p := ⟨W.heap.size + 1, 4, none⟩) (by dsimp only; omega) (.string ⟨K.txt.toArray⟩)).far (p := ⟨W.heap.size + 1 + 1, 0, none⟩) (by dsimp only; omega) (.bool true))
          have EX := ((((((hbx.far (p := ⟨W.heap.size + 1, 0, none⟩) (by dsimp only; omega) (.int .i64 K.ep)).far (p := ⟨W.heap.size + 1, 1, none⟩) (by dsimp only; omega) (.slice Av (bcs K.srt).length cv)).far (p := ⟨W.heap.size + 1, 2, none⟩) (by dsimp only; omega) (.int .i64 K.sq)).far (p := ⟨W.heap.size + 1, 3, none⟩) (by dsimp only; omega) (.int .i64 K.kd)).far (p := ⟨W.heap.size + 1, 4, none⟩) (by dsimp only; omega) (.string ⟨K.txt.toArray⟩)).far (p := ⟨W.heap.size + 1 + 1, 0, none⟩) (by dsimp only; omega) (.bool true))
          have EQ := ((((((hvw.bq.far (p := ⟨W.heap.size + 1, 0, none⟩) (by dsimp only; omega) (.int .i64 K.ep)).far (p := ⟨W.heap.size + 1, 1, none⟩) (by dsimp only; omega) (.slice Av (bcs K.srt).length cv)).far (p := ⟨W.heap.size + 1, 2, none⟩) (by dsimp only; omega) (.int .i64 K.sq)).far (p := ⟨W.heap.size + 1, 3, none⟩) (by dsimp only; omega) (.int .i64 K.kd)).far (p := ⟨W.heap.size + 1, 4, none⟩) (by dsimp only; omega) (.string ⟨K.txt.toArray⟩)).far (p := ⟨W.heap.size + 1 + 1, 0, none⟩) (by dsimp only; omega) (.bool true))
          have EL := ((((((bl.set_ 0 (.int .i64 K.ep)).set_ 1 (.slice Av (bcs K.srt).length cv)).set_ 2 (.int .i64 K.sq)).set_ 3 (.int .i64 K.kd)).set_ 4 (.string ⟨K.txt.toArray⟩)).far (p := ⟨W.heap.size + 1 + 1, 0, none⟩) (by dsimp only; omega) (.bool true))
          have ET := ((((((bt.far (p := ⟨W.heap.size + 1, 0, none⟩) (by dsimp only; omega) (.int .i64 K.ep)).far (p := ⟨W.heap.size + 1, 1, none⟩) (by dsimp only; omega) (.slice Av (bcs K.srt).length cv)).far (p := ⟨W.heap.size + 1, 2, none⟩) (by dsimp only; omega) (.int .i64 K.sq)).far (p := ⟨W.heap.size + 1, 3, none⟩) (by dsimp only; omega) (.int .i64 K.kd)).far (p := ⟨W.heap.size + 1, 4, none⟩) (by dsimp only; omega) (.string ⟨K.txt.toArray⟩)).set_ 0 (.bool true))
          have hkx := (((((((Kx.refl (fun b => b = W.heap.size + 1 ∨ b = W.heap.size + 1 + 1) wc).setCell (p := ⟨W.heap.size + 1, 0, none⟩) (.inl (.inl rfl)) (.int .i64 K.ep)).setCell (p := ⟨W.heap.size + 1, 1, none⟩) (.inl (.inl rfl)) (.slice Av (bcs K.srt).length cv)).setCell (p := ⟨W.heap.size + 1, 2, none⟩) (.inl (.inl rfl)) (.int .i64 K.sq)).setCell (p := ⟨W.heap.size + 1, 3, none⟩) (.inl (.inl rfl)) (.int .i64 K.kd)).setCell (p := ⟨W.heap.size + 1, 4, none⟩) (.inl (.inl rfl)) (.string ⟨K.txt.toArray⟩)).setCell (p := ⟨W.heap.size + 1 + 1, 0, none⟩) (.inl (.inr rfl)) (.bool true))
          have nc := hbn.cell
          have lc := bl.cell
          have lf := bl.frz
          have tc := bt.cell 0
          have tf := bt.frz 0
          have lz := bl.lt
          have tz := bt.lt
          have HEL := Lib.hid EL
          have HET := Lib.hid ET
          have HEY := Lib.hid EY
          have HEQ := Lib.hid EQ
          have HEN := Lib.hid EN
          have HEX := Lib.hid EX
          have Hkx := Lib.hid hkx
          have HbW := Lib.hid hbw
          have HrA := Lib.hid hrA
          have Hmw := Lib.hid hmw
          clear EL ET EY EN EX EQ hkx b0 bl bt hvw hbn hbx hbw hrA hmw hb5
          gi_upto_region 8 with fail
          clear nc lc lf tc tf lz tz
          obtain ⟨w9, hw9⟩ : ∃ x, x = ((((((wc.setCell ⟨W.heap.size + 1, 0, none⟩ (.int .i64 K.ep)).setCell ⟨W.heap.size + 1, 1, none⟩ (.slice Av (bcs K.srt).length cv)).setCell ⟨W.heap.size + 1, 2, none⟩ (.int .i64 K.sq)).setCell ⟨W.heap.size + 1, 3, none⟩ (.int .i64 K.kd)).setCell ⟨W.heap.size + 1, 4, none⟩ (.string ⟨K.txt.toArray⟩)).setCell ⟨W.heap.size + 1 + 1, 0, none⟩ (.bool true)) := ⟨_, rfl⟩
          rw [← hw9] at HEL HET HEY HEQ HEN HEX Hkx ⊢
          clear hw9
          have hkx := Hkx.out
          have hzz := hkx.size
          have hwo := Hbn.out.lt
          have hkt := (Kx.new_ HbW.out : Kx (fun b => b = W.heap.size + 1 ∨ b = W.heap.size + 1 + 1) W1 wc).trans hkx (fun b hb => .inl hb)
          have hJz := HJ.out _ _ _ _ HJo.out (hkt.more fun b hb => ⟨.inr ⟨by omega, fun hg => by have := HV.out.gn b hg; omega⟩, fun y hy hf => by have h1 := (HV.out.ol y hy).1; have h2 := hf.1; omega⟩)
          have hrz := HrA.out.kx hkx (fun hn a e hy => by have := Hov.out hn a e; omega)
          have hvz := Hmw.out.2.1.kx hkx (fun hn a e hy => by have := HA.out.hi.1.2 a e; dsimp only at this; omega)
          have hkf : Kx (fun b => Gi b ∨ lo ≤ b) W1 w9 := hkt.more (fun b hb => hb.elim (fun h => .inl (h ▸ HV.out.g1)) (fun h => .inl (h ▸ HV.out.g2)))
          have en := HEN.out.cell
          have ey := HEY.out.cell 0
          have ex := HEX.out.cell 1
          have HJz := Lib.hid hJz
          have Hrz := Lib.hid hrz
          have Hvz := Lib.hid hvz
          have Hkf := Lib.hid hkf
          have hmk : ∀ (outs' : List Vx) (G2 Y : Nat → Prop) (w6 : World), Kx Y w9 w6 → (∀ b, Y b → (Go b ∨ lo ≤ b) ∧ (0 < (bcs K.srt).length → ∀ a, Av = some a → a.block ≠ b)) → (∀ b, G2 b → b < w6.heap.size ∧ (Go b ∨ lo ≤ b)) → (∀ y ∈ outs', W.heap.size + 3 ≤ y.lo ∧ ∀ b, y.fz b → Gi b ∨ (lo ≤ b ∧ b < w6.heap.size)) →
              viewP sq none R = outs'.map (fun y => y.F.pl) ++ viewP sq (lastO true K) (R.drop (pre.length + 1)) → VwO W.heap.size qb l sq R outs' G2 true K Av cv (pre ++ [(⟨m, lo⟩ : Ex)]) (fun b => Gi b ∨ (lo ≤ b ∧ b < w6.heap.size)) w6 := by
            intro outs' G2 Y w6 hk6 hY hG2 hol hlw
            have h6 := hk6.size
            have hno : ∀ b, W.heap.size ≤ b → b < W.heap.size + 3 → ¬ Y b := fun b h1 h2 hy => (hY b hy).1.elim (fun h => by have := HV.out.gn b h; omega) (fun h => by omega)
            have hgo : ∀ b, G2 b → Gi b ∨ (lo ≤ b ∧ b < w6.heap.size) := fun b hb => by
              have h := hG2 b hb
              exact h.2.imp (HV.out.go b) (fun h' => ⟨h', h.1⟩)
            refine ⟨hgo, fun b hb => (hG2 b hb).2.elim (HV.out.gn b) (fun h => .inr (by omega)), hol, HEY.out.kx hk6 (hno _ (by omega) (by omega)), HEL.out.kx hk6 (hno _ (by omega) (by omega)), HET.out.kx hk6 (hno _ (by omega) (by omega)), hrz.kx hk6 (fun hn a e hy => (hY _ hy).2 hn a e rfl), fun hn a e => ?_, by rw [hpl]; exact hlw, .inl HV.out.g0, .inl HV.out.g1, .inl HV.out.g2, fun b hb => hb.elim (fun h => by have := HV.out.gl b h; omega) (fun h => h.2), HEQ.out.kx hk6 (fun hy => (hY _ hy).1.elim (fun h => HV.out.gq (HV.out.go _ h)) (fun h => by omega)), fun hg => hg.elim HV.out.gq (fun h => by omega), hql⟩
            have := Hov.out hn a e
            exact ⟨by omega, .inr ⟨by omega, by omega⟩⟩
          have Hmk := Lib.hid hmk
          clear hkx hkt hJz hrz hvz hkf hmk
          by_cases hkd : K.kd = 1
          · have hkd1 : (K.kd == 1) = true := by rw [hkd]; rfl
            have Hkd := Lib.hid hkd
            have hV : viewP sq none R = outs.map (fun y => y.F.pl) ++ ([(K, m.vl)] ++ viewP sq (lastO true K) (R.drop (pre.length + 1))) := by
              rw [Hlaw2.out, if_pos hkd]; rfl
            have hlenV : outs.length < (viewP sq none R).length := by rw [hV]; simp
            have hfb : ∀ b, (⟨⟨K, Av, cv, m.A2, m.n2, m.c2, m.vl⟩, lo⟩ : Vx).fz b → lo ≤ b ∧ b < w9.heap.size := by
              rintro b ⟨h1, h2⟩
              refine ⟨h1, ?_⟩
              rcases h2 with ⟨hn, a, e, rfl⟩ | ⟨hn, a, e, rfl⟩
              · dsimp only at hn e; have := Hov.out hn a e; omega
              · dsimp only at hn e
                obtain ⟨b', o, e', hb, _⟩ := Hvz.out.2 hn
                rw [e] at e'; cases e'; exact hb
            have HYs := HYy.out outs ⟨⟨K, Av, cv, m.A2, m.n2, m.c2, m.vl⟩, lo⟩ Go w9 HJz.out ⟨by rw [hV, List.getElem?_append_right (by simp)]; simp [Fnd.pl], ⟨fun p hp => by
                simp only [encFd, List.mem_cons, List.not_mem_nil, or_false] at hp
                rcases hp with rfl | rfl
                · exact Hrz.out
                · exact Hvz.out, ⟨hcv, HA.out.ok.2.2.2.1⟩⟩, fun hn a e => by have := Hov.out hn a e; dsimp only; omega, fun hn a e => HA.out.hi.1.2 a e, by dsimp only; omega, by dsimp only; omega⟩ (by dsimp only; omega) Hgl.out hlenV
            have HYs := yieldAt_any (m := n - 1 - 1 - 1) HYs
            unfold Vx.val at HYs
            obtain ⟨fn, tmps, assign, body, hy, hRR⟩ := HYs
            have HRR := Lib.hid hRR
            have HV2 := Lib.hid hV
            have Hfb := Lib.hid hfb
            clear hRR hV hfb hkd hlenV
            dsimp only at hy
            gi_wp2_with fail
            refine ⟨fun _ => by omega, ?_⟩
            have hR2 : RoundIn (Fence.wide.inRound l') (n - 1 - 1 - 1) Try.prog l fn tmps assign body w9 _ := ⟨trivial, fun c cs _ => HRR.out.2 c cs (room_wide _)⟩
            refine hR2.mono ?_
            clear hR2 HRR
            rintro e w6 (⟨rfl, G2, hJ2, hk4, hg4⟩ | ⟨rfl, G2, hJ2, hk4, hg4⟩)
            · have HJ2 := Lib.hid hJ2
              have Hk4 := Lib.hid hk4
              have Hg4 := Lib.hid hg4
              clear hJ2 hk4 hg4
              gi_wp2_with fail
              have hk4 := Hk4.out
              have hg4 := Hg4.out
              have h6 := hk4.size
              exact ⟨fun b => Gi b ∨ (lo ≤ b ∧ b < w6.heap.size), Hkf.out.trans hk4 (fun b hb => .inl (hb.1.imp (HV.out.go b) id)), fun b hb => ⟨hb.elim (fun h => by have := HV.out.gl b h; omega) (fun h => h.2), hb.imp id (fun h => h.1)⟩, _, G2, true, K, Av, cv, HJ2.out, Hmk.out _ _ _ _ hk4 (fun b hb => ⟨hb.1, fun hn a e hab => hb.2 _ (List.mem_append.2 (.inr (List.mem_singleton.2 rfl))) ⟨by have := Hov.out hn a e; dsimp only; omega, .inl ⟨hn, a, e, hab⟩⟩⟩) hg4 (fun y hy => by
                rcases List.mem_append.1 hy with hy | hy
                · exact ⟨(HV.out.ol y hy).1, fun b hb => .inl ((HV.out.ol y hy).2 b hb)⟩
                · rw [List.mem_singleton] at hy
                  subst hy
                  exact ⟨by dsimp only; omega, fun b hb => .inr ⟨(Hfb.out b hb).1, by have := (Hfb.out b hb).2; omega⟩⟩) (by rw [HV2.out]; simp [Fnd.pl])⟩
            · have HJ2 := Lib.hid hJ2
              have Hk4 := Lib.hid hk4
              have Hg4 := Lib.hid hg4
              clear hJ2 hk4 hg4
              gi_wp2_with fail
              have hk4 := Hk4.out
              have hg4 := Hg4.out
              have h6 := hk4.size
              exact ⟨fun b => Gi b ∨ (lo ≤ b ∧ b < w6.heap.size), Hkf.out.trans hk4 (fun b hb => .inl (hb.1.imp (HV.out.go b) id)), fun b hb => ⟨hb.elim (fun h => by have := HV.out.gl b h; omega) (fun h => h.2), hb.imp id (fun h => h.1)⟩, rfl, _, G2, HJ2.out, fun b hb => by
                  have h := hg4 b hb
                  exact h.2.imp (HV.out.go b) (fun h' => ⟨h', h.1⟩), fun y hy => by
                rcases List.mem_append.1 hy with hy | hy
                · exact ⟨(HV.out.ol y hy).1, fun b hb => .inl ((HV.out.ol y hy).2 b hb)⟩
                · rw [List.mem_singleton] at hy
                  subst hy
                  exact ⟨by dsimp only; omega, fun b hb => .inr ⟨(Hfb.out b hb).1, by have := (Hfb.out b hb).2; omega⟩⟩⟩
          · have hkd1 : (K.kd == 1) = false := by rw [beq_eq_false_iff_ne]; exact hkd
            have Hkd := Lib.hid hkd
            clear hkd
            gi_wp2_with fail
            refine ⟨fun _ h => (by cases h), ?_⟩
            gi_wp2_with fail
            exact ⟨fun b => Gi b ∨ (lo ≤ b ∧ b < w9.heap.size), Hkf.out, fun b hb => ⟨hb.elim (fun h => by have := HV.out.gl b h; omega) (fun h => h.2), hb.imp id (fun h => h.1)⟩, outs, Go, true, K, Av, cv, HJz.out, Hmk.out outs Go (fun _ => False) w9 (Kx.refl _ _) (fun _ h => h.elim) (fun b hb => ⟨by have := HV.out.gl b (HV.out.go b hb); omega, .inl hb⟩) (fun y hy => ⟨(HV.out.ol y hy).1, fun b hb => .inl ((HV.out.ol y hy).2 b hb)⟩) (by rw [Hlaw2.out, if_neg Hkd.out]; rfl)⟩
end Go.Proofs.Ytedelkifadonjaa
/- Layer 23: what the laws on View gather: the iterator that was made, its view, and the list that grows. -/
namespace Go.Lec
open Go.RowKit
theorem OwnK.kx {W W' : World} {B k n : Nat} {e : TypeId} {v : Value} {xs : List Value} {Y : Nat → Prop} (h : OwnK W B e k v n xs) (hk : Kx Y W W') (hS : ∀ g, v.ownBlock = some g → ¬ Y g) : OwnK W' B e k v n xs := by
  obtain ⟨S, hS1, hS2⟩ := kb_of_kx hk
  exact h.kb hS1 (fun g hg hm => hS g hg (hS2 g hm))
/-- The way on, and nothing else. -/
def onlyM (K : Act → World → Prop) : Exit → Act → World → Prop
  | .normal, a, w => K a w
  | _, _, _ => False
theorem onlyM_lets (K : Act → World → Prop) : ¬ LetsOut (onlyM K) := fun ⟨_, _, h⟩ => h
/-- An operation within a round, walked as one outside. -/
theorem listIn_step1 {P : Program} {ops : Array Oper} {Q : Exit → Act → World → Prop} {l n : Nat} {o : Oper} {rest : List Oper} {a : Act} {w : World} (hg : o.guard = none) (hd : ∀ c, o.op ≠ .defer c)
    (h : ∀ K : Act → World → Prop, (∀ a w, wpListIn (Fence.wide.inRound l) n P ops Q rest a w → K a w) → wpList P ops (onlyM K) [o] a w) : wpListIn (Fence.wide.inRound l) n P ops Q (o :: rest) a w := by
  refine wpListIn_plain hg fun K hK => ?_
  have h1 := h K hK
  unfold wpList at h1
  rw [if_pos (by simp [Region.wanted, hg])] at h1
  rcases h1 with h1 | ⟨_, h1⟩
  · refine wpIn_of_op hd ?_
    unfold Oper.wp at *
    generalize (execOp a.eval o).run P w = r at *
    cases r with
    | ok x w' =>
      cases x with
      | value v => exact h1
      | skip => exact h1
      | defer d => exact h1
      | enter f args =>
        refine Calls.mono h1 ?_
        intro e w'' he
        cases e with
        | returned v => exact he
        | panicked c => exact he.elim
        | outgrown => exact (onlyM_lets K he).elim
      | row row args => exact h1
      | _ => exact h1.elim
    | halt x w' => cases x <;> first | exact h1.elim | exact h1
  · exact (onlyM_lets K h1).elim
/-- The way out of a loop over a function and the way past its end meet. -/
theorem wp_meetD {P : Program} {s : Code} {K : Act → World → Prop} {Q' : Exit → Act → World → Prop} {a : Act} {w : World} {id : Nat} (R : Nat → World → Prop)
    (first : s.wp P (fun e a' w' => (e = .normal ∨ e = .exit id) ∧ ∃ D, a' = { a with defers := { target := .collected D, args := #[] } :: a.defers } ∧ R D w') a w)
    (rest : ∀ D w', R D w' → K { a with defers := { target := .collected D, args := #[] } :: a.defers } w') : s.wp P (Exit.inBlock id (Exit.then K Q')) a w := by
  refine wp_mono first ?_
  rintro e a' w' ⟨rfl | rfl, D, rfl, h⟩
  · exact rest _ _ h
  · simp only [Exit.inBlock, Exit.then, if_true]
    exact rest _ _ h
theorem wp_named {P : Program} {s : Code} {Q : Exit → Act → World → Prop} {a : Act} {w : World} (h : ∀ a0, a0 = a → s.wp P Q a0 w) : s.wp P Q a w := h a rfl
end Go.Lec
namespace Go.Proofs.Ytedelkifadonjaa
open Go.RowKit Go.Lec Go.Op
theorem viewP_le (s : Int) : ∀ (l : List PairB) (last : Option (Nat × List UInt8)), (viewP s last l).length ≤ l.length
  | [], last => by simp [viewP]
  | p :: ps, last => by
    have ih := viewP_le s ps
    rw [viewP]
    split
    · exact Nat.le_succ_of_le (ih _)
    · split
      · exact Nat.le_succ_of_le (ih _)
      · split
        · exact Nat.le_succ_of_le (ih _)
        · split
          · exact Nat.succ_le_succ (ih _)
          · exact Nat.le_succ_of_le (ih _)
theorem Vx.lie {x : Vx} (h1 : 0 < (bcs x.F.K.srt).length → ∀ a, x.F.A1 = some a → x.lo ≤ a.block) (h2 : 0 < x.F.n2 → ∀ a, x.F.A2 = some a → x.lo ≤ a.block) : encFd.lie x.fz x.F := by
  intro p hp hn a ha
  simp only [encFd, List.mem_cons, List.not_mem_nil, or_false] at hp
  rcases hp with rfl | rfl
  · exact ⟨h1 hn a ha, .inl ⟨hn, a, ha, rfl⟩⟩
  · exact ⟨h2 hn a ha, .inr ⟨hn, a, ha, rfl⟩⟩
/-- An iterator over lists that has been made since w. -/
structure ItNew (w w5 : World) (all : List PairB) (X : It) : Prop where
  mks : Makes X all
  it : ∃ D, ItM D w5 X 0 0 ∧ ∀ b, D b → w.heap.size ≤ b ∧ b < w5.heap.size
  ctl : ∀ b ∈ X.ctl, w.heap.size ≤ b ∧ b < w5.heap.size
  n : X.Hs.length ≤ 5000
  below : Below w.heap.size w w5
theorem it_new {w w4 w5 : World} {Ls : List (Sl Pr)} {D D5 : Nat → Prop} {Ss : List (Option (Nat × Sl Pr))} {v : Value} {X : It} {n : Nat} (hS : Sr w Ls Ls.length D Ss v w4) (hI5 : ItM D5 w5 X 0 0) (hX5 : X.Hs.map Hd.src = Ss.filterMap id) (hb5 : Below w4.heap.size w4 w5) (hg5 : Grows D w4 D5 w5) (hib5 : w4.heap.size ≤ X.ib) (hhb5 : ∀ h ∈ X.Hs, w4.heap.size ≤ h.hb) (hn : Ls.length = n) (hn5 : n ≤ 5000) :
    ItNew w w5 (allL (Ls.map Sl.pls).flatten) X := by
  have hz := hS.below.size
  refine ⟨?_, ⟨D5, hI5, fun b hb => (hg5.new_ b hb).elim (fun h => ⟨(hS.dlt b h).1, Nat.lt_of_lt_of_le (hS.dlt b h).2 hg5.size⟩) (fun h => ⟨by omega, h.2⟩)⟩, fun b hb => ⟨?_, hI5.lt b hb⟩, ?_, hS.below.trans (hb5.mono hS.below.size)⟩
  · have h1 := new_makes hX5
    rw [hS.srcL_] at h1
    refine ⟨by rw [h1]; exact all_of_all _, fun l hl => ?_⟩
    rw [h1] at hl
    obtain ⟨x, _, rfl⟩ := List.mem_map.1 hl
    exact (allL_all x).srt
  · rcases ctl_mem.1 hb with rfl | ⟨h, hh, rfl | rfl⟩
    · omega
    · have := hhb5 h hh; omega
    · refine hS.sge h.src ?_
      have h1 : h.src ∈ Ss.filterMap id := by rw [← hX5]; exact List.mem_map.2 ⟨h, hh, rfl⟩
      obtain ⟨o, ho, he⟩ := List.mem_filterMap.1 h1
      have he : o = some h.src := he
      rw [← he]; exact ho
  · have h1 := congrArg List.length hX5
    rw [List.length_map] at h1
    have h2 := List.length_filterMap_le (id : Option (Nat × Sl Pr) → Option (Nat × Sl Pr)) Ss
    have h3 := hS.len
    omega
theorem ItNew.uit {w w5 : World} {all : List PairB} {X : It} (h : ItNew w w5 all X) : UIt X 0 (fun b => b < w.heap.size ∨ w5.heap.size ≤ b) w5 := by
  obtain ⟨D, hI, hD⟩ := h.it
  exact ⟨D, X, 0, 0, Same.refl X, hI, Nat.le_refl _, fun b hb => (hD b hb).2, fun b hb => ⟨fun hx => by have := h.ctl b hx; omega, fun hx => by have := hD b hx; omega⟩⟩
/-- What View has captured lies in these blocks. -/
def CbV (sx : Nat) (Af : Option Addr) (nf : Nat) (At : Option Addr) (nt : Nat) (b : Nat) : Prop := (0 < nf ∧ ∃ a, Af = some a ∧ a.block = b) ∨ (0 < nt ∧ ∃ a, At = some a ∧ a.block = b) ∨ (sx ≤ b ∧ b < sx + 4)
/-- View's boxes, as they have been laid. -/
theorem caps_new (w5 : World) {X : It} {B nf cf nt ct : Nat} {Af At : Option Addr} {frm upt : List UInt8} (sq : Int) (rf : Rd w5 B Af nf (bcs frm)) (rt : Rd w5 B At nt (bcs upt)) (hB : B ≤ w5.heap.size) {w6 : World}
    (h6 : w6 = (((w5.alloc (.cells #[.iface 33 (.pointer (some ⟨X.ib, 0, none⟩))] 59)).alloc (.cells #[.slice Af nf cf] 23)).alloc (.cells #[.slice At nt ct] 23)).alloc (.cells #[.int .i64 sq] 3)) :
    VCaps w5.heap.size (w5.heap.size + 1) (w5.heap.size + 1 + 1) (w5.heap.size + 1 + 1 + 1) X Af nf cf At nt ct sq frm upt (CbV w5.heap.size Af nf At nt) w6 ∧ Below w5.heap.size w5 w6 ∧ w6.heap.size = w5.heap.size + 4 := by
  have hb := ((((Below.refl w5.heap.size w5).alloc (Nat.le_refl _) (.cells #[.iface 33 (.pointer (some ⟨X.ib, 0, none⟩))] 59)).alloc (by simp) (.cells #[.slice Af nf cf] 23)).alloc (by simp; omega) (.cells #[.slice At nt ct] 23)).alloc (by simp; omega) (.cells #[.int .i64 sq] 3)
  have b1 := (((Bk.new_ w5 59 #[.iface 33 (.pointer (some ⟨X.ib, 0, none⟩))]).alloc (.cells #[.slice Af nf cf] 23)).alloc (.cells #[.slice At nt ct] 23)).alloc (.cells #[.int .i64 sq] 3)
  have b2 := ((Bk.new_ (w5.alloc (.cells #[.iface 33 (.pointer (some ⟨X.ib, 0, none⟩))] 59)) 23 #[.slice Af nf cf]).alloc (.cells #[.slice At nt ct] 23)).alloc (.cells #[.int .i64 sq] 3)
  have b3 := (Bk.new_ ((w5.alloc (.cells #[.iface 33 (.pointer (some ⟨X.ib, 0, none⟩))] 59)).alloc (.cells #[.slice Af nf cf] 23)) 23 #[.slice At nt ct]).alloc (.cells #[.int .i64 sq] 3)
  have b4 := Bk.new_ (((w5.alloc (.cells #[.iface 33 (.pointer (some ⟨X.ib, 0, none⟩))] 59)).alloc (.cells #[.slice Af nf cf] 23)).alloc (.cells #[.slice At nt ct] 23)) 3 #[.int .i64 sq]
  rw [World.size_alloc] at b2
  rw [World.size_alloc, World.size_alloc] at b3
  rw [World.size_alloc, World.size_alloc, World.size_alloc] at b4
  have hz : w6.heap.size = w5.heap.size + 4 := by rw [h6]; simp
  rw [← h6] at hb b1 b2 b3 b4
  exact ⟨⟨⟨b1, b2, b3, (rf.below hb hB).more (Nat.le_trans hB hb.size), (rt.below hb hB).more (Nat.le_trans hB hb.size), .inr (.inr ⟨by omega, by omega⟩), .inr (.inr ⟨by omega, by omega⟩), .inr (.inr ⟨by omega, by omega⟩), fun hn a e => .inl ⟨hn, a, e, rfl⟩, fun hn a e => .inr (.inl ⟨hn, a, e, rfl⟩)⟩, b4, .inr (.inr ⟨by omega, by omega⟩)⟩, hb, hz⟩
theorem VCaps.kx {sx fb tb qb : Nat} {X : It} {Af At : Option Addr} {nf cf nt ct : Nat} {sq : Int} {frm upt : List UInt8} {Cb Y : Nat → Prop} {W W' : World} (h : VCaps sx fb tb qb X Af nf cf At nt ct sq frm upt Cb W) (hk : Kx Y W W') (hY : ∀ b, Cb b → ¬ Y b) : VCaps sx fb tb qb X Af nf cf At nt ct sq frm upt Cb W' :=
  ⟨h.cp.kx hk hY, h.bq.kx hk (hY _ h.q), h.q⟩
/-- A block that one of an element's slices lies in. -/
def lieB (m : Fnd) (b : Nat) : Prop := ∃ p ∈ encFd.ps m, 0 < p.n ∧ ∃ a, p.A = some a ∧ a.block = b
theorem lie_B (m : Fnd) {X : Nat → Prop} (h : ∀ b, lieB m b → X b) : encFd.lie X m := fun p hp hn a e => h _ ⟨p, hp, hn, a, e, rfl⟩
theorem lieB_of {m : Fnd} {X : Nat → Prop} {b : Nat} (h : encFd.lie X m) (hb : lieB m b) : X b := by
  obtain ⟨p, hp, hn, a, e, rfl⟩ := hb
  exact h p hp hn a e
theorem lieB_dne {m : Fnd} {W : World} {B b D : Nat} {q : Option (List Deferred)} (h : encFd.ok W B m) (hb : lieB m b) (hD : W.heap[D]? = some (.deferred q)) : b ≠ D := by
  rintro rfl
  obtain ⟨p, hp, hn, a, e, rfl⟩ := hb
  obtain ⟨b', o, e', _, hc⟩ := (h.1 p hp).2 hn
  rw [e] at e'; cases e'
  have hl := (h.1 p hp).1
  obtain ⟨u, hu⟩ : ∃ u, p.xs[0]? = some u := ⟨p.xs[0]'(by omega), List.getElem?_eq_getElem (by omega)⟩
  have h1 := hc 0 u hu
  dsimp only at hD
  simp [World.cell?, hD] at h1
/-- A list that is gathered in box gb: F0 lay there ahead (Kf: elements that are kept, their slices in the blocks 'old'), then what was told. b0: the function's own blocks begin there; wz: what is told lies from there on. -/
structure GtI (b0 gb wz : Nat) (old C : Nat → Prop) (Kf F0 : List Fnd) (A : Option Addr) (c : Nat) (pre : List Vx) (G : Nat → Prop) (W : World) : Prop where
  bk : Bk W gb 26 #[.slice A (F0 ++ pre.map Vx.F).length c]
  own : OwnK W b0 40 6 (.slice A (F0 ++ pre.map Vx.F).length c) (F0 ++ pre.map Vx.F).length ((F0 ++ pre.map Vx.F).flatMap encFd.cs)
  og : ∀ a, A = some a → G a.block ∧ a.block ≠ gb ∧ ∀ y ∈ pre, ¬ y.fz a.block
  f0 : ∀ m ∈ Kf, encFd.ok W W.heap.size m ∧ encFd.lie old m
  sub : ∀ m ∈ F0, m ∈ Kf
  fp : ∀ y ∈ pre, encFd.ok W W.heap.size y.F ∧ encFd.lie y.fz y.F ∧ wz ≤ y.lo
  no : ∀ b, old b ∨ C b → ¬ G b
  gg : G gb
  gz : gb < wz
  gl : ∀ b, G b → b < W.heap.size
section
variable {b0 gb wz : Nat} {old C : Nat → Prop} {Kf F0 : List Fnd} {A : Option Addr} {c : Nat} {pre : List Vx} {G G' Y : Nat → Prop} {W W' : World}
theorem ok_kx {X : Nat → Prop} {m : Fnd} (h : encFd.ok W W.heap.size m) (hl : encFd.lie X m) (hk : Kx Y W W') (hX : ∀ b, X b → ¬ Y b) : encFd.ok W' W'.heap.size m :=
  ⟨fun p hp => (h.1 p hp).kx hk (fun hn a e => hX _ (hl p hp hn a e)), h.2⟩
theorem GtI.kx (h : GtI b0 gb wz old C Kf F0 A c pre G W) (hk : Kx Y W W') (hG : ∀ b, Y b → ¬ G b) (ho : ∀ b, Y b → ¬ old b) (hf : ∀ b, Y b → ∀ y ∈ pre, ¬ y.fz b) : GtI b0 gb wz old C Kf F0 A c pre G W' :=
  ⟨h.bk.kx hk (fun hy => hG _ hy h.gg), h.own.kx hk (fun g e hy => by
    obtain ⟨a, rfl, e2⟩ : ∃ a, A = some a ∧ a.block = g := by
      cases A with
      | none => cases e
      | some a => exact ⟨a, rfl, Option.some.inj e⟩
    exact hG _ hy (e2 ▸ (h.og a rfl).1)), h.og, fun m hm => ⟨ok_kx (h.f0 m hm).1 (h.f0 m hm).2 hk (fun b hb hy => ho b hy hb), (h.f0 m hm).2⟩, h.sub,
    fun y hy => ⟨ok_kx (h.fp y hy).1 (h.fp y hy).2.1 hk (fun b hb hy' => hf b hy' y hy hb), (h.fp y hy).2⟩, h.no, h.gg, h.gz, fun b hb => Nat.lt_of_lt_of_le (h.gl b hb) hk.size⟩
theorem GtI.below (h : GtI b0 gb wz old C Kf F0 A c pre G W) (hk : Below W.heap.size W W') : GtI b0 gb wz old C Kf F0 A c pre G W' :=
  h.kx (Y := fun _ => False) (Kx.new_ hk) (fun _ h => h.elim) (fun _ h => h.elim) (fun _ h => h.elim)
theorem GtI.moreG (h : GtI b0 gb wz old C Kf F0 A c pre G W) (hG : ∀ b, G b → G' b) (hl : ∀ b, G' b → b < W.heap.size) (hn : ∀ b, old b ∨ C b → ¬ G' b) : GtI b0 gb wz old C Kf F0 A c pre G' W :=
  ⟨h.bk, h.own, fun a e => ⟨hG _ (h.og a e).1, (h.og a e).2⟩, h.f0, h.sub, h.fp, hn, hG _ h.gg, h.gz, hl⟩
/-- What has been gathered, as a list. -/
theorem GtI.els (h : GtI b0 gb wz old C Kf F0 A c pre G W) : Els encFd W W.heap.size A (F0 ++ pre.map Vx.F).length (F0 ++ pre.map Vx.F) :=
  ⟨h.own.rd, rfl, fun m hm => by
    rcases List.mem_append.1 hm with hm | hm
    · exact (h.f0 m (h.sub m hm)).1
    · obtain ⟨y, hy, rfl⟩ := List.mem_map.1 hm
      exact (h.fp y hy).1⟩
theorem own_some {A : Option Addr} {n c g : Nat} (e : (Value.slice A n c).ownBlock = some g) : ∃ a, A = some a ∧ a.block = g := by
  cases A with
  | none => cases e
  | some a => exact ⟨a, rfl, Option.some.inj e⟩
theorem GtI.dne {D : Nat} {q : Option (List Deferred)} (h : GtI b0 gb wz old C Kf F0 A c pre G W) (hD : W.heap[D]? = some (.deferred q)) : D ≠ gb ∧ ∀ a, A = some a → a.block ≠ D := by
  refine ⟨fun e => ?_, fun a e e2 => ?_⟩
  · have h1 := h.bk
    unfold Bk at h1
    rw [← e, hD] at h1; cases h1
  · rcases h.own.2 with ⟨h2, _⟩ | ⟨g, cap, cur, h2, _, hh, _⟩
    · rw [Value.slice.injEq] at h2; rw [h2.1] at e; cases e
    · rw [Value.slice.injEq] at h2; rw [h2.1] at e; cases e
      dsimp only at e2
      rw [e2, hD] at hh; cases hh
end
/-- A round as it begins: the element, in its box. -/
structure GtA (wz : Nat) (V : List (Key × List UInt8)) (pre : List Vx) (x : Vx) (G : Nat → Prop) (xb : Nat) (W : World) : Prop where
  bx : Bk W xb 40 #[.int .i64 x.F.K.ep, .slice x.F.A1 (bcs x.F.K.srt).length x.F.c1, .int .i64 x.F.K.sq, .int .i64 x.F.K.kd, .string ⟨x.F.K.txt.toArray⟩, .slice x.F.A2 x.F.n2 x.F.c2]
  gx : G xb
  ok : encFd.ok W W.heap.size x.F
  lie : encFd.lie x.fz x.F
  at_ : V[pre.length]? = some x.F.pl
  lo : x.lo ≤ W.heap.size
  wz : wz ≤ x.lo
  nx : ¬ x.fz xb
theorem GtA.kx {wz : Nat} {V : List (Key × List UInt8)} {pre : List Vx} {x : Vx} {G Y : Nat → Prop} {xb : Nat} {W W' : World} (h : GtA wz V pre x G xb W) (hk : Kx Y W W') (hG : ∀ b, Y b → ¬ G b) (hf : ∀ b, Y b → ¬ x.fz b) : GtA wz V pre x G xb W' :=
  ⟨h.bx.kx hk (fun hy => hG _ hy h.gx), h.gx, ok_kx h.ok h.lie hk (fun b hb hy => hf b hy hb), h.lie, h.at_, Nat.le_trans h.lo hk.size, h.wz, h.nx⟩
theorem Vx.fz_lt {x : Vx} {W : World} {B b : Nat} (h : encFd.ok W B x.F) (hb : x.fz b) : b < B := by
  obtain ⟨_, ⟨hn, a, e, rfl⟩ | ⟨hn, a, e, rfl⟩⟩ := hb
  · exact h.lt _ List.mem_cons_self hn a e
  · exact h.lt _ (List.mem_cons_of_mem _ List.mem_cons_self) hn a e
/-- What is kept beside, block by block: the calls that wait for the function's end, other boxes and rows of its own. -/
def KpD (b0 gb wz : Nat) (wb : World) (Ds : List (Nat × Obj)) (A : Option Addr) (G : Nat → Prop) (W : World) : Prop := Below b0 wb W ∧ ∀ p ∈ Ds, G p.1 ∧ W.heap[p.1]? = some p.2 ∧ p.1 ≠ gb ∧ (∀ a, A = some a → a.block ≠ p.1) ∧ p.1 < wz
theorem KpD.kx {b0 gb wz : Nat} {wb : World} {Ds : List (Nat × Obj)} {A : Option Addr} {G G' Y : Nat → Prop} {W W' : World} (h : KpD b0 gb wz wb Ds A G W) (hk : Kx Y W W') (hY : ∀ b, Y b → b0 ≤ b) (hD : ∀ p ∈ Ds, ¬ Y p.1) (hG : ∀ b, G b → G' b) (hb : b0 ≤ wb.heap.size) : KpD b0 gb wz wb Ds A G' W' :=
  ⟨h.1.trans (hk.below hY (Nat.le_trans hb h.1.size)), fun p hp => ⟨hG _ (h.2 p hp).1, (hk.block p.1 (Array.getElem?_eq_some_iff.1 (h.2 p hp).2.1).1 (hD p hp)).trans (h.2 p hp).2.1, (h.2 p hp).2.2⟩⟩
/-- A round as it begins. -/
def GtAll (b0 gb : Nat) (old C : Nat → Prop) (Kf F0 : List Fnd) (wb : World) (Ds : List (Nat × Obj)) (wz : Nat) (V : List (Key × List UInt8)) (pre : List Vx) (x : Vx) (G : Nat → Prop) (xb : Nat) (W : World) : Prop :=
  ∃ A c, GtI b0 gb wz old C Kf F0 A c pre G W ∧ KpD b0 gb wz wb Ds A G W ∧ (∀ a, A = some a → a.block < x.lo) ∧ x.lo ≤ xb ∧ GtA wz V pre x G xb W
/-- Between the rounds. -/
def GtR (b0 gb wz : Nat) (old C : Nat → Prop) (Kf F0 : List Fnd) (wb : World) (Ds : List (Nat × Obj)) (pre : List Vx) (G : Nat → Prop) (W : World) : Prop :=
  ∃ A c, GtI b0 gb wz old C Kf F0 A c pre G W ∧ KpD b0 gb wz wb Ds A G W
section
variable {b0 gb wz : Nat} {old C : Nat → Prop} {Kf F0 : List Fnd} {wb : World} {Ds : List (Nat × Obj)} {V : List (Key × List UInt8)} {pre : List Vx} {x : Vx} {G Y : Nat → Prop} {xb : Nat} {W W' : World}
theorem GtR.kx (h : GtR b0 gb wz old C Kf F0 wb Ds pre G W) (hk : Kx Y W W') (hG : ∀ b, Y b → ¬ G b) (ho : ∀ b, Y b → ¬ old b) (hf : ∀ b, Y b → ∀ y ∈ pre, ¬ y.fz b) (hY : ∀ b, Y b → b0 ≤ b) (hb : b0 ≤ wb.heap.size) : GtR b0 gb wz old C Kf F0 wb Ds pre G W' := by
  obtain ⟨A, c, h1, h2⟩ := h
  exact ⟨A, c, h1.kx hk hG ho hf, h2.kx hk hY (fun p hp hy => hG _ hy (h2.2 p hp).1) (fun _ h => h) hb⟩
theorem GtAll.kx (h : GtAll b0 gb old C Kf F0 wb Ds wz V pre x G xb W) (hk : Kx Y W W') (hG : ∀ b, Y b → ¬ G b) (ho : ∀ b, Y b → ¬ old b) (hf : ∀ b, Y b → ∀ y ∈ pre ++ [x], ¬ y.fz b) (hY : ∀ b, Y b → b0 ≤ b) (hb : b0 ≤ wb.heap.size) : GtAll b0 gb old C Kf F0 wb Ds wz V pre x G xb W' := by
  obtain ⟨A, c, h1, h2, h3, h6, h7⟩ := h
  exact ⟨A, c, h1.kx hk hG ho (fun b hb y hy => hf b hb y (List.mem_append.2 (.inl hy))), h2.kx hk hY (fun p hp hy => hG _ hy (h2.2 p hp).1) (fun _ h => h) hb, h3, h6, h7.kx hk hG (fun b hb => hf b hb x (List.mem_append.2 (.inr (List.mem_singleton.2 rfl))))⟩
/-- What is told, laid in its box. -/
theorem GtR.assign {B : Nat} (h : GtR b0 gb wz old C Kf F0 wb Ds pre G W) (hy : VxY V B pre x W) (hgl : ∀ b, G b → b < x.lo) (ho : ∀ b, old b ∨ C b → b < wz) (hwz : wz ≤ x.lo) (hb0 : b0 ≤ wb.heap.size) :
    GtAll b0 gb old C Kf F0 wb Ds wz V pre x (fun b => G b ∨ (x.lo ≤ b ∧ b < W.heap.size + 1)) W.heap.size (W.alloc (.cells #[.int .i64 x.F.K.ep, .slice x.F.A1 (bcs x.F.K.srt).length x.F.c1, .int .i64 x.F.K.sq, .int .i64 x.F.K.kd, .string ⟨x.F.K.txt.toArray⟩, .slice x.F.A2 x.F.n2 x.F.c2] 40)) := by
  obtain ⟨A, c, h1, h2⟩ := h
  obtain ⟨y1, y2, y3, y4, y5, y6⟩ := hy
  have hba := (Below.refl W.heap.size W).alloc (Nat.le_refl _) (.cells #[.int .i64 x.F.K.ep, .slice x.F.A1 (bcs x.F.K.srt).length x.F.c1, .int .i64 x.F.K.sq, .int .i64 x.F.K.kd, .string ⟨x.F.K.txt.toArray⟩, .slice x.F.A2 x.F.n2 x.F.c2] 40)
  have hz : (W.alloc (.cells #[.int .i64 x.F.K.ep, .slice x.F.A1 (bcs x.F.K.srt).length x.F.c1, .int .i64 x.F.K.sq, .int .i64 x.F.K.kd, .string ⟨x.F.K.txt.toArray⟩, .slice x.F.A2 x.F.n2 x.F.c2] 40)).heap.size = W.heap.size + 1 := by simp
  exact ⟨A, c, (h1.below hba).moreG (fun b hb => .inl hb) (fun b hb => by rw [hz]; exact hb.elim (fun h => Nat.lt_succ_of_lt (h1.gl b h)) (fun h => h.2)) (fun b hb hg => hg.elim (h1.no b hb) (fun h => by have := ho b hb; omega)),
    h2.kx (Y := fun _ => False) (Kx.new_ hba) (fun _ h => h.elim) (fun _ _ h => h) (fun b hb => .inl hb) hb0, fun a e => hgl _ (h1.og a e).1, y5,
    Bk.new_ W _ _, .inr ⟨y5, Nat.lt_succ_self _⟩, (y2.below hba (Nat.le_refl _)).more hba.size, Vx.lie y3 y4, y1, by rw [hz]; exact Nat.le_succ_of_le y5, hwz, fun hf => by have := Vx.fz_lt y2 hf; omega⟩
/-- One more. -/
theorem GtI.snoc {A : Option Addr} {c q : Nat} (hq : q = (F0 ++ pre.map Vx.F).length) (h : GtI b0 gb wz old C Kf F0 A c pre G W) (hK : KpD b0 gb wz wb Ds A G W) (hbg : b0 ≤ gb) (hbw : b0 ≤ wb.heap.size) (hA : ∀ a, A = some a → a.block < x.lo) (hx : GtA wz V pre x G xb W) (ho : ∀ b, old b ∨ C b → b < wz) {v' : Value} {w' : World} (hw : OwnK w' b0 40 6 v' (q + 1) ((F0 ++ pre.map Vx.F).flatMap encFd.cs ++ x.F.cs))
    (hg : W.grownBy w' (Value.slice A q c).ownBlock) (hat : v'.ownBlock = (Value.slice A q c).ownBlock ∨ ∃ g, v'.ownBlock = some g ∧ W.heap.size ≤ g) :
    ∃ A' c', v' = .slice A' (q + 1) c' ∧ Bk w' gb 26 #[.slice A q c] ∧
      GtR b0 gb wz old C Kf F0 wb Ds (pre ++ [x]) (fun b => G b ∨ (x.lo ≤ b ∧ b < w'.heap.size)) (w'.setCell ⟨gb, 0, none⟩ (.slice A' (q + 1) c')) ∧ Kx (fun b => (G b ∨ x.lo ≤ b) ∧ ∀ y ∈ pre ++ [x], ¬ y.fz b) W (w'.setCell ⟨gb, 0, none⟩ (.slice A' (q + 1) c')) ∧ ∀ b, G b ∨ (x.lo ≤ b ∧ b < w'.heap.size) → b < (w'.setCell ⟨gb, 0, none⟩ (.slice A' (q + 1) c')).heap.size := by
  subst hq
  obtain ⟨A', c', rfl, _⟩ := hw.shape
  have hgx : gb < x.lo := Nat.lt_of_lt_of_le h.gz hx.wz
  have hlx : ∀ y ∈ pre ++ [x], wz ≤ y.lo ∧ encFd.ok W W.heap.size y.F ∧ encFd.lie y.fz y.F := fun y hy => by
    rcases List.mem_append.1 hy with hy | hy
    · exact ⟨(h.fp y hy).2.2, (h.fp y hy).1, (h.fp y hy).2.1⟩
    · rw [List.mem_singleton] at hy; subst hy; exact ⟨hx.wz, hx.ok, hx.lie⟩
  have hfa : ∀ a, A = some a → ∀ y ∈ pre ++ [x], ¬ y.fz a.block := fun a e y hy => by
    rcases List.mem_append.1 hy with hy | hy
    · exact (h.og a e).2.2 y hy
    · rw [List.mem_singleton] at hy; subst hy
      intro hf; have := hf.1; have := hA a e; omega
  have hgw : gb < W.heap.size := h.gl _ h.gg
  have hge : ∀ a, A = some a → b0 ≤ a.block := fun a e => (h.own.lt a.block (by rw [e]; rfl)).1
  have hk1 : Kx (fun b => (G b ∨ x.lo ≤ b) ∧ (b0 ≤ b ∨ b = gb) ∧ (b = gb ∨ ∃ a, A = some a ∧ a.block = b) ∧ ∀ y ∈ pre ++ [x], ¬ y.fz b) W w' := Kx.of_grown hg (fun g e => by
    obtain ⟨a, ea, rfl⟩ := own_some e
    exact ⟨.inl (h.og a ea).1, .inl (hge a ea), .inr ⟨a, ea, rfl⟩, hfa a ea⟩)
  have hk2 := hk1.setCell (p := ⟨gb, 0, none⟩) (.inl ⟨.inl h.gg, .inr rfl, .inl rfl, fun y hy hf => by have := hf.1; have := (hlx y hy).1; have := h.gz; dsimp only at *; omega⟩) (.slice A' ((F0 ++ pre.map Vx.F).length + 1) c')
  have hb1 : Bk w' gb 26 #[.slice A (F0 ++ pre.map Vx.F).length c] := h.bk.grownX hg (fun e => by
    obtain ⟨a, ea, e2⟩ := own_some e.symm
    exact (h.og a ea).2.1 e2)
  have hl : (F0 ++ pre.map Vx.F ++ [x.F]).length = (F0 ++ pre.map Vx.F).length + 1 := by rw [List.length_append, List.length_singleton]
  have hm : F0 ++ (pre ++ [x]).map Vx.F = F0 ++ pre.map Vx.F ++ [x.F] := by simp
  have hsz := hk2.size
  have hwz : w'.heap.size = (w'.setCell ⟨gb, 0, none⟩ (.slice A' ((F0 ++ pre.map Vx.F).length + 1) c')).heap.size := by simp
  have hown : ∀ a, A' = some a → (G a.block ∨ (x.lo ≤ a.block ∧ a.block < w'.heap.size)) ∧ a.block ≠ gb ∧ (∀ y ∈ pre ++ [x], ¬ y.fz a.block) ∧ ∀ p ∈ Ds, a.block ≠ p.1 := fun a e => by
    have hlt := (hw.lt a.block (by rw [e]; rfl)).2
    have e1 : (Value.slice A' ((F0 ++ pre.map Vx.F).length + 1) c').ownBlock = some a.block := by rw [e]; rfl
    rcases hat with ht | ⟨g, ht, hgs⟩
    · rw [e1] at ht
      obtain ⟨a2, ea, e2⟩ := own_some ht.symm
      exact ⟨.inl (e2 ▸ (h.og a2 ea).1), e2 ▸ (h.og a2 ea).2.1, fun y hy => e2 ▸ hfa a2 ea y hy, fun p hp => e2 ▸ (hK.2 p hp).2.2.2.1 a2 ea⟩
    · rw [e1] at ht
      obtain rfl := Option.some.inj ht
      exact ⟨.inr ⟨by have := hx.lo; omega, hlt⟩, by omega, fun y hy hf => by have := Vx.fz_lt (hlx y hy).2.1 hf; omega, fun p hp e => by have := h.gl _ (hK.2 p hp).1; omega⟩
  have hK2 : KpD b0 gb wz wb Ds A (fun b => G b ∨ (x.lo ≤ b ∧ b < w'.heap.size)) (w'.setCell ⟨gb, 0, none⟩ (.slice A' ((F0 ++ pre.map Vx.F).length + 1) c')) := hK.kx hk2 (fun b hb => hb.2.1.elim id (fun h => by omega)) (fun p hp hy => hy.2.2.1.elim (hK.2 p hp).2.2.1 (fun h => by obtain ⟨a, ea, e⟩ := h; exact (hK.2 p hp).2.2.2.1 a ea e)) (fun b hb => .inl hb) hbw
  refine ⟨A', c', rfl, hb1, ⟨A', c', ⟨?_, ?_, fun a e => ⟨(hown a e).1, (hown a e).2.1, (hown a e).2.2.1⟩, fun m hm => ⟨ok_kx (h.f0 m hm).1 (h.f0 m hm).2 hk2 (fun b hb hy => hy.1.elim (h.no b (.inl hb)) (fun h => by have := ho b (.inl hb); have := hx.wz; omega)), (h.f0 m hm).2⟩, h.sub, fun y hy => ⟨ok_kx (hlx y hy).2.1 (hlx y hy).2.2 hk2 (fun b hb hy' => hy'.2.2.2 y hy hb), (hlx y hy).2.2, (hlx y hy).1⟩, fun b hb hg => hg.elim (h.no b hb) (fun h => by have := ho b hb; have := hx.wz; omega), .inl h.gg, h.gz, fun b hb => by rw [← hwz]; exact hb.elim (fun h' => Nat.lt_of_lt_of_le (h.gl b h') hg.size) (fun h => h.2)⟩,
    ⟨hK2.1, fun p hp => ⟨(hK2.2 p hp).1, (hK2.2 p hp).2.1, (hK2.2 p hp).2.2.1, fun a e => (hown a e).2.2.2 p hp, (hK2.2 p hp).2.2.2.2⟩⟩⟩, hk2.more (fun b hb => ⟨hb.1, hb.2.2.2⟩), fun b hb => by rw [← hwz]; exact hb.elim (fun h' => Nat.lt_of_lt_of_le (h.gl b h') hg.size) (fun h => h.2)⟩
  · rw [hm, hl]; exact hb1.set_ 0 _
  · rw [hm, hl, List.flatMap_append]
    refine OwnK.far ?_ (fun e => ?_) _
    · rw [List.flatMap_singleton]; exact hw
    · obtain ⟨a, ea, e2⟩ := own_some e
      exact (hown a ea).2.1 e2
end
theorem run_eql_seq (w : World) (g : Fn) (f c : Array Value) : (binOp .eql 31 (.func g f c) .nilFunc).run Try.prog w = .ok (.bool false) w := by
  have h : ∀ d : Nat, (Op.equalIn (d + 1) 31 (.func g f c) .nilFunc).run Try.prog w = .ok false w := fun d => by
    simp [Op.equalIn, run_underlying Try.underlying31]
  simp only [binOp]
  simp [Op.equal, Op.maxDepth, h 9999]
end Go.Proofs.Ytedelkifadonjaa
