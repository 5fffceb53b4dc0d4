/- Layer 1: the law's operations: what they do, how they lie in memory; both file systems side by side. -/
import Derived.Test.YtaanmnplfppdeaaGreatRfP
import Derived.Test.YtaanmnplfppdeaaGreatFsAw
import Derived.Test.YtaanmnplfppdeaaGreatFsY1
import Derived.Test.YtaanmnplfppdeaaGreatFsZ1
namespace Go.Fsy
open Go.RowKit Go.Lec
/-- An operation. -/
structure Opr where
  kind : Int
  name : Bs
  dst : Bs
  data : Bs
  n : Int
  p : Pl
/-- What it does. -/
def doOp (s : St) (o : Opr) : St × Int :=
  if o.kind = 1 then create s o.name else if o.kind = 2 then append s o.name o.data else if o.kind = 3 then cutF s o.name o.n else if o.kind = 4 then sync s o.name
  else if o.kind = 5 then rename s o.name o.dst else if o.kind = 6 then remove s o.name else if o.kind = 7 then syncDir s else (start s o.p, 0)
theorem Inv.doOp {s : St} {N : Nat} (h : Inv s N) (o : Opr) : Inv (doOp s o).1 (N + 3) := by
  unfold Fsy.doOp
  split
  · exact h.create _
  split
  · exact (h.append _ _).more (by omega)
  split
  · exact (h.cutF _ _).more (by omega)
  split
  · exact (h.sync _).more (by omega)
  split
  · exact (h.rename _ _).more (by omega)
  split
  · exact (h.remove _).more (by omega)
  split
  · exact h.syncDir.more (by omega)
  · exact (h.start _).more (by omega)
theorem begin_pl' (s : St) : (Fsy.begin s).1.pl = s.pl := by
  unfold Fsy.begin
  split
  · rfl
  · split
    · rfl
    · split <;> rfl
theorem doOp_pl {s : St} {o : Opr} (h : s.pl.ok) (ho : o.p.ok) : (doOp s o).1.pl.ok := by
  have hb : (Fsy.begin s).1.pl.ok := by rw [begin_pl']; exact h
  unfold Fsy.doOp
  split
  · unfold create; (repeat' split) <;> exact hb
  split
  · unfold append; (repeat' split) <;> exact hb
  split
  · unfold cutF; (repeat' split) <;> exact hb
  split
  · unfold sync; (repeat' split) <;> exact hb
  split
  · unfold rename; (repeat' split) <;> exact hb
  split
  · unfold remove; (repeat' split) <;> exact hb
  split
  · unfold syncDir; (repeat' split) <;> exact hb
  · unfold start; split <;> exact ho
def Opr.wt (o : Opr) : Nat := o.data.length + o.name.length / 10 + o.dst.length / 10
def wts (l : List Opr) : Nat := l.length + (l.map Opr.wt).sum
/-- Whether operations are few and small enough. -/
def few (l : List Opr) : Bool := decide (wts l ≤ 3000)
theorem few_len {l : List Opr} (h : few l = true) : l.length ≤ 3000 := by
  have := of_decide_eq_true h
  unfold wts at this
  omega
def runs (s : St) (l : List Opr) : St := l.foldl (fun s o => (doOp s o).1) s
theorem runs_snoc (s : St) (l : List Opr) (o : Opr) : runs s (l ++ [o]) = (doOp (runs s l) o).1 := by simp [runs]
theorem Inv.runs {s : St} : ∀ {l : List Opr} {N : Nat}, Inv s N → Inv (runs s l) (N + 3 * l.length) := by
  intro l
  induction l generalizing s with
  | nil => intro N h; exact h
  | cons o l ih =>
    intro N h
    have := ih (h.doOp o)
    rw [List.length_cons]
    exact this.more (by omega)
theorem runs_pl {s : St} {l : List Opr} (h : s.pl.ok) (ho : ∀ o ∈ l, o.p.ok) : (runs s l).pl.ok := by
  induction l generalizing s with
  | nil => exact h
  | cons o l ih => exact ih (doOp_pl h (ho o List.mem_cons_self)) (fun o hm => ho o (List.mem_cons_of_mem _ hm))
/-- An operation, with where its parts lie. -/
structure OpR where
  o : Opr
  A : Option Addr
  c : Nat
  AK : Option Addr
  cK : Nat
  AF : Option Addr
  cF : Nat
  AU : Option Addr
  cU : Nat
def OpR.cs (x : OpR) : List Value :=
  [.int .i64 x.o.kind, svl x.o.name, svl x.o.dst, .slice x.A x.o.data.length x.c, .int .i64 x.o.n, .int .i64 x.o.p.crash, .slice x.AK x.o.p.keep.length x.cK, .slice x.AF x.o.p.fail.length x.cF, .slice x.AU x.o.p.full.length x.cU, .int .i64 x.o.p.room]
theorem OpR.cs_len (x : OpR) : x.cs.length = 10 := rfl
theorem kbP_of_below {B : Nat} {a w : World} (h : Below B a w) : KbP (fun b => B ≤ b) a w := ⟨h.os, h.tape, h.output, h.size, fun k hk hx => h.block k (by omega)⟩
end Go.Fsy
namespace Go.Proofs.YtaanmnplfppdeaaGreat
open Go.RowKit Go.Lec Go.Fsy Go.Op Go.Maps
structure OpOk (B : Nat) (w : World) (x : OpR) : Prop where
  d : RdP (fun b => b < B) w x.A x.o.data.length (bcs x.o.data)
  dc : x.o.data.length ≤ x.c
  p : PlOk (fun b => b < B) w x.o.p x.AK x.cK x.AF x.cF x.AU x.cU
  pk : x.o.p.ok
  n1 : -9223372036854775808 ≤ x.o.n
  n2 : x.o.n ≤ 9223372036854775807
  nm : x.o.name.length ≤ 1048576
  tl : x.o.dst.length ≤ 1048576
  dl : x.o.data.length ≤ 1048576
theorem OpOk.below {B : Nat} {w w' : World} {x : OpR} (h : OpOk B w x) (hb : Below B w w') : OpOk B w' x := by
  have hk := kbP_of_below hb
  have hX : ∀ b, b < B → ¬ B ≤ b := fun b h1 h2 => by omega
  exact ⟨h.d.kbP hk hX, h.dc, ⟨h.p.rk.kbP hk hX, h.p.rf.kbP hk hX, h.p.ru.kbP hk hX, h.p.nk, h.p.nf, h.p.nu⟩, h.pk, h.n1, h.n2, h.nm, h.tl, h.dl⟩
/-- Operations that came in. -/
structure OpsR (B : Nat) (w : World) (A : Option Addr) (n : Nat) (L : List OpR) : Prop where
  len : L.length = n
  rd : RdKP (fun b => b < B) w 10 A n (L.flatMap OpR.cs)
  ok : ∀ x ∈ L, OpOk B w x
theorem OpsR.below {B n : Nat} {w w' : World} {A : Option Addr} {L : List OpR} (h : OpsR B w A n L) (hb : Below B w w') : OpsR B w' A n L :=
  ⟨h.len, h.rd.kbP (kbP_of_below hb) (fun b h1 h2 => by omega), fun x hx => (h.ok x hx).below hb⟩
theorem RfP.lt {Y J : Nat → Prop} {w : World} {rb : Nat} {s : St} (h : RfP Y J w rb s) : ∀ b, Y b ∨ J b → b < w.heap.size := by
  obtain ⟨R, hR⟩ := h
  exact hR.lt
theorem RfP.beside {X I Y J : Nat → Prop} {w w' : World} {rb : Nat} {s : St} (h : RfP Y J w rb s) (ha : Apart X I Y J) (hk : KbP X w w') : RfP Y J w' rb s :=
  h.kbP hk (fun b hy hx => ha.xy b hx hy) (fun b hj hx => ha.xj b hx hj)
/-- Both file systems, in one state; all that may turn lies from block B on. -/
def Two (B : Nat) (w : World) (fb rb : Nat) (s : St) : Prop :=
  ∃ X I Y J, FsP X I w fb s ∧ RfP Y J w rb s ∧ Apart X I Y J ∧ (∀ b, X b → B ≤ b) ∧ (∀ b, Y b → B ≤ b)
theorem Two.below {B : Nat} {w w' : World} {fb rb : Nat} {s : St} (h : Two B w fb rb s) (hb : Below w.heap.size w w') : Two B w' fb rb s := by
  obtain ⟨X, I, Y, J, h1, h2, h3, h4, h5⟩ := h
  exact ⟨X, I, Y, J, h1.below hb, h2.below hb, h3, h4, h5⟩
/-- An operation of the one, then of the other. -/
theorem Two.step {B : Nat} {w w1 w2 : World} {fb rb : Nat} {s s' : St} {X I Y J X' I' Y' J' : Nat → Prop} (_hf : FsP X I w fb s) (hr : RfP Y J w rb s) (ha : Apart X I Y J) (hx : ∀ b, X b → B ≤ b) (hy : ∀ b, Y b → B ≤ b) (hB : B ≤ w.heap.size)
    (hf1 : FsP X' I' w1 fb s') (hg1 : Grow X I w X' I' w1) (hr2 : RfP Y' J' w2 rb s') (hg2 : Grow Y J w1 Y' J' w2) : Two B w2 fb rb s' ∧ Below B w w2 := by
  have ha1 : Apart X' I' Y J := ha.grow hg1 hr.lt
  have ha2 : Apart Y' J' X' I' := ha1.symm.grow hg2 hf1.lt
  have hb1 := hg1.kb.below hx hB
  have hB1 := Nat.le_trans hB hb1.size
  have hb2 := hg2.kb.below hy hB1
  refine ⟨⟨X', I', Y', J', hf1.beside ha1.symm hg2.kb, hr2, ha2.symm, ?_, ?_⟩, hb1.trans hb2⟩
  · exact fun b hb => (hg1.sx b hb).elim (hx b) (fun h => Nat.le_trans hB h)
  · exact fun b hb => (hg2.sx b hb).elim (hy b) (fun h => Nat.le_trans hB1 h)
/-- An operation of the document's, then of the program's. -/
theorem Two.stepR {B : Nat} {w w1 w2 : World} {fb rb : Nat} {s s' : St} {X I Y J X' I' Y' J' : Nat → Prop} (hf : FsP X I w fb s) (_hr : RfP Y J w rb s) (ha : Apart X I Y J) (hx : ∀ b, X b → B ≤ b) (hy : ∀ b, Y b → B ≤ b) (hB : B ≤ w.heap.size)
    (hr1 : RfP Y' J' w1 rb s') (hg1 : Grow Y J w Y' J' w1) (hf2 : FsP X' I' w2 fb s') (hg2 : Grow X I w1 X' I' w2) : Two B w2 fb rb s' ∧ Below B w w2 := by
  have ha1 : Apart Y' J' X I := ha.symm.grow hg1 hf.lt
  have ha2 : Apart X' I' Y' J' := ha1.symm.grow hg2 hr1.lt
  have hb1 := hg1.kb.below hy hB
  have hB1 := Nat.le_trans hB hb1.size
  have hb2 := hg2.kb.below hx hB1
  refine ⟨⟨X', I', Y', J', hf2, hr1.beside ha1.symm hg2.kb, ha2, ?_, ?_⟩, hb1.trans hb2⟩
  · exact fun b hb => (hg2.sx b hb).elim (hx b) (fun h => Nat.le_trans hB1 h)
  · exact fun b hb => (hg1.sx b hb).elim (hy b) (fun h => Nat.le_trans hB h)
end Go.Proofs.YtaanmnplfppdeaaGreat
/- Layer 1: whether operations are few and small enough: the walk of fits. -/
namespace Go.Fsy
def wtK (n : Nat) (l : List Opr) (k : Nat) : Nat := n + ((l.take k).map Opr.wt).sum
theorem wtK_succ {n : Nat} {l : List Opr} {k : Nat} (hk : k < l.length) : wtK n l (k + 1) = wtK n l k + l[k].wt := by
  unfold wtK
  rw [List.take_succ_eq_append_getElem hk, List.map_append, List.sum_append]
  simp [Nat.add_assoc]
theorem wtK_le {n M : Nat} {l : List Opr} (h : ∀ o ∈ l, o.wt ≤ M) (k : Nat) : k ≤ l.length → wtK n l k ≤ n + k * M := by
  induction k with
  | zero => intro _; simp [wtK]
  | succ k ih =>
    intro hk
    have h1 := ih (by omega)
    have h2 := h _ (List.getElem_mem (show k < l.length by omega))
    rw [wtK_succ (by omega), Nat.succ_mul]
    omega
theorem wtK_all (l : List Opr) : wtK l.length l l.length = wts l := by unfold wtK wts; rw [List.take_length]
end Go.Fsy
namespace Go.Proofs.YtaanmnplfppdeaaGreat
open Go.RowKit Go.Lec Go.Fsy Go.Op Go.Maps
theorem quo10 (n : Nat) (h : n ≤ 1048576) : IntKind.i64.wrap (((n : Nat) : Int).tdiv 10) = ((n / 10 : Nat) : Int) := by
  rw [IntWalk.i64_quo _ _ (by omega)]
  omega
set_option maxRecDepth 40000 in
set_option maxHeartbeats 1600000 in
theorem c_fits (w : World) {B n c : Nat} {A : Option Addr} {L : List OpR} (h : OpsR B w A n L) (hn : n ≤ 1048576) :
    Calls Tryz.prog 10 #[.slice A n c] w fun e w' => e = .returned (.bool (few (L.map OpR.o))) ∧ Below w.heap.size w w' := by
  have hw : ∀ o ∈ L.map OpR.o, o.wt ≤ 4194304 := by
    intro o ho
    obtain ⟨x, hx, rfl⟩ := List.mem_map.1 ho
    have h1 := h.ok x hx
    have := h1.nm
    have := h1.tl
    have := h1.dl
    unfold Opr.wt
    omega
  have hle := fun k hk => wtK_le (n := n) hw k hk
  have hall : wtK n (L.map OpR.o) n = wts (L.map OpR.o) := by
    have := wtK_all (L.map OpR.o)
    rwa [List.length_map, h.len] at this
  obtain ⟨ls, hls⟩ : ∃ ls, ls = L.map OpR.o := ⟨_, rfl⟩
  rw [← hls] at hle hall ⊢
  have hll : ls.length = n := by rw [hls, List.length_map, h.len]
  rw [hll] at hle
  have Hall := Lib.hid hall
  have Hls := Lib.hid hls
  have Hll := Lib.hid hll
  have H := Lib.hid h
  clear h hw hall hls hll
  have h0 : wtK n ls 0 = n := by simp [wtK]
  go_enter Tryz.func10, Tryz.ntmps10
  go_wp2
  go_loopw [3, 10] (fun v i wr => ∃ k : Nat, k ≤ n ∧ i = .int .i64 (k : Int) ∧ v = .int .i64 (wtK n ls k : Nat) ∧ Below w.heap.size w wr) (fun _ i _ => n - (intOf i).toNat)
  case atStart => exact ⟨0, Nat.zero_le _, rfl, by rw [h0], Below.refl _ _⟩
  case round =>
    obtain ⟨k, hk, rfl, rfl, hbl⟩ := hrel
    by_cases hlt : k < n
    · have hkL : k < L.length := by rw [H.out.len]; exact hlt
      have hkl : k < ls.length := by rw [Hll.out]; exact hlt
      obtain ⟨b, o, rfl, hbB, hcell⟩ := rdK_at OpR.cs_len H.out.rd.rd hkL H.out.len (by decide)
      have hok := H.out.ok _ (List.getElem_mem hkL)
      have hx : ls[k] = L[k].o := by have := Hls.out; subst this; simp
      have hsc := wtK_succ (n := n) hkl
      rw [hx] at hsc
      have h1 := hle (k + 1) (by omega)
      have h2 : (k + 1) * 4194304 ≤ 1048576 * 4194304 := Nat.mul_le_mul_right _ (by omega)
      rw [hsc] at h1
      have hcl := hcell wr hbl
      obtain ⟨x, hxx⟩ : ∃ x, x = L[k] := ⟨_, rfl⟩
      rw [← hxx] at hcl hok hsc h1
      have g : ∀ j u, x.cs[j]? = some u → wr.cell? ⟨b, o + k * 10 + j, none⟩ = some u := hcl
      have g0 : wr.cell? ⟨b, o + k * 10, none⟩ = some (.int .i64 x.o.kind) := g 0 _ rfl
      have g1 : wr.cell? ⟨b, o + k * 10 + 1, none⟩ = some (svl x.o.name) := g 1 _ rfl
      have g2 : wr.cell? ⟨b, o + k * 10 + 2, none⟩ = some (svl x.o.dst) := g 2 _ rfl
      have g3 : wr.cell? ⟨b, o + k * 10 + 3, none⟩ = some (.slice x.A x.o.data.length x.c) := g 3 _ rfl
      have g4 : wr.cell? ⟨b, o + k * 10 + 4, none⟩ = some (.int .i64 x.o.n) := g 4 _ rfl
      have g5 : wr.cell? ⟨b, o + k * 10 + 5, none⟩ = some (.int .i64 x.o.p.crash) := g 5 _ rfl
      have g6 : wr.cell? ⟨b, o + k * 10 + 6, none⟩ = some (.slice x.AK x.o.p.keep.length x.cK) := g 6 _ rfl
      have g7 : wr.cell? ⟨b, o + k * 10 + 7, none⟩ = some (.slice x.AF x.o.p.fail.length x.cF) := g 7 _ rfl
      have g8 : wr.cell? ⟨b, o + k * 10 + 8, none⟩ = some (.slice x.AU x.o.p.full.length x.cU) := g 8 _ rfl
      have g9 : wr.cell? ⟨b, o + k * 10 + 9, none⟩ = some (.int .i64 x.o.p.room) := g 9 _ rfl
      have hB1 := (Bk.new_ wr 30 x.cs.toArray).cell
      have hb1 := hbl.alloc hbl.size (.cells x.cs.toArray 30)
      unfold OpR.cs at hB1 hb1
      have q1 := quo10 x.o.name.length hok.nm
      have q2 := quo10 x.o.dst.length hok.tl
      have d1 := hok.dl
      have d2 := hok.nm
      have d3 := hok.tl
      unfold Opr.wt at hsc h1
      obtain ⟨t, ht⟩ : ∃ t, t = wtK n ls k := ⟨_, rfl⟩
      rw [← ht] at hsc h1 ⊢
      have htb : t + (x.o.data.length + x.o.name.length / 10 + x.o.dst.length / 10) ≤ 4398047559680 := by omega
      have a1 : IntKind.i64.wrap ((x.o.data.length : Int) + ((x.o.name.length / 10 : Nat) : Int)) = ((x.o.data.length + x.o.name.length / 10 : Nat) : Int) := by rw [IntWalk.i64_in _ (by omega)]; omega
      have a2 : IntKind.i64.wrap (((x.o.data.length + x.o.name.length / 10 : Nat) : Int) + ((x.o.dst.length / 10 : Nat) : Int)) = ((x.o.data.length + x.o.name.length / 10 + x.o.dst.length / 10 : Nat) : Int) := by rw [IntWalk.i64_in _ (by omega)]; omega
      have a3 : IntKind.i64.wrap ((t : Int) + ((x.o.data.length + x.o.name.length / 10 + x.o.dst.length / 10 : Nat) : Int)) = ((t + (x.o.data.length + x.o.name.length / 10 + x.o.dst.length / 10) : Nat) : Int) := by rw [IntWalk.i64_in _ (by omega)]; omega
      have Hsc := Lib.hid hsc
      have Hb1 := Lib.hid hb1
      clear hcell hx hsc h1 h2 ht hxx g hcl hok hb1
      unfold svl at *
      go_wp2
      go_roundw
      case rel => exact ⟨k + 1, by omega, by go_num, by rw [Hsc.out]; congr 1, Hb1.out⟩
      case measure => simp [intOf]; omega
    · obtain rfl : k = n := by omega
      rw [Hall.out]
      have hfw : few ls = decide (wts ls ≤ 3000) := rfl
      obtain ⟨W, hW⟩ : ∃ W, W = wts ls := ⟨_, rfl⟩
      rw [← hW] at hfw ⊢
      have Hfw := Lib.hid hfw
      clear hfw hW
      by_cases h3 : W ≤ 3000
      · have h3' : (W : Int) ≤ 3000 := by omega
        go_wp2
        go_ret
        exact ⟨by rw [Hfw.out, decide_eq_true h3]; rfl, hbl⟩
      · have h3' : ¬ (W : Int) ≤ 3000 := by omega
        go_wp2
        go_ret
        exact ⟨by rw [Hfw.out, decide_eq_false h3]; rfl, hbl⟩
end Go.Proofs.YtaanmnplfppdeaaGreat
/- Layer 1: an operation of both file systems: the walk of do. -/
namespace Go.Proofs.YtaanmnplfppdeaaGreat
open Go.RowKit Go.Lec Go.Fsy Go.Op Go.Maps
/-- What an operation of both leaves. -/
def DoBP (B : Nat) (w : World) (fb rb : Nat) (s : St) (e : Ending) (w' : World) : Prop := e = .returned (.bool true) ∧ Two B w' fb rb s ∧ Below B w w'
set_option maxRecDepth 100000 in
set_option maxHeartbeats 4000000 in
theorem c_do (w : World) {B fb rb N : Nat} {s : St} {x : OpR} (h : Two B w fb rb s) (hi : Fsy.Inv s N) (hN : N ≤ 1048570) (hp : s.pl.ok) (ho : OpOk B w x) (hB : B ≤ w.heap.size) :
    Calls Tryz.prog 26 #[ptrV fb, ptrV rb, .agg x.cs.toArray] w (DoBP B w fb rb (doOp s x.o).1) := by
  have hb0 := (Below.refl w.heap.size w).alloc (Nat.le_refl _) (.cells x.cs.toArray 30)
  obtain ⟨X, I, Y, J, hf0, hr0, ha, hx, hy⟩ := h
  have hXn : ¬ X w.heap.size := fun hx => by have := hf0.lt _ (.inl hx); omega
  have hYn : ¬ Y w.heap.size := fun hx => by have := hr0.lt _ (.inl hx); omega
  have hIX : ∀ q, q < B → ¬ X q := fun q hq hx' => by have := hx q hx'; omega
  have hIY : ∀ q, q < B → ¬ Y q := fun q hq hx' => by have := hy q hx'; omega
  have HF := Lib.hid (fun (W : World) (hb : Below w.heap.size w W) => hf0.below hb)
  have HR := Lib.hid (fun (W : World) (hb : Below w.heap.size w W) => hr0.below hb)
  have Ho := Lib.hid (fun (W : World) (hb : Below B w W) => ho.below hb)
  have hN0 := Bk.new_ w 30 x.cs.toArray
  have hnm := ho.nm
  have htl := ho.tl
  have hdl := ho.dl
  have hdc := ho.dc
  have hn1 := ho.n1
  have hn2 := ho.n2
  have hpk := ho.pk
  have hcs : x.cs.toArray = #[.int .i64 x.o.kind, svl x.o.name, svl x.o.dst, .slice x.A x.o.data.length x.c, .int .i64 x.o.n, .int .i64 x.o.p.crash, .slice x.AK x.o.p.keep.length x.cK, .slice x.AF x.o.p.fail.length x.cF, .slice x.AU x.o.p.full.length x.cU, .int .i64 x.o.p.room] := rfl
  rw [hcs] at hN0 hb0 ⊢
  have hDP : ∀ (r : St × Int), (doOp s x.o) = r → DoBP B w fb rb (doOp s x.o).1 = DoBP B w fb rb r.1 := fun r e => by rw [e]
  have Hb0 := Lib.hid hb0
  obtain ⟨kd, hkd⟩ : ∃ k, k = x.o.kind := ⟨_, rfl⟩
  rw [← hkd] at hN0 Hb0 ⊢
  unfold svl ptrV at *
  clear hcs hf0 hr0 ho hb0
  by_cases k1 : kd = 1
  · have hd : doOp s x.o = create s x.o.name := by unfold doOp; rw [← hkd]; simp [k1]
    rw [hDP _ hd]
    have H1 := Lib.hid (fun (W : World) (hf : FsP X I W fb s) => c_Create W (name := x.o.name) hf hi (by omega) hp (by omega))
    have H2 := Lib.hid (fun (W : World) (hP : RfP Y J W rb s) => c_rCreate W (name := x.o.name) hP hi (by omega) hp (by omega))
    unfold UpdP RupP ptrV at *
    obtain ⟨r, hr⟩ : ∃ r, r = create s x.o.name := ⟨_, rfl⟩
    rw [← hr] at H1 H2 ⊢
    subst k1
    clear hd hDP hkd hr
    go_enter Tryz.func26, Tryz.ntmps26
    go_wp2
    have HBK := Lib.hid (fun (W : World) (hb : KbP X (w.alloc _) W) => (hN0.kbP hb hXn))
    have hHeld : (fun W : World => W.cell? ⟨w.heap.size, 1, none⟩ = some (.string ⟨x.o.name.toArray⟩) ∧ W.cell? ⟨w.heap.size, 2, none⟩ = some (.string ⟨x.o.dst.toArray⟩) ∧ W.cell? ⟨w.heap.size, 4, none⟩ = some (.int .i64 x.o.n)) (w.alloc _).drew := ⟨hN0.drew.cell 1, hN0.drew.cell 2, hN0.drew.cell 4⟩
    refine wp_region_T (S := fun W : World => W.cell? ⟨w.heap.size, 1, none⟩ = some (.string ⟨x.o.name.toArray⟩) ∧ W.cell? ⟨w.heap.size, 2, none⟩ = some (.string ⟨x.o.dst.toArray⟩) ∧ W.cell? ⟨w.heap.size, 4, none⟩ = some (.int .i64 x.o.n)) (m := 10) (by kernel_rfl) ?_
    simp only [List.size_toArray, List.length_cons, List.length_nil, Nat.reduceAdd]
    refine tTake (i := 0) (v := ?_) rfl (by kernel_rfl) (by kernel_rfl) (by kernel_rfl) (by kernel_rfl) (fun _ _ _ h => h) hHeld (by rfl) ?_ ?_
    rotate_left
    · (intro w hSw; (try dsimp only at hSw); go_simp; try with_reducible rfl)
    try simp only [Act.put, List.setIfInBounds_toArray, List.set_cons_zero, List.set_cons_succ]
    refine tTake (i := 1) (v := ?_) rfl (by kernel_rfl) (by kernel_rfl) (by kernel_rfl) (by kernel_rfl) (fun _ _ _ h => h) hHeld (by rfl) ?_ ?_
    rotate_left
    · (intro w hSw; (try dsimp only at hSw); go_simp; try with_reducible rfl)
    try simp only [Act.put, List.setIfInBounds_toArray, List.set_cons_zero, List.set_cons_succ]
    refine tTake (i := 2) (v := ?_) rfl (by kernel_rfl) (by kernel_rfl) (by kernel_rfl) (by kernel_rfl) (fun _ _ _ h => h) hHeld (by rfl) ?_ ?_
    rotate_left
    · (intro w hSw; (try dsimp only at hSw); go_simp; try with_reducible rfl)
    try simp only [Act.put, List.setIfInBounds_toArray, List.set_cons_zero, List.set_cons_succ]
    refine tTake (i := 4) (v := ?_) rfl (by kernel_rfl) (by kernel_rfl) (by kernel_rfl) (by kernel_rfl) (fun _ _ _ h => h) hHeld (by rfl) ?_ ?_
    rotate_left
    · (intro w hSw; (try dsimp only at hSw); go_simp; try with_reducible rfl)
    try simp only [Act.put, List.setIfInBounds_toArray, List.set_cons_zero, List.set_cons_succ]
    refine tTake (i := 5) (v := ?_) rfl (by kernel_rfl) (by kernel_rfl) (by kernel_rfl) (by kernel_rfl) (fun _ _ _ h => h) hHeld (by rfl) ?_ ?_
    rotate_left
    · (intro w hSw; (try dsimp only at hSw); go_simp; try with_reducible rfl)
    try simp only [Act.put, List.setIfInBounds_toArray, List.set_cons_zero, List.set_cons_succ]
    refine tTake (i := 6) (v := ?_) rfl (by kernel_rfl) (by kernel_rfl) (by kernel_rfl) (by kernel_rfl) (fun _ _ _ h => h) hHeld (by rfl) ?_ ?_
    rotate_left
    · (intro w hSw; (try dsimp only at hSw); go_simp; try with_reducible rfl)
    try simp only [Act.put, List.setIfInBounds_toArray, List.set_cons_zero, List.set_cons_succ]
    refine tStep (i := 3) rfl (by kernel_rfl) (fun K hK => ?_)
    go_simp
    go_at_call 30
    refine (H1.out _ (HF.out _ Hb0.out.drew)).mono ?_
    rintro e w1 ⟨rfl, X1, I1, hf1, hg1⟩
    have hrd := HR.out _ Hb0.out.drew
    have hfd := HF.out _ Hb0.out.drew
    have ha1 : Apart X1 I1 Y J := ha.grow hg1 hrd.lt
    have hr1 := hrd.beside ha hg1.kb
    have B1 := hN0.drew.kbP hg1.kb hXn
    have hHeldN : (fun W : World => W.cell? ⟨w.heap.size, 1, none⟩ = some (.string ⟨x.o.name.toArray⟩) ∧ W.cell? ⟨w.heap.size, 2, none⟩ = some (.string ⟨x.o.dst.toArray⟩) ∧ W.cell? ⟨w.heap.size, 4, none⟩ = some (.int .i64 x.o.n)) _ := ⟨B1.cell 1, B1.cell 2, B1.cell 4⟩
    refine hK.out _ _ (fun _ => hHeldN) ?_
    clear hK K hHeld
    have hHeld := hHeldN
    clear hHeldN
    try simp only [Act.put, List.setIfInBounds_toArray, List.set_cons_zero, List.set_cons_succ]
    refine tStep (i := 7) rfl (by kernel_rfl) (fun K hK => ?_)
    go_simp
    go_at_call 46
    refine (H2.out w1 hr1).mono ?_
    rintro e w2 ⟨rfl, Y2, J2, hr2, hg2⟩
    have hT := Two.step hfd hrd ha hx hy (Nat.le_trans hB Hb0.out.drew.size) hf1 hg1 hr2 hg2
    have B2 := B1.kbP hg2.kb hYn
    have hHeldN : (fun W : World => W.cell? ⟨w.heap.size, 1, none⟩ = some (.string ⟨x.o.name.toArray⟩) ∧ W.cell? ⟨w.heap.size, 2, none⟩ = some (.string ⟨x.o.dst.toArray⟩) ∧ W.cell? ⟨w.heap.size, 4, none⟩ = some (.int .i64 x.o.n)) _ := ⟨B2.cell 1, B2.cell 2, B2.cell 4⟩
    refine hK.out _ _ (fun _ => hHeldN) ?_
    clear hK K hHeld
    have hHeld := hHeldN
    clear hHeldN
    try simp only [Act.put, List.setIfInBounds_toArray, List.set_cons_zero, List.set_cons_succ]
    refine tTake (i := 8) (v := ?_) rfl (by kernel_rfl) (by kernel_rfl) (by kernel_rfl) (by kernel_rfl) (fun _ _ _ h => h) hHeld (by rfl) ?_ ?_
    rotate_left
    · (intro w hSw; (try dsimp only at hSw); go_simp; try with_reducible rfl)
    try simp only [Act.put, List.setIfInBounds_toArray, List.set_cons_zero, List.set_cons_succ]
    refine tStep (i := 9) rfl (by kernel_rfl) (fun K hK => ?_)
    go_simp
    have hHeldN : (fun W : World => W.cell? ⟨w.heap.size, 1, none⟩ = some (.string ⟨x.o.name.toArray⟩) ∧ W.cell? ⟨w.heap.size, 2, none⟩ = some (.string ⟨x.o.dst.toArray⟩) ∧ W.cell? ⟨w.heap.size, 4, none⟩ = some (.int .i64 x.o.n)) _ := hHeld
    refine hK.out _ _ (fun _ => hHeldN) ?_
    clear hK K hHeld
    have hHeld := hHeldN
    clear hHeldN
    try simp only [Act.put, List.setIfInBounds_toArray, List.set_cons_zero, List.set_cons_succ]
    refine tDone (by kernel_rfl) ?_ _
    have HT := Lib.hid hT
    clear hT
    go_wp2
    go_ret
    exact ⟨rfl, HT.out.1, (Hb0.out.drew.mono hB).trans HT.out.2⟩
  by_cases k2 : kd = 2
  · have hd : doOp s x.o = append s x.o.name x.o.data := by unfold doOp; rw [← hkd]; simp [k2]
    rw [hDP _ hd]
    obtain ⟨dl, hdle⟩ : ∃ n, n = x.o.data.length := ⟨_, rfl⟩
    have Hdle := Lib.hid hdle
    have H1 := Lib.hid (fun (W : World) (A : Option Addr) (c : Nat) (Z : Nat → Prop) (hf : FsP X I W fb s) (hb : RdP Z W A x.o.data.length (bcs x.o.data)) (hZ : ∀ q, Z q → ¬ X q) (hc : x.o.data.length ≤ c) => c_Append W (d := c) (name := x.o.name) hf hi (by omega) hp (by omega) hb hZ hc (by omega))
    have H2 := Lib.hid (fun (W : World) (hP : RfP Y J W rb s) (hb : RdP (fun q => q < B) W x.A x.o.data.length (bcs x.o.data)) => c_rAppend W (d := x.c) (name := x.o.name) hP hi (by omega) hp hb hIY (by omega))
    unfold UpdP RupP ptrV at *
    obtain ⟨r, hr⟩ : ∃ r, r = append s x.o.name x.o.data := ⟨_, rfl⟩
    rw [← hr] at H1 H2 ⊢
    rw [← hdle] at H1 H2 hN0 Hb0 hdl hdc ⊢
    subst k2
    clear hd hDP hkd hr hdle
    have HBL := Lib.hid (bcs_length x.o.data)
    have hbB0 := Hb0.out.mono hB
    have hrd0 := ((Ho.out _ hbB0).d).rd
    rw [← Hdle.out] at hrd0
    have hs0 : w.heap.size < (w.alloc (.cells #[.int .i64 2, .string ⟨x.o.name.toArray⟩, .string ⟨x.o.dst.toArray⟩, .slice x.A dl x.c, .int .i64 x.o.n, .int .i64 x.o.p.crash, .slice x.AK x.o.p.keep.length x.cK, .slice x.AF x.o.p.fail.length x.cF, .slice x.AU x.o.p.full.length x.cU, .int .i64 x.o.p.room] 30)).heap.size := by simp
    obtain ⟨w0, hw0⟩ : ∃ W, W = w.alloc (.cells #[.int .i64 2, .string ⟨x.o.name.toArray⟩, .string ⟨x.o.dst.toArray⟩, .slice x.A dl x.c, .int .i64 x.o.n, .int .i64 x.o.p.crash, .slice x.AK x.o.p.keep.length x.cK, .slice x.AF x.o.p.fail.length x.cF, .slice x.AU x.o.p.full.length x.cU, .int .i64 x.o.p.room] 30) := ⟨_, rfl⟩
    rw [← hw0] at hN0 Hb0 hbB0 hrd0 hs0
    have hf0 := HF.out w0 Hb0.out
    have hr0 := HR.out w0 Hb0.out
    have hB0 := Nat.le_trans hB Hb0.out.size
    have HN := Lib.hid hN0
    clear hN0
    go_enter Tryz.func26, Tryz.ntmps26
    go_wp2_with (first
      | (at_builtin; go_loud (
         rw [← hw0]
         refine wpList_app_sl (w0 := w0) rfl (.const (.slice none 0 0)) (.tmp 26) rfl slb (by decide) rfl (Lec.Own.nil_ w0 w0.heap.size 5) (Below.refl _ _) (Nat.le_refl _) rfl hrd0 bcs_one (by rw [List.length_nil]; omega) ?_
         intro v5 w5 ho5 hb5 hs5
         rw [List.nil_append] at ho5
         obtain ⟨A5, c5, rfl, hc5⟩ := ho5.shapeN (n := dl) (by rw [Hdle.out]; exact HBL.out)
         have hn5 := (HN.out.below hb5 HN.out.lt).cell))
      | (go_at_call 31
         have e1 : RdP (fun b => w0.heap.size ≤ b ∧ b < w5.heap.size) w5 A5 dl (bcs x.o.data) := by
           unfold Lec.Own at ho5
           rw [HBL.out, ← Hdle.out] at ho5
           exact RdP.newB ho5
         refine (H1.out w5 A5 c5 _ (hf0.below hb5) e1 (fun q hq hx' => by have := hf0.lt q (.inl hx'); omega) hc5).mono ?_
         rintro e w6 ⟨rfl, X6, I6, hf6, hg6⟩
         have hn6 := ((HN.out.below hb5 HN.out.lt).kbP hg6.kb hXn).cell))
    have hOw : OwnK w6 w0.heap.size 5 1 (.slice A5 dl c5) dl (bcs x.o.data) := by
      unfold Lec.Own at ho5
      rw [HBL.out, ← Hdle.out] at ho5
      exact OwnK.kbP ho5 hg6.kb (fun g hg hx' => by have h1 := (World.ownsRow.lt ho5 g hg).1; have := hf0.lt g (.inl hx'); omega)
    have hbl : (bcs x.o.data).length = dl := by rw [HBL.out, Hdle.out]
    have hz5 : w0.heap.size ≤ w5.heap.size := hb5.size
    have hz6 : w5.heap.size ≤ w6.heap.size := hg6.kb.size
    go_loopw [35] (fun i wr => ∃ (k : Nat) (xs : List Value), k ≤ dl ∧ i = .int .i64 (k : Int) ∧ xs.length = dl ∧ OwnK wr w0.heap.size 5 1 (.slice A5 dl c5) dl xs ∧ KbP (fun b => (Value.slice A5 dl c5).ownBlock = some b) w6 wr) (fun i _ => dl - (intOf i).toNat)
    case atStart => exact ⟨0, _, Nat.zero_le _, rfl, hbl, hOw, KbP.refl _ _⟩
    case round =>
      obtain ⟨k, xs, hk, rfl, hxl, hO, hkb⟩ := hrel
      clear hn5 hn6
      by_cases hlt : k < dl
      · obtain ⟨g, c', hv, hc'⟩ := ownK_ptr hO (show 0 < dl by omega)
        simp only [Value.slice.injEq, true_and] at hv
        obtain ⟨rfl, rfl⟩ := hv
        obtain ⟨b', o', hA, _, hcell⟩ := (OwnK.rd hO).2 (by omega)
        simp only [Option.some.injEq, Addr.mk.injEq, and_true] at hA
        obtain ⟨rfl, rfl⟩ := hA
        have qk : wr.cell? ⟨g, k, none⟩ = some (xs[k]'(by omega)) := by have := hcell k _ (List.getElem?_eq_getElem (by omega)); rwa [Nat.zero_add] at this
        have zk := World.ownsRow.frozenAt hO k
        have Hst := Lib.hid (OwnK.stored hO k (by omega) (.int .u8 122))
        have Hkb := Lib.hid (hkb.setCell (p := ⟨g, k, none⟩) (.inl rfl) (.int .u8 122))
        have i2 : (k : Int) < (dl : Int) := by omega
        clear hcell hO hkb hOw
        go_wp2
        go_roundw
        case rel => exact ⟨k + 1, _, by omega, by go_num, by rw [List.length_set]; exact hxl, Hst.out, Hkb.out⟩
        case measure => simp [intOf]; omega
      · obtain rfl : k = dl := by omega
        have hgl : ∀ g, (Value.slice A5 k c5).ownBlock = some g → w0.heap.size ≤ g ∧ g < w5.heap.size := fun g hg => by
          unfold Lec.Own at ho5
          rw [HBL.out, ← Hdle.out] at ho5
          exact World.ownsRow.lt ho5 g hg
        have hkw : KbP X w0 wr := (((KbP.of_below hb5 : KbP X w0 w5).trans hg6.kb (fun b => .inl))).trans hkb (fun b e => .inr (hgl b e).1)
        have hfr : FsP X6 I6 wr fb r.1 := hf6.kbP hkb (fun b hx' e => by
            have h1 := hgl b e
            rcases hg6.sx b hx' with h | h
            · have := hf0.lt b (.inl h); omega
            · omega) (fun b hi' e => by
            have h1 := hgl b e
            rcases hg6.si b hi' with h | h
            · have := hf0.lt b (.inr h); omega
            · omega)
        have hgr : Grow X I w0 X6 I6 wr := ⟨fun b hb => (hg6.sx b hb).imp_right (Nat.le_trans hz5), fun b hb => (hg6.si b hb).imp_right (Nat.le_trans hz5), hkw⟩
        have hrr := hr0.beside ha hkw
        have hbw : Below B w wr := hbB0.trans (hkw.below hx hB0)
        have hnr := (HN.out.kbP hkw hXn).cell
        have hdr := (Ho.out wr hbw).d
        have HH := Lib.hid (H2.out wr hrr (by rw [← Hdle.out] at hdr; exact hdr))
        clear hO hkb hOw hkw hdr
        go_wp2_with (first
          | (go_at_call 47; refine HH.out.mono ?_; rintro e w8 ⟨rfl, Y8, J8, hr8, hg8⟩))
        go_ret
        have hT := Two.step hf0 hr0 ha hx hy hB0 hfr hgr hr8 hg8
        exact ⟨rfl, hT.1, hbB0.trans hT.2⟩
  by_cases k3 : kd = 3
  · have hd : doOp s x.o = cutF s x.o.name x.o.n := by unfold doOp; rw [← hkd]; simp [k3]
    rw [hDP _ hd]
    have H1 := Lib.hid (fun (W : World) (hf : FsP X I W fb s) => c_Cut W (name := x.o.name) hf hi (by omega) hp (by omega) hn1 hn2)
    have H2 := Lib.hid (fun (W : World) (hP : RfP Y J W rb s) => c_rCut W (name := x.o.name) x.o.n hP hi (by omega) hp)
    unfold UpdP RupP ptrV at *
    obtain ⟨r, hr⟩ : ∃ r, r = cutF s x.o.name x.o.n := ⟨_, rfl⟩
    rw [← hr] at H1 H2 ⊢
    subst k3
    clear hd hDP hkd hr
    go_enter Tryz.func26, Tryz.ntmps26
    go_wp2
    have HBK := Lib.hid (fun (W : World) (hb : KbP X (w.alloc _) W) => (hN0.kbP hb hXn))
    have hHeld : (fun W : World => W.cell? ⟨w.heap.size, 1, none⟩ = some (.string ⟨x.o.name.toArray⟩) ∧ W.cell? ⟨w.heap.size, 2, none⟩ = some (.string ⟨x.o.dst.toArray⟩) ∧ W.cell? ⟨w.heap.size, 4, none⟩ = some (.int .i64 x.o.n)) (w.alloc _).drew := ⟨hN0.drew.cell 1, hN0.drew.cell 2, hN0.drew.cell 4⟩
    refine wp_region_T (S := fun W : World => W.cell? ⟨w.heap.size, 1, none⟩ = some (.string ⟨x.o.name.toArray⟩) ∧ W.cell? ⟨w.heap.size, 2, none⟩ = some (.string ⟨x.o.dst.toArray⟩) ∧ W.cell? ⟨w.heap.size, 4, none⟩ = some (.int .i64 x.o.n)) (m := 14) (by kernel_rfl) ?_
    simp only [List.size_toArray, List.length_cons, List.length_nil, Nat.reduceAdd]
    refine tTake (i := 0) (v := ?_) rfl (by kernel_rfl) (by kernel_rfl) (by kernel_rfl) (by kernel_rfl) (fun _ _ _ h => h) hHeld (by rfl) ?_ ?_
    rotate_left
    · (intro w hSw; (try dsimp only at hSw); go_simp; try with_reducible rfl)
    try simp only [Act.put, List.setIfInBounds_toArray, List.set_cons_zero, List.set_cons_succ]
    refine tTake (i := 1) (v := ?_) rfl (by kernel_rfl) (by kernel_rfl) (by kernel_rfl) (by kernel_rfl) (fun _ _ _ h => h) hHeld (by rfl) ?_ ?_
    rotate_left
    · (intro w hSw; (try dsimp only at hSw); go_simp; try with_reducible rfl)
    try simp only [Act.put, List.setIfInBounds_toArray, List.set_cons_zero, List.set_cons_succ]
    refine tTake (i := 2) (v := ?_) rfl (by kernel_rfl) (by kernel_rfl) (by kernel_rfl) (by kernel_rfl) (fun _ _ _ h => h) hHeld (by rfl) ?_ ?_
    rotate_left
    · (intro w hSw; (try dsimp only at hSw); go_simp; try with_reducible rfl)
    try simp only [Act.put, List.setIfInBounds_toArray, List.set_cons_zero, List.set_cons_succ]
    refine tTake (i := 3) (v := ?_) rfl (by kernel_rfl) (by kernel_rfl) (by kernel_rfl) (by kernel_rfl) (fun _ _ _ h => h) hHeld (by rfl) ?_ ?_
    rotate_left
    · (intro w hSw; (try dsimp only at hSw); go_simp; try with_reducible rfl)
    try simp only [Act.put, List.setIfInBounds_toArray, List.set_cons_zero, List.set_cons_succ]
    refine tTake (i := 4) (v := ?_) rfl (by kernel_rfl) (by kernel_rfl) (by kernel_rfl) (by kernel_rfl) (fun _ _ _ h => h) hHeld (by rfl) ?_ ?_
    rotate_left
    · (intro w hSw; (try dsimp only at hSw); go_simp; try with_reducible rfl)
    try simp only [Act.put, List.setIfInBounds_toArray, List.set_cons_zero, List.set_cons_succ]
    refine tTake (i := 6) (v := ?_) rfl (by kernel_rfl) (by kernel_rfl) (by kernel_rfl) (by kernel_rfl) (fun _ _ _ h => h) hHeld (by rfl) ?_ ?_
    rotate_left
    · (intro w hSw; (try dsimp only at hSw); go_simp; try with_reducible rfl)
    try simp only [Act.put, List.setIfInBounds_toArray, List.set_cons_zero, List.set_cons_succ]
    refine tTake (i := 7) (v := ?_) rfl (by kernel_rfl) (by kernel_rfl) (by kernel_rfl) (by kernel_rfl) (fun _ _ _ h => h) hHeld (by rfl) ?_ ?_
    rotate_left
    · (intro w hSw; (try dsimp only at hSw); go_simp; try with_reducible rfl)
    try simp only [Act.put, List.setIfInBounds_toArray, List.set_cons_zero, List.set_cons_succ]
    refine tTake (i := 8) (v := ?_) rfl (by kernel_rfl) (by kernel_rfl) (by kernel_rfl) (by kernel_rfl) (fun _ _ _ h => h) hHeld (by rfl) ?_ ?_
    rotate_left
    · (intro w hSw; (try dsimp only at hSw); go_simp; try with_reducible rfl)
    try simp only [Act.put, List.setIfInBounds_toArray, List.set_cons_zero, List.set_cons_succ]
    refine tTake (i := 9) (v := ?_) rfl (by kernel_rfl) (by kernel_rfl) (by kernel_rfl) (by kernel_rfl) (fun _ _ _ h => h) hHeld (by rfl) ?_ ?_
    rotate_left
    · (intro w hSw; (try dsimp only at hSw); go_simp; try with_reducible rfl)
    try simp only [Act.put, List.setIfInBounds_toArray, List.set_cons_zero, List.set_cons_succ]
    refine tTake (i := 10) (v := ?_) rfl (by kernel_rfl) (by kernel_rfl) (by kernel_rfl) (by kernel_rfl) (fun _ _ _ h => h) hHeld (by rfl) ?_ ?_
    rotate_left
    · (intro w hSw; (try dsimp only at hSw); go_simp; try with_reducible rfl)
    try simp only [Act.put, List.setIfInBounds_toArray, List.set_cons_zero, List.set_cons_succ]
    refine tStep (i := 5) rfl (by kernel_rfl) (fun K hK => ?_)
    go_simp
    go_at_call 48
    refine (H1.out _ (HF.out _ Hb0.out.drew)).mono ?_
    rintro e w1 ⟨rfl, X1, I1, hf1, hg1⟩
    have hrd := HR.out _ Hb0.out.drew
    have hfd := HF.out _ Hb0.out.drew
    have ha1 : Apart X1 I1 Y J := ha.grow hg1 hrd.lt
    have hr1 := hrd.beside ha hg1.kb
    have B1 := hN0.drew.kbP hg1.kb hXn
    have hHeldN : (fun W : World => W.cell? ⟨w.heap.size, 1, none⟩ = some (.string ⟨x.o.name.toArray⟩) ∧ W.cell? ⟨w.heap.size, 2, none⟩ = some (.string ⟨x.o.dst.toArray⟩) ∧ W.cell? ⟨w.heap.size, 4, none⟩ = some (.int .i64 x.o.n)) _ := ⟨B1.cell 1, B1.cell 2, B1.cell 4⟩
    refine hK.out _ _ (fun _ => hHeldN) ?_
    clear hK K hHeld
    have hHeld := hHeldN
    clear hHeldN
    try simp only [Act.put, List.setIfInBounds_toArray, List.set_cons_zero, List.set_cons_succ]
    refine tStep (i := 11) rfl (by kernel_rfl) (fun K hK => ?_)
    go_simp
    go_at_call 49
    refine (H2.out w1 hr1).mono ?_
    rintro e w2 ⟨rfl, Y2, J2, hr2, hg2⟩
    have hT := Two.step hfd hrd ha hx hy (Nat.le_trans hB Hb0.out.drew.size) hf1 hg1 hr2 hg2
    have B2 := B1.kbP hg2.kb hYn
    have hHeldN : (fun W : World => W.cell? ⟨w.heap.size, 1, none⟩ = some (.string ⟨x.o.name.toArray⟩) ∧ W.cell? ⟨w.heap.size, 2, none⟩ = some (.string ⟨x.o.dst.toArray⟩) ∧ W.cell? ⟨w.heap.size, 4, none⟩ = some (.int .i64 x.o.n)) _ := ⟨B2.cell 1, B2.cell 2, B2.cell 4⟩
    refine hK.out _ _ (fun _ => hHeldN) ?_
    clear hK K hHeld
    have hHeld := hHeldN
    clear hHeldN
    try simp only [Act.put, List.setIfInBounds_toArray, List.set_cons_zero, List.set_cons_succ]
    refine tTake (i := 12) (v := ?_) rfl (by kernel_rfl) (by kernel_rfl) (by kernel_rfl) (by kernel_rfl) (fun _ _ _ h => h) hHeld (by rfl) ?_ ?_
    rotate_left
    · (intro w hSw; (try dsimp only at hSw); go_simp; try with_reducible rfl)
    try simp only [Act.put, List.setIfInBounds_toArray, List.set_cons_zero, List.set_cons_succ]
    refine tStep (i := 13) rfl (by kernel_rfl) (fun K hK => ?_)
    go_simp
    have hHeldN : (fun W : World => W.cell? ⟨w.heap.size, 1, none⟩ = some (.string ⟨x.o.name.toArray⟩) ∧ W.cell? ⟨w.heap.size, 2, none⟩ = some (.string ⟨x.o.dst.toArray⟩) ∧ W.cell? ⟨w.heap.size, 4, none⟩ = some (.int .i64 x.o.n)) _ := hHeld
    refine hK.out _ _ (fun _ => hHeldN) ?_
    clear hK K hHeld
    have hHeld := hHeldN
    clear hHeldN
    try simp only [Act.put, List.setIfInBounds_toArray, List.set_cons_zero, List.set_cons_succ]
    refine tDone (by kernel_rfl) ?_ _
    have HT := Lib.hid hT
    clear hT
    go_wp2
    go_ret
    exact ⟨rfl, HT.out.1, (Hb0.out.drew.mono hB).trans HT.out.2⟩
  by_cases k4 : kd = 4
  · have hd : doOp s x.o = sync s x.o.name := by unfold doOp; rw [← hkd]; simp [k4]
    rw [hDP _ hd]
    have H1 := Lib.hid (fun (W : World) (hf : FsP X I W fb s) => c_Sync W (name := x.o.name) hf hi (by omega) hp (by omega))
    have H2 := Lib.hid (fun (W : World) (hP : RfP Y J W rb s) => c_rSync W (name := x.o.name) hP hi (by omega) hp)
    unfold UpdP RupP ptrV at *
    obtain ⟨r, hr⟩ : ∃ r, r = sync s x.o.name := ⟨_, rfl⟩
    rw [← hr] at H1 H2 ⊢
    subst k4
    clear hd hDP hkd hr
    go_enter Tryz.func26, Tryz.ntmps26
    go_wp2
    have HBK := Lib.hid (fun (W : World) (hb : KbP X (w.alloc _) W) => (hN0.kbP hb hXn))
    have hHeld : (fun W : World => W.cell? ⟨w.heap.size, 1, none⟩ = some (.string ⟨x.o.name.toArray⟩) ∧ W.cell? ⟨w.heap.size, 2, none⟩ = some (.string ⟨x.o.dst.toArray⟩) ∧ W.cell? ⟨w.heap.size, 4, none⟩ = some (.int .i64 x.o.n)) (w.alloc _).drew := ⟨hN0.drew.cell 1, hN0.drew.cell 2, hN0.drew.cell 4⟩
    refine wp_region_T (S := fun W : World => W.cell? ⟨w.heap.size, 1, none⟩ = some (.string ⟨x.o.name.toArray⟩) ∧ W.cell? ⟨w.heap.size, 2, none⟩ = some (.string ⟨x.o.dst.toArray⟩) ∧ W.cell? ⟨w.heap.size, 4, none⟩ = some (.int .i64 x.o.n)) (m := 10) (by kernel_rfl) ?_
    simp only [List.size_toArray, List.length_cons, List.length_nil, Nat.reduceAdd]
    refine tTake (i := 0) (v := ?_) rfl (by kernel_rfl) (by kernel_rfl) (by kernel_rfl) (by kernel_rfl) (fun _ _ _ h => h) hHeld (by rfl) ?_ ?_
    rotate_left
    · (intro w hSw; (try dsimp only at hSw); go_simp; try with_reducible rfl)
    try simp only [Act.put, List.setIfInBounds_toArray, List.set_cons_zero, List.set_cons_succ]
    refine tTake (i := 1) (v := ?_) rfl (by kernel_rfl) (by kernel_rfl) (by kernel_rfl) (by kernel_rfl) (fun _ _ _ h => h) hHeld (by rfl) ?_ ?_
    rotate_left
    · (intro w hSw; (try dsimp only at hSw); go_simp; try with_reducible rfl)
    try simp only [Act.put, List.setIfInBounds_toArray, List.set_cons_zero, List.set_cons_succ]
    refine tTake (i := 2) (v := ?_) rfl (by kernel_rfl) (by kernel_rfl) (by kernel_rfl) (by kernel_rfl) (fun _ _ _ h => h) hHeld (by rfl) ?_ ?_
    rotate_left
    · (intro w hSw; (try dsimp only at hSw); go_simp; try with_reducible rfl)
    try simp only [Act.put, List.setIfInBounds_toArray, List.set_cons_zero, List.set_cons_succ]
    refine tTake (i := 4) (v := ?_) rfl (by kernel_rfl) (by kernel_rfl) (by kernel_rfl) (by kernel_rfl) (fun _ _ _ h => h) hHeld (by rfl) ?_ ?_
    rotate_left
    · (intro w hSw; (try dsimp only at hSw); go_simp; try with_reducible rfl)
    try simp only [Act.put, List.setIfInBounds_toArray, List.set_cons_zero, List.set_cons_succ]
    refine tTake (i := 5) (v := ?_) rfl (by kernel_rfl) (by kernel_rfl) (by kernel_rfl) (by kernel_rfl) (fun _ _ _ h => h) hHeld (by rfl) ?_ ?_
    rotate_left
    · (intro w hSw; (try dsimp only at hSw); go_simp; try with_reducible rfl)
    try simp only [Act.put, List.setIfInBounds_toArray, List.set_cons_zero, List.set_cons_succ]
    refine tTake (i := 6) (v := ?_) rfl (by kernel_rfl) (by kernel_rfl) (by kernel_rfl) (by kernel_rfl) (fun _ _ _ h => h) hHeld (by rfl) ?_ ?_
    rotate_left
    · (intro w hSw; (try dsimp only at hSw); go_simp; try with_reducible rfl)
    try simp only [Act.put, List.setIfInBounds_toArray, List.set_cons_zero, List.set_cons_succ]
    refine tStep (i := 3) rfl (by kernel_rfl) (fun K hK => ?_)
    go_simp
    go_at_call 17
    refine (H1.out _ (HF.out _ Hb0.out.drew)).mono ?_
    rintro e w1 ⟨rfl, X1, I1, hf1, hg1⟩
    have hrd := HR.out _ Hb0.out.drew
    have hfd := HF.out _ Hb0.out.drew
    have ha1 : Apart X1 I1 Y J := ha.grow hg1 hrd.lt
    have hr1 := hrd.beside ha hg1.kb
    have B1 := hN0.drew.kbP hg1.kb hXn
    have hHeldN : (fun W : World => W.cell? ⟨w.heap.size, 1, none⟩ = some (.string ⟨x.o.name.toArray⟩) ∧ W.cell? ⟨w.heap.size, 2, none⟩ = some (.string ⟨x.o.dst.toArray⟩) ∧ W.cell? ⟨w.heap.size, 4, none⟩ = some (.int .i64 x.o.n)) _ := ⟨B1.cell 1, B1.cell 2, B1.cell 4⟩
    refine hK.out _ _ (fun _ => hHeldN) ?_
    clear hK K hHeld
    have hHeld := hHeldN
    clear hHeldN
    try simp only [Act.put, List.setIfInBounds_toArray, List.set_cons_zero, List.set_cons_succ]
    refine tStep (i := 7) rfl (by kernel_rfl) (fun K hK => ?_)
    go_simp
    go_at_call 50
    refine (H2.out w1 hr1).mono ?_
    rintro e w2 ⟨rfl, Y2, J2, hr2, hg2⟩
    have hT := Two.step hfd hrd ha hx hy (Nat.le_trans hB Hb0.out.drew.size) hf1 hg1 hr2 hg2
    have B2 := B1.kbP hg2.kb hYn
    have hHeldN : (fun W : World => W.cell? ⟨w.heap.size, 1, none⟩ = some (.string ⟨x.o.name.toArray⟩) ∧ W.cell? ⟨w.heap.size, 2, none⟩ = some (.string ⟨x.o.dst.toArray⟩) ∧ W.cell? ⟨w.heap.size, 4, none⟩ = some (.int .i64 x.o.n)) _ := ⟨B2.cell 1, B2.cell 2, B2.cell 4⟩
    refine hK.out _ _ (fun _ => hHeldN) ?_
    clear hK K hHeld
    have hHeld := hHeldN
    clear hHeldN
    try simp only [Act.put, List.setIfInBounds_toArray, List.set_cons_zero, List.set_cons_succ]
    refine tTake (i := 8) (v := ?_) rfl (by kernel_rfl) (by kernel_rfl) (by kernel_rfl) (by kernel_rfl) (fun _ _ _ h => h) hHeld (by rfl) ?_ ?_
    rotate_left
    · (intro w hSw; (try dsimp only at hSw); go_simp; try with_reducible rfl)
    try simp only [Act.put, List.setIfInBounds_toArray, List.set_cons_zero, List.set_cons_succ]
    refine tStep (i := 9) rfl (by kernel_rfl) (fun K hK => ?_)
    go_simp
    have hHeldN : (fun W : World => W.cell? ⟨w.heap.size, 1, none⟩ = some (.string ⟨x.o.name.toArray⟩) ∧ W.cell? ⟨w.heap.size, 2, none⟩ = some (.string ⟨x.o.dst.toArray⟩) ∧ W.cell? ⟨w.heap.size, 4, none⟩ = some (.int .i64 x.o.n)) _ := hHeld
    refine hK.out _ _ (fun _ => hHeldN) ?_
    clear hK K hHeld
    have hHeld := hHeldN
    clear hHeldN
    try simp only [Act.put, List.setIfInBounds_toArray, List.set_cons_zero, List.set_cons_succ]
    refine tDone (by kernel_rfl) ?_ _
    have HT := Lib.hid hT
    clear hT
    go_wp2
    go_ret
    exact ⟨rfl, HT.out.1, (Hb0.out.drew.mono hB).trans HT.out.2⟩
  by_cases k5 : kd = 5
  · have hd : doOp s x.o = rename s x.o.name x.o.dst := by unfold doOp; rw [← hkd]; simp [k5]
    rw [hDP _ hd]
    have H1 := Lib.hid (fun (W : World) (hf : FsP X I W fb s) => c_Rename W (a := x.o.name) (c := x.o.dst) hf hi (by omega) hp (by omega) (by omega))
    have H2 := Lib.hid (fun (W : World) (hP : RfP Y J W rb s) => c_rRename W (name := x.o.name) (tn := x.o.dst) hP hi (by omega) hp (by omega))
    unfold UpdP RupP ptrV at *
    obtain ⟨r, hr⟩ : ∃ r, r = rename s x.o.name x.o.dst := ⟨_, rfl⟩
    rw [← hr] at H1 H2 ⊢
    subst k5
    clear hd hDP hkd hr
    go_enter Tryz.func26, Tryz.ntmps26
    go_wp2
    have HBK := Lib.hid (fun (W : World) (hb : KbP X (w.alloc _) W) => (hN0.kbP hb hXn))
    have hHeld : (fun W : World => W.cell? ⟨w.heap.size, 1, none⟩ = some (.string ⟨x.o.name.toArray⟩) ∧ W.cell? ⟨w.heap.size, 2, none⟩ = some (.string ⟨x.o.dst.toArray⟩) ∧ W.cell? ⟨w.heap.size, 4, none⟩ = some (.int .i64 x.o.n)) (w.alloc _).drew := ⟨hN0.drew.cell 1, hN0.drew.cell 2, hN0.drew.cell 4⟩
    refine wp_region_T (S := fun W : World => W.cell? ⟨w.heap.size, 1, none⟩ = some (.string ⟨x.o.name.toArray⟩) ∧ W.cell? ⟨w.heap.size, 2, none⟩ = some (.string ⟨x.o.dst.toArray⟩) ∧ W.cell? ⟨w.heap.size, 4, none⟩ = some (.int .i64 x.o.n)) (m := 14) (by kernel_rfl) ?_
    simp only [List.size_toArray, List.length_cons, List.length_nil, Nat.reduceAdd]
    refine tTake (i := 0) (v := ?_) rfl (by kernel_rfl) (by kernel_rfl) (by kernel_rfl) (by kernel_rfl) (fun _ _ _ h => h) hHeld (by rfl) ?_ ?_
    rotate_left
    · (intro w hSw; (try dsimp only at hSw); go_simp; try with_reducible rfl)
    try simp only [Act.put, List.setIfInBounds_toArray, List.set_cons_zero, List.set_cons_succ]
    refine tTake (i := 1) (v := ?_) rfl (by kernel_rfl) (by kernel_rfl) (by kernel_rfl) (by kernel_rfl) (fun _ _ _ h => h) hHeld (by rfl) ?_ ?_
    rotate_left
    · (intro w hSw; (try dsimp only at hSw); go_simp; try with_reducible rfl)
    try simp only [Act.put, List.setIfInBounds_toArray, List.set_cons_zero, List.set_cons_succ]
    refine tTake (i := 2) (v := ?_) rfl (by kernel_rfl) (by kernel_rfl) (by kernel_rfl) (by kernel_rfl) (fun _ _ _ h => h) hHeld (by rfl) ?_ ?_
    rotate_left
    · (intro w hSw; (try dsimp only at hSw); go_simp; try with_reducible rfl)
    try simp only [Act.put, List.setIfInBounds_toArray, List.set_cons_zero, List.set_cons_succ]
    refine tTake (i := 3) (v := ?_) rfl (by kernel_rfl) (by kernel_rfl) (by kernel_rfl) (by kernel_rfl) (fun _ _ _ h => h) hHeld (by rfl) ?_ ?_
    rotate_left
    · (intro w hSw; (try dsimp only at hSw); go_simp; try with_reducible rfl)
    try simp only [Act.put, List.setIfInBounds_toArray, List.set_cons_zero, List.set_cons_succ]
    refine tTake (i := 4) (v := ?_) rfl (by kernel_rfl) (by kernel_rfl) (by kernel_rfl) (by kernel_rfl) (fun _ _ _ h => h) hHeld (by rfl) ?_ ?_
    rotate_left
    · (intro w hSw; (try dsimp only at hSw); go_simp; try with_reducible rfl)
    try simp only [Act.put, List.setIfInBounds_toArray, List.set_cons_zero, List.set_cons_succ]
    refine tTake (i := 6) (v := ?_) rfl (by kernel_rfl) (by kernel_rfl) (by kernel_rfl) (by kernel_rfl) (fun _ _ _ h => h) hHeld (by rfl) ?_ ?_
    rotate_left
    · (intro w hSw; (try dsimp only at hSw); go_simp; try with_reducible rfl)
    try simp only [Act.put, List.setIfInBounds_toArray, List.set_cons_zero, List.set_cons_succ]
    refine tTake (i := 7) (v := ?_) rfl (by kernel_rfl) (by kernel_rfl) (by kernel_rfl) (by kernel_rfl) (fun _ _ _ h => h) hHeld (by rfl) ?_ ?_
    rotate_left
    · (intro w hSw; (try dsimp only at hSw); go_simp; try with_reducible rfl)
    try simp only [Act.put, List.setIfInBounds_toArray, List.set_cons_zero, List.set_cons_succ]
    refine tTake (i := 8) (v := ?_) rfl (by kernel_rfl) (by kernel_rfl) (by kernel_rfl) (by kernel_rfl) (fun _ _ _ h => h) hHeld (by rfl) ?_ ?_
    rotate_left
    · (intro w hSw; (try dsimp only at hSw); go_simp; try with_reducible rfl)
    try simp only [Act.put, List.setIfInBounds_toArray, List.set_cons_zero, List.set_cons_succ]
    refine tTake (i := 9) (v := ?_) rfl (by kernel_rfl) (by kernel_rfl) (by kernel_rfl) (by kernel_rfl) (fun _ _ _ h => h) hHeld (by rfl) ?_ ?_
    rotate_left
    · (intro w hSw; (try dsimp only at hSw); go_simp; try with_reducible rfl)
    try simp only [Act.put, List.setIfInBounds_toArray, List.set_cons_zero, List.set_cons_succ]
    refine tTake (i := 10) (v := ?_) rfl (by kernel_rfl) (by kernel_rfl) (by kernel_rfl) (by kernel_rfl) (fun _ _ _ h => h) hHeld (by rfl) ?_ ?_
    rotate_left
    · (intro w hSw; (try dsimp only at hSw); go_simp; try with_reducible rfl)
    try simp only [Act.put, List.setIfInBounds_toArray, List.set_cons_zero, List.set_cons_succ]
    refine tStep (i := 5) rfl (by kernel_rfl) (fun K hK => ?_)
    go_simp
    go_at_call 51
    refine (H1.out _ (HF.out _ Hb0.out.drew)).mono ?_
    rintro e w1 ⟨rfl, X1, I1, hf1, hg1⟩
    have hrd := HR.out _ Hb0.out.drew
    have hfd := HF.out _ Hb0.out.drew
    have ha1 : Apart X1 I1 Y J := ha.grow hg1 hrd.lt
    have hr1 := hrd.beside ha hg1.kb
    have B1 := hN0.drew.kbP hg1.kb hXn
    have hHeldN : (fun W : World => W.cell? ⟨w.heap.size, 1, none⟩ = some (.string ⟨x.o.name.toArray⟩) ∧ W.cell? ⟨w.heap.size, 2, none⟩ = some (.string ⟨x.o.dst.toArray⟩) ∧ W.cell? ⟨w.heap.size, 4, none⟩ = some (.int .i64 x.o.n)) _ := ⟨B1.cell 1, B1.cell 2, B1.cell 4⟩
    refine hK.out _ _ (fun _ => hHeldN) ?_
    clear hK K hHeld
    have hHeld := hHeldN
    clear hHeldN
    try simp only [Act.put, List.setIfInBounds_toArray, List.set_cons_zero, List.set_cons_succ]
    refine tStep (i := 11) rfl (by kernel_rfl) (fun K hK => ?_)
    go_simp
    go_at_call 52
    refine (H2.out w1 hr1).mono ?_
    rintro e w2 ⟨rfl, Y2, J2, hr2, hg2⟩
    have hT := Two.step hfd hrd ha hx hy (Nat.le_trans hB Hb0.out.drew.size) hf1 hg1 hr2 hg2
    have B2 := B1.kbP hg2.kb hYn
    have hHeldN : (fun W : World => W.cell? ⟨w.heap.size, 1, none⟩ = some (.string ⟨x.o.name.toArray⟩) ∧ W.cell? ⟨w.heap.size, 2, none⟩ = some (.string ⟨x.o.dst.toArray⟩) ∧ W.cell? ⟨w.heap.size, 4, none⟩ = some (.int .i64 x.o.n)) _ := ⟨B2.cell 1, B2.cell 2, B2.cell 4⟩
    refine hK.out _ _ (fun _ => hHeldN) ?_
    clear hK K hHeld
    have hHeld := hHeldN
    clear hHeldN
    try simp only [Act.put, List.setIfInBounds_toArray, List.set_cons_zero, List.set_cons_succ]
    refine tTake (i := 12) (v := ?_) rfl (by kernel_rfl) (by kernel_rfl) (by kernel_rfl) (by kernel_rfl) (fun _ _ _ h => h) hHeld (by rfl) ?_ ?_
    rotate_left
    · (intro w hSw; (try dsimp only at hSw); go_simp; try with_reducible rfl)
    try simp only [Act.put, List.setIfInBounds_toArray, List.set_cons_zero, List.set_cons_succ]
    refine tStep (i := 13) rfl (by kernel_rfl) (fun K hK => ?_)
    go_simp
    have hHeldN : (fun W : World => W.cell? ⟨w.heap.size, 1, none⟩ = some (.string ⟨x.o.name.toArray⟩) ∧ W.cell? ⟨w.heap.size, 2, none⟩ = some (.string ⟨x.o.dst.toArray⟩) ∧ W.cell? ⟨w.heap.size, 4, none⟩ = some (.int .i64 x.o.n)) _ := hHeld
    refine hK.out _ _ (fun _ => hHeldN) ?_
    clear hK K hHeld
    have hHeld := hHeldN
    clear hHeldN
    try simp only [Act.put, List.setIfInBounds_toArray, List.set_cons_zero, List.set_cons_succ]
    refine tDone (by kernel_rfl) ?_ _
    have HT := Lib.hid hT
    clear hT
    go_wp2
    go_ret
    exact ⟨rfl, HT.out.1, (Hb0.out.drew.mono hB).trans HT.out.2⟩
  by_cases k6 : kd = 6
  · have hd : doOp s x.o = remove s x.o.name := by unfold doOp; rw [← hkd]; simp [k6]
    rw [hDP _ hd]
    have H1 := Lib.hid (fun (W : World) (hf : FsP X I W fb s) => c_Remove W (name := x.o.name) hf hi (by omega) hp (by omega))
    have H2 := Lib.hid (fun (W : World) (hP : RfP Y J W rb s) => c_rRemove W (name := x.o.name) hP hi (by omega) hp)
    unfold UpdP RupP ptrV at *
    obtain ⟨r, hr⟩ : ∃ r, r = remove s x.o.name := ⟨_, rfl⟩
    rw [← hr] at H1 H2 ⊢
    subst k6
    clear hd hDP hkd hr
    go_enter Tryz.func26, Tryz.ntmps26
    go_wp2
    have HBK := Lib.hid (fun (W : World) (hb : KbP X (w.alloc _) W) => (hN0.kbP hb hXn))
    have hHeld : (fun W : World => W.cell? ⟨w.heap.size, 1, none⟩ = some (.string ⟨x.o.name.toArray⟩) ∧ W.cell? ⟨w.heap.size, 2, none⟩ = some (.string ⟨x.o.dst.toArray⟩) ∧ W.cell? ⟨w.heap.size, 4, none⟩ = some (.int .i64 x.o.n)) (w.alloc _).drew := ⟨hN0.drew.cell 1, hN0.drew.cell 2, hN0.drew.cell 4⟩
    refine wp_region_T (S := fun W : World => W.cell? ⟨w.heap.size, 1, none⟩ = some (.string ⟨x.o.name.toArray⟩) ∧ W.cell? ⟨w.heap.size, 2, none⟩ = some (.string ⟨x.o.dst.toArray⟩) ∧ W.cell? ⟨w.heap.size, 4, none⟩ = some (.int .i64 x.o.n)) (m := 10) (by kernel_rfl) ?_
    simp only [List.size_toArray, List.length_cons, List.length_nil, Nat.reduceAdd]
    refine tTake (i := 0) (v := ?_) rfl (by kernel_rfl) (by kernel_rfl) (by kernel_rfl) (by kernel_rfl) (fun _ _ _ h => h) hHeld (by rfl) ?_ ?_
    rotate_left
    · (intro w hSw; (try dsimp only at hSw); go_simp; try with_reducible rfl)
    try simp only [Act.put, List.setIfInBounds_toArray, List.set_cons_zero, List.set_cons_succ]
    refine tTake (i := 1) (v := ?_) rfl (by kernel_rfl) (by kernel_rfl) (by kernel_rfl) (by kernel_rfl) (fun _ _ _ h => h) hHeld (by rfl) ?_ ?_
    rotate_left
    · (intro w hSw; (try dsimp only at hSw); go_simp; try with_reducible rfl)
    try simp only [Act.put, List.setIfInBounds_toArray, List.set_cons_zero, List.set_cons_succ]
    refine tTake (i := 2) (v := ?_) rfl (by kernel_rfl) (by kernel_rfl) (by kernel_rfl) (by kernel_rfl) (fun _ _ _ h => h) hHeld (by rfl) ?_ ?_
    rotate_left
    · (intro w hSw; (try dsimp only at hSw); go_simp; try with_reducible rfl)
    try simp only [Act.put, List.setIfInBounds_toArray, List.set_cons_zero, List.set_cons_succ]
    refine tTake (i := 4) (v := ?_) rfl (by kernel_rfl) (by kernel_rfl) (by kernel_rfl) (by kernel_rfl) (fun _ _ _ h => h) hHeld (by rfl) ?_ ?_
    rotate_left
    · (intro w hSw; (try dsimp only at hSw); go_simp; try with_reducible rfl)
    try simp only [Act.put, List.setIfInBounds_toArray, List.set_cons_zero, List.set_cons_succ]
    refine tTake (i := 5) (v := ?_) rfl (by kernel_rfl) (by kernel_rfl) (by kernel_rfl) (by kernel_rfl) (fun _ _ _ h => h) hHeld (by rfl) ?_ ?_
    rotate_left
    · (intro w hSw; (try dsimp only at hSw); go_simp; try with_reducible rfl)
    try simp only [Act.put, List.setIfInBounds_toArray, List.set_cons_zero, List.set_cons_succ]
    refine tTake (i := 6) (v := ?_) rfl (by kernel_rfl) (by kernel_rfl) (by kernel_rfl) (by kernel_rfl) (fun _ _ _ h => h) hHeld (by rfl) ?_ ?_
    rotate_left
    · (intro w hSw; (try dsimp only at hSw); go_simp; try with_reducible rfl)
    try simp only [Act.put, List.setIfInBounds_toArray, List.set_cons_zero, List.set_cons_succ]
    refine tStep (i := 3) rfl (by kernel_rfl) (fun K hK => ?_)
    go_simp
    go_at_call 53
    refine (H1.out _ (HF.out _ Hb0.out.drew)).mono ?_
    rintro e w1 ⟨rfl, X1, I1, hf1, hg1⟩
    have hrd := HR.out _ Hb0.out.drew
    have hfd := HF.out _ Hb0.out.drew
    have ha1 : Apart X1 I1 Y J := ha.grow hg1 hrd.lt
    have hr1 := hrd.beside ha hg1.kb
    have B1 := hN0.drew.kbP hg1.kb hXn
    have hHeldN : (fun W : World => W.cell? ⟨w.heap.size, 1, none⟩ = some (.string ⟨x.o.name.toArray⟩) ∧ W.cell? ⟨w.heap.size, 2, none⟩ = some (.string ⟨x.o.dst.toArray⟩) ∧ W.cell? ⟨w.heap.size, 4, none⟩ = some (.int .i64 x.o.n)) _ := ⟨B1.cell 1, B1.cell 2, B1.cell 4⟩
    refine hK.out _ _ (fun _ => hHeldN) ?_
    clear hK K hHeld
    have hHeld := hHeldN
    clear hHeldN
    try simp only [Act.put, List.setIfInBounds_toArray, List.set_cons_zero, List.set_cons_succ]
    refine tStep (i := 7) rfl (by kernel_rfl) (fun K hK => ?_)
    go_simp
    go_at_call 54
    refine (H2.out w1 hr1).mono ?_
    rintro e w2 ⟨rfl, Y2, J2, hr2, hg2⟩
    have hT := Two.step hfd hrd ha hx hy (Nat.le_trans hB Hb0.out.drew.size) hf1 hg1 hr2 hg2
    have B2 := B1.kbP hg2.kb hYn
    have hHeldN : (fun W : World => W.cell? ⟨w.heap.size, 1, none⟩ = some (.string ⟨x.o.name.toArray⟩) ∧ W.cell? ⟨w.heap.size, 2, none⟩ = some (.string ⟨x.o.dst.toArray⟩) ∧ W.cell? ⟨w.heap.size, 4, none⟩ = some (.int .i64 x.o.n)) _ := ⟨B2.cell 1, B2.cell 2, B2.cell 4⟩
    refine hK.out _ _ (fun _ => hHeldN) ?_
    clear hK K hHeld
    have hHeld := hHeldN
    clear hHeldN
    try simp only [Act.put, List.setIfInBounds_toArray, List.set_cons_zero, List.set_cons_succ]
    refine tTake (i := 8) (v := ?_) rfl (by kernel_rfl) (by kernel_rfl) (by kernel_rfl) (by kernel_rfl) (fun _ _ _ h => h) hHeld (by rfl) ?_ ?_
    rotate_left
    · (intro w hSw; (try dsimp only at hSw); go_simp; try with_reducible rfl)
    try simp only [Act.put, List.setIfInBounds_toArray, List.set_cons_zero, List.set_cons_succ]
    refine tStep (i := 9) rfl (by kernel_rfl) (fun K hK => ?_)
    go_simp
    have hHeldN : (fun W : World => W.cell? ⟨w.heap.size, 1, none⟩ = some (.string ⟨x.o.name.toArray⟩) ∧ W.cell? ⟨w.heap.size, 2, none⟩ = some (.string ⟨x.o.dst.toArray⟩) ∧ W.cell? ⟨w.heap.size, 4, none⟩ = some (.int .i64 x.o.n)) _ := hHeld
    refine hK.out _ _ (fun _ => hHeldN) ?_
    clear hK K hHeld
    have hHeld := hHeldN
    clear hHeldN
    try simp only [Act.put, List.setIfInBounds_toArray, List.set_cons_zero, List.set_cons_succ]
    refine tDone (by kernel_rfl) ?_ _
    have HT := Lib.hid hT
    clear hT
    go_wp2
    go_ret
    exact ⟨rfl, HT.out.1, (Hb0.out.drew.mono hB).trans HT.out.2⟩
  by_cases k7 : kd = 7
  · have hd : doOp s x.o = syncDir s := by unfold doOp; rw [← hkd]; simp [k7]
    rw [hDP _ hd]
    have H1 := Lib.hid (fun (W : World) (hf : FsP X I W fb s) => c_SyncDir W hf hi (by omega) hp)
    have H2 := Lib.hid (fun (W : World) (hP : RfP Y J W rb s) => c_rSyncDir W hP hi (by omega) hp)
    unfold UpdP RupP ptrV at *
    obtain ⟨r, hr⟩ : ∃ r, r = syncDir s := ⟨_, rfl⟩
    rw [← hr] at H1 H2 ⊢
    subst k7
    clear hd hDP hkd hr
    go_enter Tryz.func26, Tryz.ntmps26
    go_wp2_with (first
      | (go_at_call 18; refine (H1.out _ (HF.out _ Hb0.out)).mono ?_; rintro e w1 ⟨rfl, X1, I1, hf1, hg1⟩; have hr1 := (HR.out _ Hb0.out).beside ha hg1.kb)
      | (go_at_call 55; refine (H2.out w1 hr1).mono ?_; rintro e w2 ⟨rfl, Y2, J2, hr2, hg2⟩))
    go_ret
    have hT := Two.step (HF.out _ Hb0.out) (HR.out _ Hb0.out) ha hx hy (Nat.le_trans hB Hb0.out.size) hf1 hg1 hr2 hg2
    exact ⟨rfl, hT.1, (Hb0.out.mono hB).trans hT.2⟩
  · have hd : doOp s x.o = (Fsy.start s x.o.p, 0) := by unfold doOp; rw [← hkd, if_neg k1, if_neg k2, if_neg k3, if_neg k4, if_neg k5, if_neg k6, if_neg k7]
    rw [hDP _ hd]
    have b1 : (kd == 1) = false := by rw [beq_eq_false_iff_ne]; exact k1
    have b2 : (kd == 2) = false := by rw [beq_eq_false_iff_ne]; exact k2
    have b3 : (kd == 3) = false := by rw [beq_eq_false_iff_ne]; exact k3
    have b4 : (kd == 4) = false := by rw [beq_eq_false_iff_ne]; exact k4
    have b5 : (kd == 5) = false := by rw [beq_eq_false_iff_ne]; exact k5
    have b6 : (kd == 6) = false := by rw [beq_eq_false_iff_ne]; exact k6
    have b7 : (kd == 7) = false := by rw [beq_eq_false_iff_ne]; exact k7
    have H1 := Lib.hid (fun (W : World) (hP : RfP Y J W rb s) (hb : Below B w W) => c_rStart W hP hi (by omega) hp (Ho.out W hb).p hIY hpk)
    have H2 := Lib.hid (fun (W : World) (hP : FsP X I W fb s) (hb : Below B w W) => c_Start W hP hi (by omega) hp (Ho.out W hb).p hIX hpk)
    unfold UpdP RstP plV ptrV at *
    clear hd hDP hkd k1 k2 k3 k4 k5 k6 k7
    go_enter Tryz.func26, Tryz.ntmps26
    go_wp2_with (first
      | (go_at_call 56; refine (H1.out _ (HR.out _ Hb0.out) (Hb0.out.mono hB)).mono ?_; rintro e w1 ⟨rfl, Y1, J1, hr1, hg1⟩; have hf1 := (HF.out _ Hb0.out).beside ha.symm hg1.kb; have hbw1 := (Hb0.out.mono hB).trans (hg1.kb.below hy (Nat.le_trans hB Hb0.out.size)); have q1 := (hN0.kbP hg1.kb hYn).cell)
      | (go_at_call 14; refine (H2.out w1 hf1 hbw1).mono ?_; rintro e w2 ⟨rfl, X2, I2, hf2, hg2⟩))
    go_ret
    have hT := Two.stepR (HF.out _ Hb0.out) (HR.out _ Hb0.out) ha hx hy (Nat.le_trans hB Hb0.out.size) hr1 hg1 hf2 hg2
    exact ⟨rfl, hT.1, (Hb0.out.mono hB).trans hT.2⟩
end Go.Proofs.YtaanmnplfppdeaaGreat
