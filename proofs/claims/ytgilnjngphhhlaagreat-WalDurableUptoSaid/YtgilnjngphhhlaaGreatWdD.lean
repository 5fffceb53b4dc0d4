/- Layer 17: a log's operations as they come in; whether they are few; the law of durability: its walk. -/
import Derived.Test.YtgilnjngphhhlaaGreatWdC
import Derived.Test.YtgilnjngphhhlaaGreatWalQ
import Derived.Test.YtgilnjngphhhlaaGreatWalP
namespace Go.Fsy
open Go.Lec Go.RowKit
/-- An operation as it lies. -/
structure WOp where
  k : Int
  rc : Bs
  A : Option Addr
  c : Nat
  p : Pl
  AK : Option Addr
  cK : Nat
  AF : Option Addr
  cF : Nat
  AU : Option Addr
  cU : Nat
def WOp.cs (x : WOp) : List Value := [.int .i64 x.k, .slice x.A x.rc.length x.c, .int .i64 x.p.crash, .slice x.AK x.p.keep.length x.cK, .slice x.AF x.p.fail.length x.cF, .slice x.AU x.p.full.length x.cU, .int .i64 x.p.room]
theorem WOp.cs_len (x : WOp) : x.cs.length = 7 := rfl
structure WOpOk (B : Nat) (w : World) (x : WOp) : Prop where
  d : Rd w B x.A x.rc.length (bcs x.rc)
  dc : x.rc.length ≤ x.c
  dl : x.rc.length ≤ 1048576
theorem WOpOk.below {B B' : Nat} {w w' : World} {x : WOp} (h : WOpOk B w x) (hb : Below B' w w') (hB : B ≤ B') : WOpOk B w' x := ⟨h.d.below hb hB, h.dc, h.dl⟩
/-- Operations that came in. -/
structure WOpsR (B : Nat) (w : World) (A : Option Addr) (n : Nat) (L : List WOp) : Prop where
  len : L.length = n
  rd : RdK w B 7 A n (L.flatMap WOp.cs)
  ok : ∀ x ∈ L, WOpOk B w x
theorem WOpsR.below {B B' n : Nat} {w w' : World} {A : Option Addr} {L : List WOp} (h : WOpsR B w A n L) (hb : Below B' w w') (hB : B ≤ B') : WOpsR B w' A n L :=
  ⟨h.len, h.rd.below hb hB, fun x hx => (h.ok x hx).below hb hB⟩
def wrecs (L : List WOp) : List Bs := L.map WOp.rc
theorem lgCreate_inv {s : St} {N : Nat} (h : Inv s N) (name : Bs) : Inv (lgCreate s name).1 (N + 5) := by
  unfold lgCreate
  split
  · exact (h.create name).more (by omega)
  · split
    · exact ((h.create name).sync name).more (by omega)
    · exact (((h.create name).sync name).syncDir).more (by omega)
theorem syncDir_pl_ (t : St) : (syncDir t).1.pl = t.pl := by
  unfold syncDir
  repeat' first | exact begin_pl_ t | split
theorem lgCreate_pl (s : St) (name : Bs) : (lgCreate s name).1.pl = s.pl := by
  unfold lgCreate
  split
  · exact create_pl _ _
  · split
    · rw [sync_pl, create_pl]
    · rw [syncDir_pl_, sync_pl, create_pl]
theorem begin_small (s : St) : (Fsy.begin s).2 ≤ 100 := by
  unfold Fsy.begin
  repeat' split
  all_goals (dsimp only; decide)
theorem append_small (s : St) (name b : Bs) : (append s name b).2 ≤ 100 := by
  unfold append
  repeat' split
  all_goals first | exact begin_small s | (dsimp only; decide)
theorem sync_small (s : St) (name : Bs) : (sync s name).2 ≤ 100 := by
  unfold sync
  repeat' split
  all_goals first | exact begin_small s | (dsimp only; decide)
theorem lgAppend_small (s : St) (name : Bs) (l : Lg) (rec : Bs) (sy : Bool) (hb : l.bad = false) (hr : rec.length ≤ 1048576) : (lgAppend s name l rec sy).1.2 ≠ 171 := by
  unfold lgAppend lgMend
  rw [if_neg (by omega), hb]
  simp only [Bool.false_eq_true, if_false, ne_eq, not_true_eq_false]
  have h1 := append_small s name (lgBytes l rec)
  have h2 := sync_small (append s name (lgBytes l rec)).1 name
  repeat' split
  all_goals (dsimp only; omega)
theorem lgAppend_inv {s : St} {N : Nat} (h : Inv s N) (name : Bs) (l : Lg) (rec : Bs) (sy : Bool) (hb : l.bad = false) : Inv (lgAppend s name l rec sy).1.1 (N + 3) := by
  unfold lgAppend lgMend
  rw [hb]
  simp only [Bool.false_eq_true, if_false]
  repeat' split
  all_goals first | exact h.more (by omega) | exact (h.append name _).more (by omega) | exact ((h.append name _).sync name).more (by omega)
theorem lgAppend_pl (s : St) (name : Bs) (l : Lg) (rec : Bs) (sy : Bool) (hb : l.bad = false) : (lgAppend s name l rec sy).1.1.pl = s.pl := by
  unfold lgAppend lgMend
  rw [hb]
  simp only [Bool.false_eq_true, if_false]
  repeat' split
  all_goals first | rfl | exact append_pl _ _ _ | (rw [sync_pl]; exact append_pl _ _ _)
end Go.Fsy
namespace Go.Proofs.YtgilnjngphhhlaaGreat
open Go.RowKit Go.Lec Go.Fsy Go.Op Go.Maps
theorem c_wfits (w : World) {B n c : Nat} {A : Option Addr} {L : List WOp} (h : WOpsR B w A n L) (hB : B ≤ w.heap.size) (hn : n ≤ 1048576) :
    Calls Tryz.prog 15 #[.slice A n c] w fun e w' => e = .returned (.bool (decide (n + lens (wrecs L) ≤ 3000))) ∧ Below w.heap.size w w' := by
  have hle := lens_bound (wrecs L) 1048576 (fun r hr => by obtain ⟨x, hx, rfl⟩ := List.mem_map.1 hr; exact (h.ok x hx).dl)
  have hll : (wrecs L).length = n := by rw [wrecs, List.length_map, h.len]
  have hall : lens ((wrecs L).take n) = lens (wrecs L) := by rw [← hll, List.take_length]
  have H := Lib.hid h
  obtain ⟨ls, hls⟩ : ∃ ls, ls = wrecs L := ⟨_, rfl⟩
  rw [← hls] at hle hll hall ⊢
  have Hls := Lib.hid hls
  have Hll := Lib.hid hll
  have Hall := Lib.hid hall
  have h0 : lens (ls.take 0) = 0 := by simp [lens]
  obtain ⟨R, hR⟩ : ∃ R, R = decide (n + lens ls ≤ 3000) := ⟨_, rfl⟩
  rw [← hR]
  have HR := Lib.hid hR
  clear h hll hall hls hR
  go_enter Tryz.func15, Tryz.ntmps15
  go_wp2
  go_loopw [3, 10] (fun v i wr => ∃ k : Nat, k ≤ n ∧ i = .int .i64 (k : Int) ∧ v = .int .i64 ((n + lens (ls.take k) : Nat) : Int) ∧ Below w.heap.size w wr) (fun _ i _ => n - (intOf i).toNat)
  case atStart => exact ⟨0, Nat.zero_le _, rfl, by rw [h0]; rfl, Below.refl _ _⟩
  case round =>
    obtain ⟨k, hk, rfl, rfl, hbl⟩ := hrel
    by_cases hlt : k < n
    · have hkL : k < L.length := by rw [H.out.len]; exact hlt
      have hkl : k < ls.length := by rw [Hll.out]; exact hlt
      obtain ⟨b, o, rfl, hbB, hcell⟩ := rdK_at WOp.cs_len H.out.rd hkL H.out.len (by decide)
      have hx : ls[k] = L[k].rc := by have := Hls.out; subst this; simp [wrecs]
      have hsc := lens_take ls k hkl
      have h1 := hle (k + 1)
      have h2 : 1048576 * (k + 1) ≤ 1048576 * 1048576 := Nat.mul_le_mul_left _ (by omega)
      have hcl := hcell wr (hbl.mono hB)
      rw [hx] at hsc
      obtain ⟨x, hxx⟩ : ∃ x, x = L[k] := ⟨_, rfl⟩
      rw [← hxx] at hcl hsc
      have g : ∀ j u, x.cs[j]? = some u → wr.cell? ⟨b, o + k * 7 + j, none⟩ = some u := hcl
      have g0 : wr.cell? ⟨b, o + k * 7, none⟩ = some (.int .i64 x.k) := g 0 _ rfl
      have g1 : wr.cell? ⟨b, o + k * 7 + 1, none⟩ = some (.slice x.A x.rc.length x.c) := g 1 _ rfl
      have g2 : wr.cell? ⟨b, o + k * 7 + 2, none⟩ = some (.int .i64 x.p.crash) := g 2 _ rfl
      have g3 : wr.cell? ⟨b, o + k * 7 + 3, none⟩ = some (.slice x.AK x.p.keep.length x.cK) := g 3 _ rfl
      have g4 : wr.cell? ⟨b, o + k * 7 + 4, none⟩ = some (.slice x.AF x.p.fail.length x.cF) := g 4 _ rfl
      have g5 : wr.cell? ⟨b, o + k * 7 + 5, none⟩ = some (.slice x.AU x.p.full.length x.cU) := g 5 _ rfl
      have g6 : wr.cell? ⟨b, o + k * 7 + 6, none⟩ = some (.int .i64 x.p.room) := g 6 _ rfl
      have hB1 := (Bk.new_ wr 49 x.cs.toArray).cell
      have hb1 := hbl.alloc hbl.size (.cells x.cs.toArray 49)
      unfold WOp.cs at hB1 hb1
      obtain ⟨t, ht⟩ : ∃ t, t = n + lens (ls.take k) := ⟨_, rfl⟩
      have hsc2 : n + lens (ls.take (k + 1)) = t + x.rc.length := by omega
      rw [← ht]
      have a1 : IntKind.i64.wrap ((t : Int) + (x.rc.length : Int)) = ((t + x.rc.length : Nat) : Int) := by rw [IntWalk.i64_in _ (by omega)]; omega
      have Hsc := Lib.hid hsc2
      have Hb1 := Lib.hid hb1
      clear hcell hx hsc hsc2 h1 h2 ht hxx g hcl hb1
      go_wp2
      go_roundw
      case rel => exact ⟨k + 1, by omega, by go_num, by rw [Hsc.out]; exact congrArg (Value.int .i64) (by omega), Hb1.out⟩
      case measure => simp [intOf]; omega
    · obtain rfl : k = n := by omega
      rw [Hall.out]
      have h1 := hle k
      rw [Hall.out] at h1
      have h2 : 1048576 * k ≤ 1048576 * 1048576 := Nat.mul_le_mul_left _ (by omega)
      obtain ⟨t, ht⟩ : ∃ t, t = k + lens ls := ⟨_, rfl⟩
      rw [← ht]
      have hfw : R = decide (t ≤ 3000) := by rw [ht]; exact HR.out
      clear ht
      by_cases h3 : t ≤ 3000
      · have h3' : (t : Int) ≤ 3000 := by omega
        obtain rfl : R = true := hfw.trans (decide_eq_true h3)
        clear hfw HR
        go_wp2
        go_ret
        exact ⟨rfl, hbl⟩
      · have h3' : ¬ (t : Int) ≤ 3000 := by omega
        obtain rfl : R = false := hfw.trans (decide_eq_false h3)
        clear hfw HR
        go_wp2
        go_ret
        exact ⟨rfl, hbl⟩
/-- The caller appends to a row of his own. -/
theorem LgP.grown {B lb fb : Nat} {Z Z' : Nat → Prop} {w w' : World} {name : Bs} {s : St} {l : Lg} {row : Option Nat} (h : LgP B Z w lb fb name s l) (hg : w.grownBy w' row) (hr : ∀ b, row = some b → Z b) (hZ : ∀ b, Z' b → Z b ∨ (w.heap.size ≤ b ∧ b < w'.heap.size)) : LgP B Z' w' lb fb name s l := by
  obtain ⟨K0, E0, v0, es0, hG0, hK0⟩ := h
  have hk : KbP Z w w' := KbP.of_grown hg hr
  have hbk := hG0.bk.kbP hk (fun hb => (hK0 _ hb).2.1 rfl)
  refine ⟨fun b => K0 b ∨ (w.heap.size ≤ b ∧ b < w'.heap.size), E0, v0, es0, ⟨hbk, OwnK.kbP hG0.own hk (fun g e hb => (hK0 _ hb).2.2.1 e), hG0.els.keep hk.size (fun k hk1 hk2 => hk.block k hk2 (fun hb => (hK0 _ hb).2.2.2 hk1)) (fun _ hk _ => hk),
    One.kbP (hG0.one.fresh (fun b hb => hb.imp_right (·.1))) hk (fun b hb => .inl (hK0 _ hb).1), hG0.lo, fun b hb => .inl (hG0.kb b hb), .inl hG0.kl, fun g e => .inl (hG0.kv g e), fun b hb => .inl (hG0.ke b hb), hG0.el, hG0.ev,
    fun b hb => hb.elim (fun hb => Nat.lt_of_lt_of_le (hG0.lt b hb) hk.size) (·.2)⟩, fun b hb => ?_⟩
  rcases hZ b hb with hb | hb
  · exact ⟨.inl (hK0 b hb).1, (hK0 b hb).2⟩
  · refine ⟨.inr hb, fun e => ?_, fun e => ?_, fun e => ?_⟩
    · have := hG0.bk.lt; omega
    · have := hG0.lt b (hG0.kv b e); omega
    · have := hG0.lt b (hG0.ke b e); omega
theorem LgP.less {B lb fb : Nat} {Z Z' : Nat → Prop} {w : World} {name : Bs} {s : St} {l : Lg} (h : LgP B Z w lb fb name s l) (hZ : ∀ b, Z' b → Z b) : LgP B Z' w lb fb name s l := by
  obtain ⟨K, E, v, es, hG, hK⟩ := h
  exact ⟨K, E, v, es, hG, fun b hb => hK b (hZ b hb)⟩
/-- What is there when the operations are over. -/
structure Rst (B : Nat) (w W : World) (lb fb : Nat) (name : Bs) (s : St) (all : List Bs) (sy : Nat) (va : Value) (ea : List Value) : Prop where
  fin : Fin_ name s all sy
  lg : ∃ l, LgP B (fun b => va.ownBlock = some b) W lb fb name s l
  own : Lec.Own W B 22 va ea
  els : BEls W (fun b => b < w.heap.size) ea all
  len : all.length ≤ 3000
  lens : lens all ≤ 3000
  inv : Fsy.Inv s 100000
  pl : s.pl.ok
  below : Below w.heap.size w W
  bB : w.heap.size ≤ B
  BW : B ≤ W.heap.size
/-- What lies of the caller. -/
structure Kep (B : Nat) (w W : World) (all : List Bs) (va : Value) (ea : List Value) : Prop where
  own : Lec.Own W B 22 va ea
  els : BEls W (fun b => b < w.heap.size) ea all
  len : all.length ≤ 3000
  lens : lens all ≤ 3000
  below : Below w.heap.size w W
  bB : w.heap.size ≤ B
  BW : B ≤ W.heap.size
theorem Kep.kbP {B : Nat} {w W W' : World} {all : List Bs} {va : Value} {ea : List Value} {X : Nat → Prop} (h : Kep B w W all va ea) (hk : KbP X W W') (hX : ∀ b, X b → B ≤ b ∧ va.ownBlock ≠ some b) : Kep B w W' all va ea :=
  ⟨OwnK.kbP h.own hk (fun g e hb => (hX g hb).2 e), h.els.keep hk.size (fun k hk1 hk2 => hk.block k hk2 (fun hb => by have := (hX k hb).1; have := h.bB; have hk1' : k < w.heap.size := hk1; omega)) (fun _ hk _ => hk), h.len, h.lens,
    h.below.trans (hk.below (B := w.heap.size) (fun b hb => Nat.le_trans h.bB (hX b hb).1) h.below.size), h.bB, Nat.le_trans h.BW hk.size⟩
theorem Kep.short {B : Nat} {w W : World} {all : List Bs} {va : Value} {ea : List Value} (h : Kep B w W all va ea) : ∀ r ∈ all, r.length ≤ 3000 := fun r hr => Nat.le_trans (lens_mem hr) h.lens
/-- Behind the start. -/
structure Rs2 (B : Nat) (w W : World) (fb : Nat) (name : Bs) (t : St) (all : List Bs) (sy : Nat) (va : Value) (ea : List Value) : Prop where
  kep : Kep B w W all va ea
  one : ∃ K, One B K W fb t ∧ (∀ b, b < B → K b) ∧ (∀ b, va.ownBlock = some b → K b) ∧ ∀ b, K b → b < W.heap.size
  ok : (lgOpen t name).2 = 0
  lo : sy ≤ (lgOf t name).recs.length
  hi : (lgOf t name).recs <+: all
  dat : (lgData t name).length ≤ 1000000
  inv : Fsy.Inv t 100000
  pl : t.pl.ok
theorem rst_start {B lb fb sy : Nat} {w W : World} {name : Bs} {s : St} {all : List Bs} {va : Value} {ea : List Value} (h : Rst B w W lb fb name s all sy va ea) :
    Calls Tryz.prog 17 #[ptrV fb, .agg #[.int .i64 0, .slice none 0 0, .slice none 0 0, .slice none 0 0, .int .i64 0]] W fun e W' => e = .returned (.int .i64 0) ∧ Rs2 B w W' fb name (Fsy.start s ⟨0, [], [], [], 0⟩) all sy va ea := by
  obtain ⟨l, K, E, v, es, hG, hZ⟩ := h.lg
  have hk : Kep B w W all va ea := ⟨h.own, h.els, h.len, h.lens, h.below, h.bB, h.BW⟩
  have hP : PlOk (fun b => b < B) W ⟨0, [], [], [], 0⟩ none 0 none 0 none 0 := ⟨RdP.nil_, RdP.nil_, RdP.nil_, Nat.le_refl _, Nat.le_refl _, Nat.le_refl _⟩
  have hpo : (⟨0, [], [], [], 0⟩ : Pl).ok := ⟨by decide, by decide, by decide, (fun x hx => by cases hx), by decide, by decide⟩
  refine (o_Start hG.one hG.B_le hG.lt h.inv (by omega) h.pl hP hpo).mono fun e W' hO => ⟨hO.e, ?_⟩
  obtain ⟨h1, h2, h3, h4⟩ := dur_law h.fin (fun r hr => Nat.le_trans (hk.short r hr) (by decide)) _ rfl
  have hfl := framesF_len all []
  have h5 := h.len
  have h6 := h.lens
  simp only [List.length_nil] at hfl
  exact ⟨hk.kbP hO.kb (fun b hb => ⟨Nat.le_of_not_lt (fun hlt => hb (hG.kb b hlt)), fun e => hb (hZ b e).1⟩), ⟨K, hO.one, hG.kb, fun b e => (hZ b e).1, fun b hb => Nat.lt_of_lt_of_le (hG.lt b hb) hO.kb.size⟩, h1, h2, h3, by omega, h.inv.start _, hpo⟩
/-- Behind the opening. -/
structure Rs3 (B : Nat) (w W : World) (lb : Nat) (recs all : List Bs) (sy : Nat) (va : Value) (ea : List Value) : Prop where
  kep : Kep B w W all va ea
  rd : LgRd W.heap.size W lb recs
  lo : sy ≤ recs.length
  hi : recs <+: all
theorem rs2_open {B fb sy : Nat} {w W : World} {name : Bs} {t : St} {all : List Bs} {va : Value} {ea : List Value} (h : Rs2 B w W fb name t all sy va ea) (hn : name.length ≤ 4294967296) :
    Calls Tryz.prog 14 #[ptrV fb, .string ⟨name.toArray⟩] W fun e W' => ∃ lb recs, e = .returned (.tuple #[ptrV lb, .int .i64 0]) ∧ Rs3 B w W' lb recs all sy va ea := by
  obtain ⟨K, hO, hK1, hK2, hK3⟩ := h.one
  refine (l_Open W hO h.kep.BW hK3 hK1 h.inv (by omega) h.pl hn h.dat).mono fun e W' hM => ?_
  obtain ⟨h1, h2, h3⟩ := hM
  rcases h1 with ⟨_, lb, he, hL⟩ | ⟨h0, _⟩
  · have hl := h.hi.length_le
    have hs := h.kep.len
    refine ⟨lb, (lgOf t name).recs, he, h.kep.kbP h3 (fun b hb => ⟨Nat.le_of_not_lt (fun hlt => hb (hK1 b hlt)), fun e => hb (hK2 b e)⟩), hL.rd (by omega) (fun r hr => Nat.le_trans (h.kep.short r (h.hi.subset hr)) (by decide)), h.lo, h.hi⟩
  · exact absurd h.ok h0
/-- Behind the reading. -/
structure Rs4 (B : Nat) (w W : World) (A : Option Addr) (m : Nat) (all : List Bs) (sy : Nat) (va : Value) (ea : List Value) : Prop where
  kep : Kep B w W all va ea
  rd : Rws W W.heap.size A m (all.take m)
  lo : sy ≤ m
  hi : m ≤ all.length
theorem rs3_records {B lb sy : Nat} {w W : World} {recs all : List Bs} {va : Value} {ea : List Value} (h : Rs3 B w W lb recs all sy va ea) :
    Calls Tryz.prog 8 #[ptrV lb] W fun e W' => ∃ A m c, e = .returned (.slice A m c) ∧ m ≤ c ∧ Rs4 B w W' A m all sy va ea := by
  have hl := h.hi.length_le
  have hs := h.kep.len
  refine (l_Records W h.rd (by omega)).mono fun e W' hM => ?_
  obtain ⟨A, c, he, hc, hr, hb⟩ := hM
  refine ⟨A, recs.length, c, he, hc, h.kep.kbP (X := fun _ => False) (KbP.of_below hb) (fun _ h => h.elim), ?_, h.lo, hl⟩
  rw [← List.prefix_iff_eq_take.1 h.hi]
  exact hr
theorem rs4_same {B m sy c0 c : Nat} {w W : World} {A A0 : Option Addr} {all : List Bs} {ea : List Value} (h : Rs4 B w W A m all sy (.slice A0 all.length c0) ea) :
    Calls Tryz.prog 18 #[.slice A m c, .slice A0 m c0] W fun e W' => e = .returned (.bool true) ∧ Below w.heap.size w W' := by
  have hs := h.kep.len
  have hhi := h.hi
  have hr : Rws W W.heap.size A0 m (all.take m) := by
    refine ⟨ea.take m, (h.kep.own.rd).take_ hhi, by rw [List.length_take, List.length_take, h.kep.els.1], fun i u l e1 e2 => ?_⟩
    rw [List.getElem?_take] at e1 e2
    split at e1
    · rename_i hi
      rw [if_pos hi] at e2
      obtain ⟨A', c', e, hc', hr, _⟩ := h.kep.els.2 i u l e1 e2
      exact ⟨A', c', e, hc', hr⟩
    · cases e1
  refine (c_same W h.rd (Nat.le_refl _) hr (Nat.le_refl _) (by omega)).mono fun e W' ⟨he, hb⟩ => ⟨?_, h.kep.below.trans (hb.mono h.kep.below.size)⟩
  rw [he]
  simp
/-- A record more, in the caller's row. -/
theorem wd_push {B lb fb bx : Nat} {w W1 w5 w6 : World} {nm rc : Bs} {all : List Bs} {r : (St × Int) × Lg} {e : Ending} {v v6 : Value} {ea : List Value} {A : Option Addr} {c : Nat} (hbB : w.heap.size ≤ B) (h5 : LgR B (fun b => v.ownBlock = some b ∨ b = bx) W1 lb fb nm r e w5)
    (hE1 : BEls W1 (fun b => b < w.heap.size) ea all) (hr : Rd W1 w.heap.size A rc.length (bcs rc)) (hc : rc.length ≤ c) (hb6 : Below B w5 w6) (hg6 : w5.grownBy w6 v.ownBlock) (ho6 : OwnK w6 B 22 1 v6 (ea.length + 1) (ea ++ [.slice A rc.length c]))
    (hat6 : v6.ownBlock = v.ownBlock ∨ ∃ g, v6.ownBlock = some g ∧ w5.heap.size ≤ g) (hbl1 : Below w.heap.size w W1) :
    Below w.heap.size w w6 ∧ BEls w6 (fun b => b < w.heap.size) (ea ++ [.slice A rc.length c]) (all ++ [rc]) ∧ Lec.Own w6 B 22 v6 (ea ++ [.slice A rc.length c]) ∧ LgP B (fun b => v6.ownBlock = some b) w6 lb fb nm r.1.1 r.2 := by
  have hb : Below B W1 w6 := h5.below.trans hb6
  have hbl : Below w.heap.size w w6 := hbl1.trans (hb.mono hbB)
  refine ⟨hbl, ?_, ?_, ?_⟩
  · refine (hE1.keep (X' := fun b => b < w.heap.size) hb.size (fun q hq _ => hb.block q (Nat.lt_of_lt_of_le hq hbB)) (fun _ h _ => h)).snoc ⟨A, c, rfl, hc, (hr.below hb hbB).more hbl.size, fun hn a e => ?_⟩
    obtain ⟨b', o', e', hb', _⟩ := hr.2 hn
    rw [e] at e'; cases e'; exact hb'
  · show w6.ownsRow _ _ _ _ (List.length _) _
    rw [List.length_append, List.length_singleton]
    exact ho6
  · refine (h5.lg.less (Z' := fun b => v.ownBlock = some b) (fun b hb => .inl hb)).grown hg6 (fun b hb => hb) (fun b hb => ?_)
    rcases hat6 with e | ⟨g, e, hg⟩
    · left; rw [← e]; exact hb
    · rw [hb] at e; cases e
      exact .inr ⟨hg, (World.ownsRow.lt ho6 b hb).2⟩
set_option maxRecDepth 100000 in
set_option maxHeartbeats 4000000 in
theorem w_WalDurable (w : World) {n c cq : Nat} {p : Pl} {AK AF AU A AQ : Option Addr} {cK cF cU : Nat} {L : List WOp} {q : List Int} (hP : PlOk (fun b => b < w.heap.size) w p AK cK AF cF AU cU) (hpo : p.ok) (h : WOpsR w.heap.size w A n L) (hn : n ≤ 1048576)
    (hQ : RdP (fun b => b < w.heap.size) w AQ q.length (ics q)) (hqc : q.length ≤ cq) (hql : q.length ≤ 1048576) (hqr : ∀ x ∈ q, -9223372036854775808 ≤ x ∧ x ≤ 9223372036854775807) :
    Calls Tryz.prog 4 #[plV p AK cK AF cF AU cU, .slice A n c, .slice AQ q.length cq] w fun e w' => e = .returned (.bool true) ∧ Below w.heap.size w w' := by
  have hb0 := (Below.refl w.heap.size w).alloc (Nat.le_refl _) (.cells (plCs p AK cK AF cF AU cU) 44)
  have N1 := Bk.new_ w 44 (plCs p AK cK AF cF AU cU)
  obtain ⟨w0, hw0⟩ : ∃ x, x = w.alloc (.cells (plCs p AK cK AF cF AU cU) 44) := ⟨_, rfl⟩
  rw [← hw0] at hb0 N1
  have Hw0 := Lib.hid hw0
  have hz0 := hb0.size
  have HFi := Lib.hid (fun (W : World) (hb : Below w.heap.size w W) => c_wfits W (c := c) (h.below hb (Nat.le_refl _)) hb.size hn)
  clear hw0
  cases hfw : decide (n + lens (wrecs L) ≤ 3000) with
  | false =>
    rw [hfw] at HFi
    unfold plV plCs at *
    clear hfw hP h hQ
    go_enter Tryz.func4, Tryz.ntmps4
    go_wp2_with (first
      | (rw [← Hw0.out]; go_at_call 5; refine (c_awake _).mono ?_; rintro e wA ⟨rfl, hbA⟩; have bA := hb0.trans (hbA.mono hz0))
      | (go_at_call 15; refine (HFi.out wA bA).mono ?_; rintro e wF ⟨rfl, hbF⟩; have bF := bA.trans (hbF.mono bA.size)))
    go_ret
    exact ⟨rfl, bF⟩
  | true =>
    rw [hfw] at HFi
    have hle := of_decide_eq_true hfw
    clear hfw
    by_cases hq : q.length ≤ 100
    · have hq' : (q.length : Int) ≤ 100 := by omega
      have hpo' : (⟨p.crash, q, p.fail, p.full, p.room⟩ : Pl).ok := ⟨Nat.le_trans hql (by decide), hpo.2.1, hpo.2.2.1, hqr, hpo.2.2.2.2⟩
      have HN := Lib.hid (fun (W : World) (hb : Below w.heap.size w W) => c_FsNew W (I := fun b => b < w.heap.size) (p := ⟨p.crash, q, p.fail, p.full, p.room⟩) (AK := AQ) (AF := AF) (AU := AU) (cK := cq) (cF := cF) (cU := cU)
        (show PlOk _ _ _ _ _ _ _ _ _ from (⟨hQ, hP.rf, hP.ru, hqc, hP.nf, hP.nu⟩ : PlOk (fun b => b < w.heap.size) w ⟨p.crash, q, p.fail, p.full, p.room⟩ AQ cq AF cF AU cU).kbP (KbP.of_below hb : KbP (fun _ => False) w W) (fun _ _ h => h)) hpo'.1 hpo'.2.1 hpo'.2.2.1)
      have hcrI := lgCreate_inv (Inv.new ⟨p.crash, q, p.fail, p.full, p.room⟩) [76]
      have hcrP := lgCreate_pl (new ⟨p.crash, q, p.fail, p.full, p.room⟩) [76]
      have HCr := Lib.hid (fun (W : World) (B fb : Nat) (hO : One B (fun b => b < B) W fb (new ⟨p.crash, q, p.fail, p.full, p.room⟩)) (hB : B ≤ W.heap.size) => l_Create W (name := [76]) hO hB (fun b hb => Nat.lt_of_lt_of_le hb hB) (fun b h => h) (Inv.new _) (by omega) hpo' (by decide))
      by_cases hcr : (lgCreate (new ⟨p.crash, q, p.fail, p.full, p.room⟩) [76]).2 = 0
      · have hdc := dur_create hcr
        have HW := Lib.hid h
        have Hle := Lib.hid hle
        have HQb := Lib.hid hb0
        obtain ⟨rc, hrc⟩ : ∃ r, r = lgCreate (new ⟨p.crash, q, p.fail, p.full, p.room⟩) [76] := ⟨_, rfl⟩
        rw [← hrc] at HCr hcr hdc hcrI hcrP
        obtain ⟨np, hnp⟩ : ∃ r, r = new ⟨p.crash, q, p.fail, p.full, p.room⟩ := ⟨_, rfl⟩
        rw [← hnp] at HCr HN hcrP
        have hrp : rc.1.pl.ok := by rw [hcrP, hnp]; exact hpo'
        have Hdc := Lib.hid hdc
        have HcI := Lib.hid hcrI
        have Hrp := Lib.hid hrp
        unfold plV plCs LgMade ptrV at *
        clear hP h hQ hrc hnp hcrP hpo' hdc hcrI hrp hle
        have hcb : (rc.2 == 0) = true := by simpa using hcr
        replace HCr := Lib.hid (fun (W : World) (B fb : Nat) hO hB => (HCr.out W B fb hO hB).mono (fun e W' h => show (∃ lb, e = .returned (.tuple #[.pointer (some ⟨lb, 0, none⟩), .int .i64 0]) ∧ LgP B (fun b => b < B) W' lb fb [76] rc.1 ⟨[], 0, false⟩) ∧ _ from ⟨h.1.elim (fun h => h.2) (fun h => absurd hcr h.1), h.2⟩))
        go_enter Tryz.func4, Tryz.ntmps4
        go_wp2_with (first
          | (rw [← Hw0.out]; go_at_call 5; refine (c_awake _).mono ?_; rintro e wA ⟨rfl, hbA⟩; have bA := hb0.trans (hbA.mono hz0))
          | (go_at_call 15; refine (HFi.out wA bA).mono ?_; rintro e wF ⟨rfl, hbF⟩; have bF := bA.trans (hbF.mono bA.size)
             have NF := N1.below (hbA.trans (hbF.mono hbA.size)) N1.lt
             have qF := NF.cell
             have zF := NF.frz
             have qS := (NF.set_ 1 (.slice AQ q.length cq)).cell
             have bS := bF.setCell (p := ⟨w.heap.size, 1, none⟩) (Nat.le_refl _) (.slice AQ q.length cq)
             have HNs := Lib.hid (HN.out _ bS))
          | (go_at_call 16; (with_reducible refine HNs.out.mono ?_); intro e wN hN
             obtain ⟨fb, rfl, hON, hbN⟩ := NewP.one hN (K := fun b => b < (wF.setCell ⟨w.heap.size, 1, none⟩ (.slice AQ q.length cq)).heap.size) (fun b h => h)
             unfold ptrV
             have bN := bS.trans (hbN.mono bS.size)
             have bB := bS.size
             have HCs := Lib.hid (HCr.out _ _ fb hON hbN.size))
          | (go_at_call 13; (with_reducible refine HCs.out.mono ?_); rintro e wC ⟨⟨lb, rfl, hL⟩, hbC, hkC⟩
             have bC := bN.trans (hbC.mono bB)))
        have hbB := hbN.size
        obtain ⟨B, hB⟩ : ∃ x, x = (wF.setCell ⟨w.heap.size, 1, none⟩ (.slice AQ q.length cq)).heap.size := ⟨_, rfl⟩
        rw [← hB] at hL hbC hkC bB hbB
        have hBC := Nat.le_trans hbB hkC.size
        clear hON hbN HCs HNs qS bS qF zF NF hB hN N1 hb0 Hw0 hz0 HFi HN HCr hbA bA hbF bF bN hbB HQb
        have hL0 : LgP B (fun b => (Value.slice none 0 0).ownBlock = some b) wC lb fb [76] rc.1 ⟨[], 0, false⟩ := by
          obtain ⟨K, E, v, es, hG, _⟩ := hL
          exact ⟨K, E, v, es, hG, fun b hb => by cases hb⟩
        clear hL
        go_loopw [10, 11, 41] (fun va sv i wr => ∃ (k sy : Nat) (s : St) (all : List Bs) (ea : List Value), k ≤ n ∧ i = .int .i64 (k : Int) ∧ sv = .int .i64 (sy : Int) ∧ Dur [76] s all sy ∧ LgP B (fun b => va.ownBlock = some b) wr lb fb [76] s ⟨all, (framesF [] all).length, false⟩ ∧
          Lec.Own wr B 22 va ea ∧ BEls wr (fun b => b < w.heap.size) ea all ∧ all.length ≤ k ∧ lens all ≤ lens ((wrecs L).take k) ∧ Fsy.Inv s (5 + 3 * k) ∧ s.pl.ok ∧ Below w.heap.size w wr ∧ B ≤ wr.heap.size) (fun _ _ i _ => n - (intOf i).toNat)
        case atStart => exact ⟨0, 0, rc.1, [], [], Nat.zero_le _, rfl, rfl, Hdc.out, hL0, Lec.Own.nil_ _ _ _, BEls.nil _ _, Nat.le_refl _, by simp [lens], HcI.out, Hrp.out, bC, hBC⟩
        case round =>
          clear hL0 hBC bC hbC hkC
          obtain ⟨k, sy, s, all, ea, hk, rfl, rfl, hD, hLg, hO, hE, hal, hln, hI, hpl, hbl, hBr⟩ := hrel
          obtain ⟨A0, c0, rfl, hc0⟩ := hO.shape
          have hel := hE.1
          have hkn : n ≤ 3000 := by have := Hle.out; omega
          have hlr : lens ((wrecs L).take k) ≤ lens (wrecs L) := lens_le _ _
          have hl3 : lens all ≤ 3000 := by have := Hle.out; omega
          rw [hel] at hc0 hO ⊢
          rw [hel] at hLg
          by_cases hlt : k < n
          · have hkL : k < L.length := by rw [HW.out.len]; exact hlt
            have hkl : k < (wrecs L).length := by rw [wrecs, List.length_map]; exact hkL
            have hxr : (wrecs L)[k] = L[k].rc := by simp [wrecs]
            have hsc := lens_take (wrecs L) k hkl
            have hlr2 : lens ((wrecs L).take (k + 1)) ≤ lens (wrecs L) := lens_le _ _
            have hok := (HW.out.ok _ (List.getElem_mem hkL))
            obtain ⟨b, o, rfl, hbB, hcell⟩ := rdK_at WOp.cs_len HW.out.rd hkL HW.out.len (by decide)
            have hcl := hcell wr hbl
            rw [hxr] at hsc
            obtain ⟨x, hxx⟩ : ∃ x, x = L[k] := ⟨_, rfl⟩
            rw [← hxx] at hcl hsc hok
            have g : ∀ j u, x.cs[j]? = some u → wr.cell? ⟨b, o + k * 7 + j, none⟩ = some u := hcl
            have g0 : wr.cell? ⟨b, o + k * 7, none⟩ = some (.int .i64 x.k) := g 0 _ rfl
            have g1 : wr.cell? ⟨b, o + k * 7 + 1, none⟩ = some (.slice x.A x.rc.length x.c) := g 1 _ rfl
            have g2 : wr.cell? ⟨b, o + k * 7 + 2, none⟩ = some (.int .i64 x.p.crash) := g 2 _ rfl
            have g3 : wr.cell? ⟨b, o + k * 7 + 3, none⟩ = some (.slice x.AK x.p.keep.length x.cK) := g 3 _ rfl
            have g4 : wr.cell? ⟨b, o + k * 7 + 4, none⟩ = some (.slice x.AF x.p.fail.length x.cF) := g 4 _ rfl
            have g5 : wr.cell? ⟨b, o + k * 7 + 5, none⟩ = some (.slice x.AU x.p.full.length x.cU) := g 5 _ rfl
            have g6 : wr.cell? ⟨b, o + k * 7 + 6, none⟩ = some (.int .i64 x.p.room) := g 6 _ rfl
            have hrl : x.rc.length ≤ 3000 := by have := Hle.out; omega
            have hBk := Bk.new_ wr 49 x.cs.toArray
            have hB1 := hBk.cell
            have hb1 := (Below.refl wr.heap.size wr).alloc (Nat.le_refl _) (.cells x.cs.toArray 49)
            have hLg1 := hLg.fresh hb1 (Z' := fun b => (Value.slice A0 all.length c0).ownBlock = some b ∨ b = wr.heap.size) (fun b hb => hb.imp_right (fun e => by simp; omega))
            have hO1 := hO.below hb1 (Nat.le_refl _)
            have hE1 := hE.keep hb1.size (fun q _ hq => hb1.block q hq) (fun _ h _ => h)
            have hbl1 := hbl.trans (hb1.mono hbl.size)
            have hB1s := Nat.le_trans hBr hb1.size
            have hok1 := hok.below hbl1 (Nat.le_refl _)
            obtain ⟨W1, hW1⟩ : ∃ W, W = wr.alloc (.cells x.cs.toArray 49) := ⟨_, rfl⟩
            rw [← hW1] at hB1 hBk hLg1 hO1 hE1 hbl1 hB1s hok1
            have hzr : W1.heap.size = wr.heap.size + 1 := by rw [hW1]; simp
            have HW1 := Lib.hid hW1
            clear hW1 hcell hxx g hcl hxr hLg hO hE hb1 hbl hBr hok
            unfold WOp.cs at hB1 hBk HW1
            have hI1 : Fsy.Inv s 20000 := hI.more (by omega)
            by_cases hk2 : (2 : Int) ≤ x.k
            · have HSy := Lib.hid (l_Sync W1 hLg1 hI1 (by omega) hpl (by decide))
              obtain ⟨hd1, hd2⟩ := dur_sync hD
              have hIs := hI.sync [76]
              have hps : (sync s [76]).1.pl.ok := by rw [sync_pl]; exact hpl
              have hls : lgSync s [76] ⟨all, (framesF [] all).length, false⟩ = (sync s [76], ⟨all, (framesF [] all).length, false || decide ((sync s [76]).2 ≠ 0)⟩) := rfl
              rw [hls] at HSy
              obtain ⟨r, hr⟩ : ∃ r, r = sync s [76] := ⟨_, rfl⟩
              rw [← hr] at HSy hd1 hd2 hIs hps
              obtain ⟨ff, hff⟩ : ∃ x, x = (framesF [] all).length := ⟨_, rfl⟩
              rw [← hff] at HSy
              have Hff := Lib.hid hff
              have Hd1 := Lib.hid hd1
              have Hd2 := Lib.hid hd2
              have HIs := Lib.hid hIs
              clear hr hff hls hd1 hd2 hIs hD hI hI1
              unfold ptrV at HSy
              by_cases hr0 : r.2 = 0
              · have hrb : (r.2 == 0) = true := by simpa using hr0
                have hrd : (false || decide (r.2 ≠ 0)) = false := by simp [hr0]
                rw [hrd] at HSy
                go_wp2_with (first | (rw [← HW1.out]; go_at_call 7; (with_reducible refine HSy.out.mono ?_); rintro e w5 h5; obtain rfl := h5.e))
                have h5b := h5.below
                refine ⟨⟨k + 1, all.length, r.1, all, ea, by omega, by go_num, rfl, Hd1.out hr0, by rw [← Hff.out]; exact h5.lg.less (fun b hb => .inl hb), OwnK.kbP hO1 h5.kb (fun g e hg => hg (.inl e)),
                  hE1.keep h5b.size (fun q hq _ => h5b.block q (Nat.lt_of_lt_of_le hq bB)) (fun _ h _ => h), by omega, by omega, HIs.out.more (by omega), hps, hbl1.trans (h5b.mono bB), Nat.le_trans hB1s h5b.size⟩, by simp [intOf]; omega⟩
              · have hrb : (r.2 == 0) = false := by rw [beq_eq_false_iff_ne]; exact hr0
                have hrd : (false || decide (r.2 ≠ 0)) = true := by simp [hr0]
                rw [hrd] at HSy
                go_wp2_with (first
                  | (rw [← HW1.out]; go_at_call 7; (with_reducible refine HSy.out.mono ?_); rintro e w5 h5; obtain rfl := h5.e; have h5b := h5.below; have HS := Lib.hid (rst_start (B := B) (w := w) (W := w5) (lb := lb) (fb := fb) (name := [76]) (s := r.1) (all := all) (sy := sy) (va := .slice A0 all.length c0) (ea := ea) ⟨Hd2.out, ⟨_, h5.lg.less (fun b hb => .inl hb)⟩, OwnK.kbP hO1 h5.kb (fun g e hg => hg (.inl e)), hE1.keep h5b.size (fun q hq _ => h5b.block q (Nat.lt_of_lt_of_le hq bB)) (fun _ h _ => h), by omega, hl3, HIs.out.more (by omega), hps, hbl1.trans (h5b.mono bB), bB, Nat.le_trans hB1s h5b.size⟩); unfold ptrV at HS)
                  | (go_at_call 17; (with_reducible refine HS.out.mono ?_); rintro e w1 ⟨rfl, h1⟩; have HOp := Lib.hid (rs2_open h1 (by decide)); unfold ptrV at HOp)
                  | (go_at_call 14; (with_reducible refine HOp.out.mono ?_); rintro e w2 ⟨lb2, recs, rfl, h2⟩; have HRc := Lib.hid (rs3_records h2); unfold ptrV at HRc)
                  | (go_at_call 8; (with_reducible refine HRc.out.mono ?_); rintro e w3 ⟨A3, m, c3, rfl, hc3, h3⟩
                     have g1 : ¬ (m : Int) < (sy : Int) := by have := h3.lo; omega
                     have g2 : (m : Int) ≤ (all.length : Int) := by have := h3.hi; omega
                     have g3 : (0 : Int) ≤ (m : Int) := by omega
                     have g4 : (m : Int) ≤ (c0 : Int) := by have := h3.hi; omega
                     have HSm := Lib.hid (rs4_same (c := c3) h3))
                  | (go_at_call 18; (with_reducible refine HSm.out.mono ?_); rintro e w4 ⟨rfl, hb4⟩))
                go_ret
                exact ⟨rfl, hb4⟩
            · have hk2' : x.k < 2 := by omega
              have hfl := framesF_len all []
              have hfl2 := framesF_len (all ++ [x.rc]) []
              have hfs : framesF [] (all ++ [x.rc]) = framesF [] all ++ lgBytes ⟨all, (framesF [] all).length, false⟩ x.rc := framesF_snoc all [] x.rc
              have hll : lens (all ++ [x.rc]) = lens all + x.rc.length := by simp [lens]
              rw [List.length_nil] at hfl hfl2
              have hgl : (lgBytes ⟨all, (framesF [] all).length, false⟩ x.rc).length ≤ 1099511627776 := by
                have := congrArg List.length hfs
                rw [List.length_append] at this
                rw [List.length_append, List.length_singleton] at hfl2
                omega
              have HAp := fun (b : Bool) => l_Append W1 (sy := b) hLg1 rfl hI1 (by omega) hpl (by decide) ((hok1.d).more bB) hok1.dc (by omega) (by show (framesF [] all).length ≤ _; omega) hgl (by show all.length ≤ _; omega)
              have hda := fun (b : Bool) => dur_append (sy := b) hD hok1.dl
              have hia := fun (b : Bool) => lgAppend_inv hI [76] ⟨all, (framesF [] all).length, false⟩ x.rc b rfl
              have hpa := fun (b : Bool) => lgAppend_pl s [76] ⟨all, (framesF [] all).length, false⟩ x.rc b rfl
              have hna := fun (b : Bool) => lgAppend_small s [76] ⟨all, (framesF [] all).length, false⟩ x.rc b rfl hok1.dl
              obtain ⟨sb, hsb⟩ : ∃ b : Bool, b = (x.k == 1) := ⟨_, rfl⟩
              have HA := HAp sb
              have hd := hda sb
              have hi := hia sb
              have hp := hpa sb
              have hn171 := hna sb
              simp only at hd
              obtain ⟨r, hr⟩ : ∃ r, r = lgAppend s [76] ⟨all, (framesF [] all).length, false⟩ x.rc sb := ⟨_, rfl⟩
              rw [← hr] at HA hd hi hp hn171
              have hps : r.1.1.pl.ok := by rw [hp]; exact hpl
              obtain ⟨al2, hal2⟩ : ∃ a, a = all ++ [x.rc] := ⟨_, rfl⟩
              rw [← hal2] at hd hll
              have hl2 : al2.length = all.length + 1 := by rw [hal2, List.length_append, List.length_singleton]
              have Hl2 := Lib.hid hl2
              have Hal2 := Lib.hid hal2
              have Hd := Lib.hid hd
              have HI := Lib.hid hi
              have HA' := Lib.hid HA
              have Hll := Lib.hid hll
              have n171 : (r.1.2 == 171) = false := by rw [beq_eq_false_iff_ne]; exact hn171
              have Hel := Lib.hid hel
              have Hok := Lib.hid hok1
              have hlen : ea.length ≤ 3000 := by omega
              clear hfl hfl2 hfs hgl HAp hda hia hpa hna HA hd hi hp hn171 hD hr hal2 hl2 hll hI hI1 hel hok1 hLg1
              obtain ⟨kb, hkb⟩ : ∃ b : Bool, b = (x.k == 1) := ⟨_, rfl⟩
              rw [← hkb] at hsb
              by_cases hr0 : r.1.2 = 0
              · have hrb : (r.1.2 == 0) = true := by simpa using hr0
                cases kb with
                | true =>
                  have hk1b : (x.k == 1) = true := hkb.symm
                  subst hsb
                  clear hkb
                  unfold ptrV at HA'
                  go_wp2_with (first
                    | (rw [← HW1.out]; go_at_call 6; (with_reducible refine HA'.out.mono ?_); rintro e w5 h5; obtain rfl := h5.e; have h5b := h5.below; have hBk5 := hBk.kbP h5.kb (fun hn => hn (.inr rfl)); have hB5 := hBk5.cell; have hO5 := OwnK.kbP hO1 h5.kb (fun g e hg => hg (.inl e)))
                    | (at_builtin; go_loud (refine wpList_appK_new (v := .slice A0 all.length c0) (news := [.slice x.A x.rc.length x.c]) (n := ea.length) rfl (.tmp 62) (.tmp 65) rfl slrw (by decide) rfl hO5 (Below.refl B w5) (Nat.le_trans hB1s h5b.size) rfl rfl (by intro u hu; rw [List.mem_singleton] at hu; subst hu; rfl) (by omega) ?_); intro v6 w6 ho6 hb6 hg6 hat6 hbs6; obtain ⟨A6, c6, rfl, hc6⟩ := ho6.shape; have hBk6 := bkGrown hBk5 hg6 (own_bkK hO5 hBk5 (by decide)); have hB6 := hBk6.cell; have he2 : ea.length + 1 = al2.length := (by rw [Hl2.out, Hel.out]); rw [he2] at ho6 hc6 hat6 ⊢))
                  obtain ⟨hbl6, hE6, hO6, hL6⟩ := wd_push bB h5 hE1 Hok.out.d Hok.out.dc hb6 hg6 (by rw [he2]; exact ho6) hat6 hbl1
                  rw [← Hal2.out] at hE6
                  obtain ⟨hd1, hd2⟩ := Hd.out.1 hr0
                  rw [hd2] at hL6
                  refine ⟨⟨k + 1, al2.length, r.1.1, al2, _, by omega, by go_num, rfl, by simpa using hd1, hL6, hO6, hE6, by rw [Hl2.out]; omega, by rw [Hll.out, hsc]; omega, HI.out.more (by omega), hps, hbl6, hbs6⟩, by simp [intOf]; omega⟩
                | false =>
                  have hk1b : (x.k == 1) = false := hkb.symm
                  subst hsb
                  clear hkb
                  unfold ptrV at HA'
                  go_wp2_with (first
                    | (rw [← HW1.out]; go_at_call 6; (with_reducible refine HA'.out.mono ?_); rintro e w5 h5; obtain rfl := h5.e; have h5b := h5.below; have hBk5 := hBk.kbP h5.kb (fun hn => hn (.inr rfl)); have hB5 := hBk5.cell; have hO5 := OwnK.kbP hO1 h5.kb (fun g e hg => hg (.inl e)))
                    | (at_builtin; go_loud (refine wpList_appK_new (v := .slice A0 all.length c0) (news := [.slice x.A x.rc.length x.c]) (n := ea.length) rfl (.tmp 62) (.tmp 65) rfl slrw (by decide) rfl hO5 (Below.refl B w5) (Nat.le_trans hB1s h5b.size) rfl rfl (by intro u hu; rw [List.mem_singleton] at hu; subst hu; rfl) (by omega) ?_); intro v6 w6 ho6 hb6 hg6 hat6 hbs6; obtain ⟨A6, c6, rfl, hc6⟩ := ho6.shape; have hBk6 := bkGrown hBk5 hg6 (own_bkK hO5 hBk5 (by decide)); have hB6 := hBk6.cell; have he2 : ea.length + 1 = al2.length := (by rw [Hl2.out, Hel.out]); rw [he2] at ho6 hc6 hat6 ⊢))
                  obtain ⟨hbl6, hE6, hO6, hL6⟩ := wd_push bB h5 hE1 Hok.out.d Hok.out.dc hb6 hg6 (by rw [he2]; exact ho6) hat6 hbl1
                  rw [← Hal2.out] at hE6
                  obtain ⟨hd1, hd2⟩ := Hd.out.1 hr0
                  rw [hd2] at hL6
                  refine ⟨⟨k + 1, sy, r.1.1, al2, _, by omega, by go_num, rfl, by simpa using hd1, hL6, hO6, hE6, by rw [Hl2.out]; omega, by rw [Hll.out, hsc]; omega, HI.out.more (by omega), hps, hbl6, hbs6⟩, by simp [intOf]; omega⟩
              · have hrb : (r.1.2 == 0) = false := by rw [beq_eq_false_iff_ne]; exact hr0
                have hk1b : (x.k == 1) = kb := hkb.symm
                subst hsb
                clear hkb
                unfold ptrV at HA'
                have HRS := Lib.hid (show ∀ (w5 w6 : World) (A6 : Option Addr) (c6 : Nat), LgR B (fun b => (Value.slice A0 all.length c0).ownBlock = some b ∨ b = wr.heap.size) W1 lb fb [76] r (.returned (.int .i64 r.1.2)) w5 → Below B w5 w6 → w5.grownBy w6 (Value.slice A0 all.length c0).ownBlock → OwnK w6 B 22 1 (.slice A6 al2.length c6) al2.length (ea ++ [.slice x.A x.rc.length x.c]) →
                    ((Value.slice A6 al2.length c6).ownBlock = (Value.slice A0 all.length c0).ownBlock ∨ ∃ g, (Value.slice A6 al2.length c6).ownBlock = some g ∧ w5.heap.size ≤ g) → ea.length + 1 = al2.length → B ≤ w6.heap.size → _ from fun w5 w6 A6 c6 h5 hb6 hg6 ho6 hat6 he2 hbs6 => by
                  have h5b := h5.below
                  obtain ⟨hbl6, hE6, hO6, hL6⟩ := wd_push bB h5 hE1 Hok.out.d Hok.out.dc hb6 hg6 (by rw [he2]; exact ho6) hat6 hbl1
                  rw [← Hal2.out] at hE6
                  exact rst_start (B := B) (w := w) (W := w6) (lb := lb) (fb := fb) (name := [76]) (s := r.1.1) (all := al2) (sy := sy) (va := .slice A6 al2.length c6) (ea := ea ++ [.slice x.A x.rc.length x.c]) ⟨Hd.out.2, ⟨_, hL6⟩, hO6, hE6, by rw [Hl2.out]; omega, by rw [Hll.out]; have := Hle.out; omega, HI.out.more (by omega), hps, hbl6, bB, hbs6⟩)
                unfold ptrV at HRS
                go_wp2_with (first
                  | (rw [← HW1.out]; go_at_call 6; (with_reducible refine HA'.out.mono ?_); rintro e w5 h5; obtain rfl := h5.e; have h5b := h5.below; have hBk5 := hBk.kbP h5.kb (fun hn => hn (.inr rfl)); have hB5 := hBk5.cell; have hO5 := OwnK.kbP hO1 h5.kb (fun g e hg => hg (.inl e))) | (at_builtin; go_loud (refine wpList_appK_new (v := .slice A0 all.length c0) (news := [.slice x.A x.rc.length x.c]) (n := ea.length) rfl (.tmp 62) (.tmp 65) rfl slrw (by decide) rfl hO5 (Below.refl B w5) (Nat.le_trans hB1s h5b.size) rfl rfl (by intro u hu; rw [List.mem_singleton] at hu; subst hu; rfl) (by omega) ?_); intro v6 w6 ho6 hb6 hg6 hat6 hbs6; obtain ⟨A6, c6, rfl, hc6⟩ := ho6.shape; have he2 : ea.length + 1 = al2.length := (by rw [Hl2.out, Hel.out]); rw [he2] at ho6 hc6 hat6 ⊢; have HS := Lib.hid (HRS.out w5 w6 A6 c6 h5 hb6 hg6 ho6 hat6 he2 hbs6))
                  | (go_at_call 17; (with_reducible refine HS.out.mono ?_); rintro e w1 ⟨rfl, h1⟩; have HOp := Lib.hid (rs2_open h1 (by decide)); unfold ptrV at HOp)
                  | (go_at_call 14; (with_reducible refine HOp.out.mono ?_); rintro e w2 ⟨lb2, recs, rfl, h2⟩; have HRc := Lib.hid (rs3_records h2); unfold ptrV at HRc)
                  | (go_at_call 8; (with_reducible refine HRc.out.mono ?_); rintro e w3 ⟨A3, m, c3, rfl, hc3, h3⟩
                     have g1 : ¬ (m : Int) < (sy : Int) := by have := h3.lo; omega
                     have g2 : (m : Int) ≤ (al2.length : Int) := by have := h3.hi; omega
                     have g3 : (0 : Int) ≤ (m : Int) := by omega
                     have g4 : (m : Int) ≤ (c6 : Int) := by have := h3.hi; omega
                     have HSm := Lib.hid (rs4_same (c := c3) h3))
                  | (go_at_call 18; (with_reducible refine HSm.out.mono ?_); rintro e w4 ⟨rfl, hb4⟩))
                go_ret
                exact ⟨rfl, hb4⟩
          · have hst := rst_start (B := B) (w := w) (W := wr) (lb := lb) (fb := fb) (name := [76]) (s := s) (all := all) (sy := sy) (va := .slice A0 all.length c0) (ea := ea) ⟨hD.fin, ⟨_, hLg⟩, hO, hE, by omega, hl3, hI.more (by omega), hpl, hbl, bB, hBr⟩
            have hkn' : ¬ (k : Int) < (n : Int) := by omega
            have HS := Lib.hid hst
            clear hst hD hLg hO hE hel hlr hl3 hI hpl
            unfold ptrV at HS
            go_wp2_with (first
              | fail
              | (go_at_call 17; (with_reducible refine HS.out.mono ?_); rintro e w1 ⟨rfl, h1⟩; have HOp := Lib.hid (rs2_open h1 (by decide)); unfold ptrV at HOp)
              | (go_at_call 14; (with_reducible refine HOp.out.mono ?_); rintro e w2 ⟨lb2, recs, rfl, h2⟩; have HRc := Lib.hid (rs3_records h2); unfold ptrV at HRc)
              | (go_at_call 8; (with_reducible refine HRc.out.mono ?_); rintro e w3 ⟨A3, m, c3, rfl, hc3, h3⟩
                 have g1 : ¬ (m : Int) < (sy : Int) := by have := h3.lo; omega
                 have g2 : (m : Int) ≤ (all.length : Int) := by have := h3.hi; omega
                 have g3 : (0 : Int) ≤ (m : Int) := by omega
                 have g4 : (m : Int) ≤ (c0 : Int) := by have := h3.hi; omega
                 have HSm := Lib.hid (rs4_same (c := c3) h3))
              | (go_at_call 18; (with_reducible refine HSm.out.mono ?_); rintro e w4 ⟨rfl, hb4⟩))
            go_ret
            exact ⟨rfl, hb4⟩
      · obtain ⟨rc, hrc⟩ : ∃ r, r = lgCreate (new ⟨p.crash, q, p.fail, p.full, p.room⟩) [76] := ⟨_, rfl⟩
        rw [← hrc] at HCr hcr
        obtain ⟨np, hnp⟩ : ∃ r, r = new ⟨p.crash, q, p.fail, p.full, p.room⟩ := ⟨_, rfl⟩
        rw [← hnp] at HCr HN
        unfold plV plCs LgMade ptrV at *
        clear hP h hQ hrc hnp hcrI hcrP hpo'
        have hcb : (rc.2 == 0) = false := by rw [beq_eq_false_iff_ne]; exact hcr
        replace HCr := Lib.hid (fun (W : World) (B fb : Nat) hO hB => (HCr.out W B fb hO hB).mono (fun e W' h => show (e = .returned (.tuple #[.pointer none, .int .i64 rc.2]) ∧ One B (fun b => b < B) W' fb rc.1) ∧ _ from ⟨h.1.elim (fun h => absurd h.1 hcr) (fun h => h.2), h.2⟩))
        go_enter Tryz.func4, Tryz.ntmps4
        go_wp2_with (first
          | (rw [← Hw0.out]; go_at_call 5; refine (c_awake _).mono ?_; rintro e wA ⟨rfl, hbA⟩; have bA := hb0.trans (hbA.mono hz0))
          | (go_at_call 15; refine (HFi.out wA bA).mono ?_; rintro e wF ⟨rfl, hbF⟩; have bF := bA.trans (hbF.mono bA.size)
             have NF := N1.below (hbA.trans (hbF.mono hbA.size)) N1.lt
             have qF := NF.cell
             have zF := NF.frz
             have qS := (NF.set_ 1 (.slice AQ q.length cq)).cell
             have bS := bF.setCell (p := ⟨w.heap.size, 1, none⟩) (Nat.le_refl _) (.slice AQ q.length cq)
             have HNs := Lib.hid (HN.out _ bS))
          | (go_at_call 16; (with_reducible refine HNs.out.mono ?_); intro e wN hN
             obtain ⟨fb, rfl, hON, hbN⟩ := NewP.one hN (K := fun b => b < (wF.setCell ⟨w.heap.size, 1, none⟩ (.slice AQ q.length cq)).heap.size) (fun b h => h)
             unfold ptrV
             have bN := bS.trans (hbN.mono bS.size)
             have bB := bS.size
             have HCs := Lib.hid (HCr.out _ _ fb hON hbN.size))
          | (go_at_call 13; (with_reducible refine HCs.out.mono ?_); rintro e wC ⟨⟨rfl, hOC⟩, hbC, hkC⟩
             have bC := bN.trans (hbC.mono bB)))
        go_ret
        exact ⟨rfl, bC⟩
    · have hq' : (100 : Int) < (q.length : Int) := by omega
      unfold plV plCs at *
      clear hP h hQ
      go_enter Tryz.func4, Tryz.ntmps4
      go_wp2_with (first
        | (rw [← Hw0.out]; go_at_call 5; refine (c_awake _).mono ?_; rintro e wA ⟨rfl, hbA⟩; have bA := hb0.trans (hbA.mono hz0))
        | (go_at_call 15; refine (HFi.out wA bA).mono ?_; rintro e wF ⟨rfl, hbF⟩; have bF := bA.trans (hbF.mono bA.size)))
      go_ret
      exact ⟨rfl, bF⟩
end Go.Proofs.YtgilnjngphhhlaaGreat
