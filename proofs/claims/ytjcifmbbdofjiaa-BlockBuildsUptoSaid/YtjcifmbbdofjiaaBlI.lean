/- Layer 20: an iterator is made: the walks of New's closures. -/
import Derived.Test.YtjcifmbbdofjiaaBlS
namespace Go.Lec
open Go.RowKit
theorem RdK.kbR {S : List Nat} {w w1 : World} {B k n : Nat} {A : Option Addr} {xs : List Value} (h : RdK w B k A n xs) (hk : Kb S w w1) (hB : B ≤ w.heap.size) (hS : ∀ a, A = some a → a.block ∉ S) : RdK w1 B k A n xs :=
  ⟨h.1, fun hn => by
    obtain ⟨b, o, e, hb, hc⟩ := h.2 hn
    exact ⟨b, o, e, hb, fun i u hu => (hk.cell (p := ⟨b, o + i, none⟩) (by dsimp only; omega) (hS ⟨b, o, none⟩ e)).trans (hc i u hu)⟩⟩
theorem Enc.ok.kbR {α : Type} {E : Enc α} {S : List Nat} {w w1 : World} {B : Nat} {m : α} (h : E.ok w B m) (hk : Kb S w w1) (hB : B ≤ w.heap.size) (hS : E.lie (· ∉ S) m) : E.ok w1 B m :=
  ⟨fun p hp => (h.1 p hp).kbR hk hB (hS p hp), h.2⟩
theorem Els.kbR {α : Type} {E : Enc α} {S : List Nat} {w w1 : World} {B n : Nat} {A : Option Addr} {L : List α} (h : Els E w B A n L) (hk : Kb S w w1) (hB : B ≤ w.heap.size) (hS : ∀ a, A = some a → a.block ∉ S) (hl : ∀ m ∈ L, E.lie (· ∉ S) m) : Els E w1 B A n L :=
  ⟨h.1.kbR hk hB hS, h.2.1, fun m hm => (h.2.2 m hm).kbR hk hB (hl m hm)⟩
/-- Whether entry k stands at p or behind it. -/
def atGe (l : List En) (p k : Nat) : Bool := match l[k]? with | some x => decide (p ≤ x.at_) | none => true
/-- How many pairs there are between restarts, by an iterator's reckoning. -/
def evOf (l : List En) (ps : List Nat) : Nat :=
  match ps[1]? with
  | some p => (srchF (atGe l p) l.length 0 l.length 0).1
  | none => if 0 < ps.length then (l.length + ps.length - 1) / ps.length else 1
end Go.Lec
namespace Go.Proofs.Ytjcifmbbdofjiaa
open Go.RowKit Go.Lec Go.Op
set_option maxRecDepth 40000 in
set_option maxHeartbeats 800000 in
theorem c_N11 (W : World) (bl bp k y : Nat) {B n c np cp : Nat} {A Ap : Option Addr} {X : List Ex} {ps : List Nat} (hE : Els encEx W B A n X) (hP : Rd W B Ap np (ncs ps)) (hk : k < n) (hy : ps[1]? = some y)
    (q1 : W.cell? ⟨bl, 0, none⟩ = some (.slice A n c)) (q2 : W.cell? ⟨bp, 0, none⟩ = some (.slice Ap np cp)) :
    Calls Try.prog 38 #[.int .i64 (k : Int), .pointer (some ⟨bl, 0, none⟩), .pointer (some ⟨bp, 0, none⟩)] W fun e w' => e = .returned (.bool (atGe (X.map Ex.en) y k)) ∧ Below W.heap.size W w' := by
  have hpl := hP.1
  rw [ncs_length] at hpl
  have h1 : 1 < np := by rw [← hpl]; exact (List.getElem?_eq_some_iff.1 hy).1
  obtain ⟨b, o, m, rfl, hbB, hmk, _, _, hcell⟩ := hE.at hk
  have c0 := hcell W (Below.refl _ _) 0 _ rfl
  rw [show o + k * encEx.k + 0 = o + k * 5 from rfl] at c0
  obtain ⟨b2, o2, rfl, hb2, hpcell⟩ := hP.natAt h1
  have hpc := hpcell W (Below.refl _ _) 1 y hy
  have Hat := Lib.hid (show atGe (X.map Ex.en) y k = decide (y ≤ m.at_) from by rw [atGe, List.getElem?_map, hmk]; rfl)
  have hi2 : (1 : Int) < (np : Int) := by omega
  clear hcell hpcell hmk hpl hy hE hP
  go_enter Try.func38, Try.ntmps38
  go_wp2
  go_quiet (fail)
  go_wp2
  go_ret
  exact ⟨by rw [Hat.out]; simp, belowN (Below.refl _ _) _⟩
/-- An iterator, as it lies in memory: its rows lie from block L on. -/
structure Itr (W : World) (it L : Nat) (A : Option Addr) (n c : Nat) (X : List Ex) (ev : Nat) (at_ lk : Int) : Prop where
  bk : Bk W it 65 #[.int .i64 1, .slice A n c, .int .i64 (ev : Int), .int .i64 at_, .int .i64 lk]
  els : Els encEx W W.heap.size A n X
  lt : it < L
  hi : ∀ a, A = some a → L ≤ a.block
  lie : ∀ m ∈ X, encEx.lie (L ≤ ·) m
  le : n ≤ 1048576
/-- An iterator whose rows are kept, and whose numbers may have turned. -/
theorem Itr.move {W W' : World} {it L n c ev : Nat} {A : Option Addr} {X : List Ex} {p q p' q' : Int} {S : List Nat} (h : Itr W it L A n c X ev p q) (hk : Kb S W W') (hS : ∀ b ∈ S, b < L)
    (hb : Bk W' it 65 #[.int .i64 1, .slice A n c, .int .i64 (ev : Int), .int .i64 p', .int .i64 q']) : Itr W' it L A n c X ev p' q' :=
  ⟨hb, (h.els.kbR hk (Nat.le_refl _) (fun a ha hm => by have := hS _ hm; have := h.hi a ha; omega) (fun m hm => (h.lie m hm).imp (fun b hb hs => by have := hS b hs; omega))).more hk.size, h.lt, h.hi, h.lie, h.le⟩
theorem Itr.kb {W W' : World} {it L n c ev : Nat} {A : Option Addr} {X : List Ex} {p q : Int} {S : List Nat} (h : Itr W it L A n c X ev p q) (hk : Kb S W W') (hS : ∀ b ∈ S, b < L ∧ b ≠ it) : Itr W' it L A n c X ev p q :=
  h.move hk (fun b hb => (hS b hb).1) (h.bk.kb hk (fun hm => (hS _ hm).2 rfl))
theorem Itr.below {W W' : World} {it L n c ev : Nat} {A : Option Addr} {X : List Ex} {p q : Int} (h : Itr W it L A n c X ev p q) (hb : Below W.heap.size W W') : Itr W' it L A n c X ev p q :=
  h.kb (Kb.of_below (S := []) hb) (fun b hb => by cases hb)
/-- What New's closure does. -/
def N1Post (W : World) (it : Nat) (b : List UInt8) (e : Ending) (w' : World) : Prop :=
  (∃ (l : List En) (ps : List Nat) (A n c : _) (X : List Ex), ckB b = .ok (l, ps) ∧ e = .returned (.tuple #[]) ∧ Itr w' it W.heap.size A n c X (evOf l ps) (-1) 0 ∧ X.map Ex.en = l ∧ Kb [it] W w') ∨
  (∃ err, ckB b = .error err ∧ e = .panicked [{ v := blFailVal err, recovered := false }] ∧ Kb [it] W w')
set_option maxRecDepth 40000 in
set_option maxHeartbeats 3200000 in
theorem c_New1 (W : World) (bb bi it : Nat) {B n c : Nat} {A : Option Addr} {b : List UInt8} (hr : Rd W B A n (bcs b)) (hc : n ≤ c) (hB : B ≤ W.heap.size) (hn : n ≤ 1099511627776)
    (q0 : W.cell? ⟨bb, 0, none⟩ = some (.slice A n c)) (hbi : W.cell? ⟨bi, 0, none⟩ = some (.pointer (some ⟨it, 0, none⟩))) (hne : bi ≠ it) (hI : Bk W it 65 #[.int .i64 1, .slice none 0 0, .int .i64 1, .int .i64 (-1), .int .i64 0]) :
    Calls Try.prog 36 #[.pointer (some ⟨bb, 0, none⟩), .pointer (some ⟨bi, 0, none⟩)] W (N1Post W it b) := by
  have hmf : ∀ (fn : Fn) (first cap : Array Value) (w : World), (Instr.makeFunc fn first cap).run Try.prog w = .ok (.func fn first cap) w := fun _ _ _ _ => rfl
  have li := hI.lt
  have lbi := World.block_lt_of_cell? W _ hbi
  dsimp only at lbi
  go_enter Try.func36, Try.ntmps36
  go_wp2_with fail
  refine (c_checked W hr hc hB hn).mono ?_
  rintro e W1 (⟨l, ps, A1, n1, c1, Ap, np, cp, X, hu, rfl, hG, hXn, hXl, hP, hpl, hn1, hnp, hw⟩ | ⟨err, hu, rfl, hb1⟩)
  · have hI1 := hI.below hG.below li
    have hbi1 := (hG.below.cell (p := ⟨bi, 0, none⟩) lbi).trans hbi
    have hz1 := hG.below.size
    have hE1 := hG.els hXn
    have hrow : ∀ a, A1 = some a → W.heap.size ≤ a.block := fun a ha => ownK_ge hG.own a ha
    have hlie : ∀ m ∈ X, encEx.lie (W.heap.size ≤ ·) m := fun m hm => (hG.oks m hm).2.2
    have hP1 := Lec.Own.rd hP
    have hrowP : 0 < np → ∀ a, Ap = some a → a.block ∉ [it] := fun _ a ha => by have := Lec.Own.ge hP a ha; simp; omega
    have hk1 : Kb [it] W W1 := Kb.of_below hG.below
    have HXl := Lib.hid hXl
    have HXn := Lib.hid hXn
    have Hpl := Lib.hid hpl
    have Hu := Lib.hid hu
    have hbA := ((Below.refl W1.heap.size W1).alloc (Nat.le_refl _) (.cells #[.slice A1 n1 c1] 63)).alloc (by simp) (.cells #[.slice Ap np cp] 40)
    have H0 := ((Bk.new_ W1 63 #[.slice A1 n1 c1]).alloc (.cells #[.slice Ap np cp] 40))
    have H1 := (Bk.new_ (W1.alloc (.cells #[.slice A1 n1 c1] 63)) 40 #[.slice Ap np cp])
    rw [World.size_alloc] at H1
    clear hu hG hXl hXn hpl hP hI hbi
    go_upto_region 1 with fail
    have hE2 := hE1.below hbA (Nat.le_refl _)
    have hP2 := hP1.below hbA (Nat.le_refl _)
    have hI2 := hI1.below hbA (Nat.lt_of_lt_of_le li hz1)
    have hbi2 := (hbA.cell (p := ⟨bi, 0, none⟩) (by dsimp only; omega)).trans hbi1
    have hk2 : Kb [it] W _ := hk1.trans (Kb.of_below hbA) (fun b hb => .inl hb)
    have hz2 : ((W1.alloc (.cells #[.slice A1 n1 c1] 63)).alloc (.cells #[.slice Ap np cp] 40)).heap.size = W1.heap.size + 2 := by simp
    obtain ⟨W2, hW2⟩ : ∃ w, w = (W1.alloc (.cells #[.slice A1 n1 c1] 63)).alloc (.cells #[.slice Ap np cp] 40) := ⟨_, rfl⟩
    obtain ⟨bl, hbl⟩ : ∃ x, x = W1.heap.size := ⟨_, rfl⟩
    rw [← hW2] at H0 H1 hE2 hP2 hI2 hbi2 hk2 hz2 ⊢
    rw [← hbl] at H0 H1 hE2 hP2 hz2 ⊢
    have lbl : W.heap.size ≤ bl := by rw [hbl]; exact hz1
    clear hW2 hbl hE1 hP1 hI1 hbi1 hk1 hbA hz1
    have hz2' : bl + 1 < W2.heap.size := by omega
    have hB2 : bl ≤ W2.heap.size := by omega
    have Hz2 := Lib.hid hz2
    clear hz2
    have qi := hI2.cell
    have zi := hI2.frz
    have q1 : W2.cell? ⟨bl, 0, none⟩ = some (.slice A1 n1 c1) := H0.cell 0
    have q2 : W2.cell? ⟨bl + 1, 0, none⟩ = some (.slice Ap np cp) := H1.cell 0
    go_upto_region 2 with fail
    have hI3 : Bk (W2.setCell ⟨it, 1, none⟩ (.slice A1 n1 c1)) it 65 #[.int .i64 1, .slice A1 n1 c1, .int .i64 1, .int .i64 (-1), .int .i64 0] := hI2.set_ 1 (.slice A1 n1 c1)
    have hk3 := hk2.setCell (p := ⟨it, 1, none⟩) (.inl (by simp)) (.slice A1 n1 c1)
    have q13 := ((H0.far (p := ⟨it, 1, none⟩) (by dsimp only; omega) (.slice A1 n1 c1)).cell 0)
    have q23 := ((H1.far (p := ⟨it, 1, none⟩) (by dsimp only; omega) (.slice A1 n1 c1)).cell 0)
    have qbi3 : (W2.setCell ⟨it, 1, none⟩ (.slice A1 n1 c1)).cell? ⟨bi, 0, none⟩ = some (.pointer (some ⟨it, 0, none⟩)) := (World.cell?_of_block (Below.heap_setCell W2 ⟨it, 1, none⟩ (.slice A1 n1 c1) bi (by dsimp only; omega))).trans hbi2
    have hkb3 : Kb [it] W2 (W2.setCell ⟨it, 1, none⟩ (.slice A1 n1 c1)) := (Kb.refl [it] W2).setCell (p := ⟨it, 1, none⟩) (.inl (by simp)) (.slice A1 n1 c1)
    have hrow' : ∀ a, A1 = some a → a.block ∉ [it] := fun a ha => by have := hrow a ha; simp; omega
    have hlie' : ∀ m ∈ X, encEx.lie (· ∉ [it]) m := fun m hm => (hlie m hm).imp (fun b hb => by simp; omega)
    have hz3 : (W2.setCell ⟨it, 1, none⟩ (.slice A1 n1 c1)).heap.size = W2.heap.size := by simp
    obtain ⟨W3, hW3⟩ : ∃ w, w = W2.setCell ⟨it, 1, none⟩ (.slice A1 n1 c1) := ⟨_, rfl⟩
    rw [← hW3] at hI3 hk3 q13 q23 qbi3 hkb3 hz3 ⊢
    have HE := Lib.hid (fun (W' : World) (hk : Kb [it] W3 W') => (hE2.more hB2).kbR (hkb3.trans hk (fun b hb => .inl hb)) (Nat.le_refl _) hrow' hlie')
    have HIt : Hid (∀ (W' : World) (ev : Nat), Kb [it] W3 W' → Bk W' it 65 #[.int .i64 1, .slice A1 n1 c1, .int .i64 (ev : Int), .int .i64 (-1), .int .i64 0] → Itr W' it W.heap.size A1 n1 c1 X ev (-1) 0) :=
      Lib.hid (fun W' ev hk hb => ⟨hb, (HE.out W' hk).more (by have := hk.size; omega), li, hrow, hlie, hn1⟩)
    have HK := Lib.hid (fun (W' : World) (hk : Kb [it] W3 W') => hk3.trans hk (fun b hb => .inl hb))
    have HP := Lib.hid (fun (W' : World) (hk : Kb [it] W3 W') => (hP2.kbR (hkb3.trans hk (fun b hb => .inl hb)) hB2 hrowP))
    have HZ := Lib.hid (show W2.heap.size ≤ W3.heap.size from by rw [hz3]; exact Nat.le_refl _)
    clear hW3 hI2 qi zi q1 q2 hbi2 hk2 hz3 hP2 hrowP
    by_cases hp0 : np = 0
    · have hev : evOf l ps = 1 := by
        have h1 : ps[1]? = none := List.getElem?_eq_none (by rw [Hpl.out]; omega)
        rw [evOf, h1]; simp only []; rw [if_neg (by rw [Hpl.out]; omega)]
      have Hev := Lib.hid hev
      have hfin := HIt.out W3 1 (Kb.refl _ _) hI3
      have hkf := HK.out W3 (Kb.refl _ _)
      have hi0 : ¬ (0 : Int) < (np : Int) := by omega
      have hi1 : ¬ (1 : Int) < (np : Int) := by omega
      clear hev hp0 hI3 hk3 hkb3
      go_wp2
      go_end0
      exact .inl ⟨l, ps, _, _, _, X, Hu.out, rfl, by rw [Hev.out]; exact hfin, HXl.out, hkf⟩
    · have hi0 : (0 : Int) < (np : Int) := by omega
      have hin : ((np : Int) == 0) = false := by rw [beq_eq_false_iff_ne]; omega
      obtain ⟨d, hd⟩ : ∃ d, d = (n1 + np - 1) / np := ⟨_, rfl⟩
      have hdi : ((n1 : Int) + (np : Int) - 1) / (np : Int) = (d : Int) := by
        have : ((n1 + np - 1 : Nat) : Int) = (n1 : Int) + (np : Int) - 1 := by omega
        rw [← this, ← Int.natCast_ediv, hd]
      have Hd := Lib.hid hd
      have qi := hI3.cell
      have zi := hI3.frz
      clear hd hk3 hkb3
      go_upto_region 3 with fail
      go_region
      have hI4 : Bk (W3.setCell ⟨it, 2, none⟩ (.int .i64 (d : Int))).drew it 65 #[.int .i64 1, .slice A1 n1 c1, .int .i64 (d : Int), .int .i64 (-1), .int .i64 0] := (hI3.set_ 2 (.int .i64 (d : Int))).drew
      have hk4 : Kb [it] W3 (W3.setCell ⟨it, 2, none⟩ (.int .i64 (d : Int))).drew := ((Kb.refl [it] W3).setCell (p := ⟨it, 2, none⟩) (.inl (by simp)) (.int .i64 (d : Int))).drew
      have l13 := World.block_lt_of_cell? W3 _ q13
      have l23 := World.block_lt_of_cell? W3 _ q23
      have lbi3 := World.block_lt_of_cell? W3 _ qbi3
      have q14 := (hk4.cell (p := ⟨bl, 0, none⟩) l13 (by simp; omega)).trans q13
      have q24 := (hk4.cell (p := ⟨bl + 1, 0, none⟩) l23 (by simp; omega)).trans q23
      have qbi4 := (hk4.cell (p := ⟨bi, 0, none⟩) lbi3 (by simp; omega)).trans qbi3
      obtain ⟨W4, hW4⟩ : ∃ w, w = (W3.setCell ⟨it, 2, none⟩ (.int .i64 (d : Int))).drew := ⟨_, rfl⟩
      rw [← hW4] at hI4 hk4 q14 q24 qbi4 ⊢
      clear hW4 qi zi hI3 q13 q23 qbi3
      by_cases hp1 : np = 1
      · have hev : evOf l ps = d := by
          have h1 : ps[1]? = none := List.getElem?_eq_none (by rw [Hpl.out]; omega)
          have h2 : l.length = n1 := by rw [← HXl.out, List.length_map, HXn.out]
          rw [evOf, h1]; simp only []; rw [if_pos (by rw [Hpl.out]; omega), Hd.out, h2, Hpl.out]
        have Hev := Lib.hid hev
        have hfin := HIt.out W4 d hk4 hI4
        have hkf := HK.out W4 hk4
        have hi1 : ¬ (1 : Int) < (np : Int) := by omega
        clear hev hp0 hI4 hk4
        go_wp2
        go_end0
        exact .inl ⟨l, ps, _, _, _, X, Hu.out, rfl, by rw [Hev.out]; exact hfin, HXl.out, hkf⟩
      · have hi1 : (1 : Int) < (np : Int) := by omega
        have h1l : 1 < ps.length := by rw [Hpl.out]; omega
        have hE4 := HE.out W4 hk4
        have hP4 : Rd W4 bl Ap np (ncs ps) := (HP.out W4 hk4)
        have hb4 : bl < W4.heap.size ∧ bl + 1 < W4.heap.size ∧ bi < W4.heap.size ∧ it < W4.heap.size ∧ W2.heap.size ≤ W4.heap.size := by
          have := hk4.size
          refine ⟨?_, ?_, ?_, ?_, ?_⟩ <;> (try simp only [] at l13 l23 lbi3) <;> first | omega | (have := hI4.lt; omega) | (have := HZ.out; omega)
        obtain ⟨y, hy⟩ : ∃ y, ps[1]? = some y := ⟨_, List.getElem?_eq_getElem h1l⟩
        have hl1 : l.length = n1 := by rw [← HXl.out, List.length_map, HXn.out]
        obtain ⟨E, hEv⟩ : ∃ E, E = evOf l ps := ⟨_, rfl⟩
        have hEv2 : (srchF (atGe l y) n1 0 n1 0).1 = E := by rw [hEv, evOf, hy, ← hl1]
        have HC := Lib.hid ((c_Search W4.drew n1 (by omega) 38 #[.pointer (some ⟨bl, 0, none⟩), .pointer (some ⟨bl + 1, 0, none⟩)] (atGe l y) (fun _ W' => Below W4.heap.size W4 W') ((Below.refl _ _).drew) (fun _ _ => rfl)
          (fun c k W' _ hk hI => by
            have e1 := (hI.cell (p := ⟨bl, 0, none⟩) hb4.1).trans q14
            have e2 := (hI.cell (p := ⟨bl + 1, 0, none⟩) hb4.2.1).trans q24
            refine (c_N11 W' bl (bl + 1) k y (hE4.below hI hb4.2.2.2.2) ((hP4.more hB2).below hI hb4.2.2.2.2) hk hy e1 e2).mono ?_
            rintro e w' ⟨rfl, hb⟩
            exact ⟨by rw [HXl.out], hI.trans (hb.mono hI.size)⟩)).mono (R' := fun e w' => e = .returned (.int .i64 (E : Int)) ∧ Below W4.heap.size W4 w') (by
            rintro e w' ⟨rfl, hb⟩
            exact ⟨by rw [hEv2], hb⟩))
        have HKs := Lib.hid (fun (W' : World) (hk : Kb [it] W4 W') => (⟨(hk.cell (p := ⟨bi, 0, none⟩) hb4.2.2.1 (by simp; omega)).trans qbi4, (hk.cell (p := ⟨bl, 0, none⟩) hb4.1 (by simp; omega)).trans q14⟩ : W'.cell? ⟨bi, 0, none⟩ = some (.pointer (some ⟨it, 0, none⟩)) ∧ W'.cell? ⟨bl, 0, none⟩ = some (.slice A1 n1 c1)))
        have HEv := Lib.hid hEv
        have lit4 := hb4.2.2.2.1
        have HB4 := Lib.hid hb4
        have HK4 := Lib.hid hk4
        clear hEv hEv2 hb4 hE4 hP4 hl1 hy h1l hk4 hp0 hi0 hin hdi
        go_upto_region 5 with fail
        go_region_held3 (fun W => W.cell? ⟨bi, 0, none⟩ = some (.pointer (some ⟨it, 0, none⟩)) ∧ W.cell? ⟨bl, 0, none⟩ = some (.slice A1 n1 c1))
          ((refine HKs.out _ ?_; first | exact (Kb.refl _ _).drew | exact hkm | exact hkm.setCell (.inl (by simp)) _))
          (first | (go_at_call 37; refine HC.out.mono ?_; rintro e w1 ⟨rfl, hb⟩; have hI5 := hI4.below hb lit4; have r5 := hI5.cell; have z5 := hI5.frz; have hkm : Kb [it] W4 w1 := Kb.of_below hb))
        have hI6 := hI5.set_ 2 (.int .i64 (E : Int))
        have hk6 := HK4.out.trans (hkm.setCell (p := ⟨it, 2, none⟩) (.inl (by simp)) (.int .i64 (E : Int))) (fun b hb => .inl hb)
        have hfin := HIt.out _ E hk6 hI6
        have hkf := HK.out _ hk6
        go_wp2
        go_end0
        exact .inl ⟨l, ps, _, _, _, X, Hu.out, rfl, by rw [← HEv.out]; exact hfin, HXl.out, hkf⟩
  · exact ⟨rfl, .inr ⟨err, hu, rfl, Kb.of_below hb1⟩⟩
/-- What 'guarded' leaves of it. -/
def N1GPost (W : World) (it : Nat) (b : List UInt8) (e : Ending) (w' : World) : Prop :=
  (∃ (l : List En) (ps : List Nat) (L : Nat) (A n c : _) (X : List Ex), ckB b = .ok (l, ps) ∧ e = .returned (.int .i64 0) ∧ Itr w' it L A n c X (evOf l ps) (-1) 0 ∧ W.heap.size ≤ L ∧ X.map Ex.en = l ∧ Kb [it] W w') ∨
  (∃ err, ckB b = .error err ∧ e = .returned (.int .i64 err) ∧ Kb [it] W w')
theorem c_New1G (W : World) (bb bi it : Nat) {B n c : Nat} {A : Option Addr} {b : List UInt8} (hr : Rd W B A n (bcs b)) (hc : n ≤ c) (hB : B ≤ W.heap.size) (hn : n ≤ 1099511627776)
    (q0 : W.cell? ⟨bb, 0, none⟩ = some (.slice A n c)) (hbi : W.cell? ⟨bi, 0, none⟩ = some (.pointer (some ⟨it, 0, none⟩))) (hne : bi ≠ it) (hI : Bk W it 65 #[.int .i64 1, .slice none 0 0, .int .i64 1, .int .i64 (-1), .int .i64 0]) :
    Calls Try.prog 28 #[.func (.func 36) #[] #[.pointer (some ⟨bb, 0, none⟩), .pointer (some ⟨bi, 0, none⟩)]] W (N1GPost W it b) := by
  have HE := Bk.new_ W 26 #[.int .i64 0]
  have hbE := (Below.refl W.heap.size W).alloc (Nat.le_refl _) (.cells #[.int .i64 0] 26)
  have lb := World.block_lt_of_cell? W _ q0
  have lbi := World.block_lt_of_cell? W _ hbi
  have lo := hI.lt
  have hz : (W.alloc (.cells #[.int .i64 0] 26)).heap.size = W.heap.size + 1 := by simp
  dsimp only at lb lbi
  refine (c_blGuarded W 36 _ (N1Post (W.alloc (.cells #[.int .i64 0] 26)) it b) ?_ ?_ ?_).mono ?_
  · intro w; simp [go_sem]
  · exact c_New1 _ bb bi it (hr.below hbE hB) hc (by omega) hn ((hbE.cell (p := ⟨bb, 0, none⟩) lb).trans q0) ((hbE.cell (p := ⟨bi, 0, none⟩) lbi).trans hbi) hne (hI.alloc _)
  · rintro e w' (⟨l, ps, A, n, c, X, hu, rfl, h1, h2, hk⟩ | ⟨err, hu, rfl, hk⟩)
    · have h := HE.kb hk (by simp; omega)
      exact ⟨.inl rfl, h.cell 0, h.frz 0⟩
    · have h := HE.kb hk (by simp; omega)
      exact ⟨.inr ⟨err, rfl⟩, h.cell 0, h.frz 0⟩
  · rintro e w' ⟨e0, w1, (⟨l, ps, A, n, c, X, hu, rfl, h1, h2, hk⟩ | ⟨err, hu, rfl, hk⟩), he⟩
    · rcases he with ⟨_, rfl, rfl⟩ | ⟨err, h, _⟩
      · refine .inl ⟨l, ps, _, A, n, c, X, hu, rfl, h1.kb (S := [W.heap.size]) ((Kb.refl _ _).setCell (.inl (by simp)) _) ?_, by omega, h2, ?_⟩
        · intro b hb
          simp only [List.mem_singleton] at hb
          omega
        · exact (((Kb.refl [it] W).alloc _).trans hk (fun b hb => .inl hb)).setCell (.inr (Nat.le_refl _)) _
      · cases h
    · rcases he with ⟨h, _⟩ | ⟨err', h, rfl, rfl⟩
      · cases h
      · simp [blFailVal] at h
        subst h
        exact .inr ⟨err, hu, rfl, (((Kb.refl [it] W).alloc _).trans hk (fun b hb => .inl hb)).setCell (.inr (Nat.le_refl _)) _⟩
/-- What New answers. -/
def INewPost (w : World) (b : List UInt8) (e : Ending) (w' : World) : Prop :=
  (∃ (l : List En) (ps : List Nat) (it L : Nat) (A n c : _) (X : List Ex), ckB b = .ok (l, ps) ∧ e = .returned (.tuple #[.pointer (some ⟨it, 0, none⟩), .int .i64 0]) ∧ Itr w' it L A n c X (evOf l ps) (-1) 0 ∧ w.heap.size ≤ it ∧ X.map Ex.en = l ∧ Below w.heap.size w w') ∨
  (∃ err, ckB b = .error err ∧ e = .returned (.tuple #[.pointer none, .int .i64 err]) ∧ Below w.heap.size w w')
set_option maxRecDepth 40000 in
set_option maxHeartbeats 800000 in
theorem c_New (w : World) {B n c : Nat} {A : Option Addr} {b : List UInt8} (hr : Rd w B A n (bcs b)) (hc : n ≤ c) (hB : B ≤ w.heap.size) (hn : n ≤ 1099511627776) :
    Calls Try.prog 18 #[.slice A n c] w (INewPost w b) := by
  have hmf : ∀ (fn : Fn) (first cap : Array Value) (w : World), (Instr.makeFunc fn first cap).run Try.prog w = .ok (.func fn first cap) w := fun _ _ _ _ => rfl
  obtain ⟨H0, H1, H2, hsz, hBl⟩ := Bk.new3 w 25 #[.slice A n c] 65 #[.int .i64 1, .slice none 0 0, .int .i64 1, .int .i64 (-1), .int .i64 0] 45 #[.pointer (some ⟨w.heap.size + 1, 0, none⟩)]
  have HC := Lib.hid (c_New1G _ w.heap.size (w.heap.size + 1 + 1) (w.heap.size + 1) (hr.below hBl hB) hc (Nat.le_trans hB hBl.size) hn (H0.cell 0) (H2.cell 0) (by omega) H1)
  have q2 := H2.cell 0
  have l2 := H2.lt
  clear H0 H1 H2 hsz
  go_enter Try.func18, Try.ntmps18
  go_wp2_with fail
  refine HC.out.mono ?_
  rintro e w1 (⟨l, ps, L, A1, n1, c1, X, hu, rfl, h1, h2, h3, hk⟩ | ⟨err, hu, rfl, hk⟩)
  · have hbw : Below w.heap.size w w1 := hBl.trans ((hk.below (B := w.heap.size) (by intro b hb; simp at hb; omega) hBl.size))
    have q := (hk.cell (p := ⟨w.heap.size + 1 + 1, 0, none⟩) l2 (by simp)).trans q2
    have Hu := Lib.hid hu
    clear hu hk q2
    go_wp2
    go_ret2
    exact .inl ⟨l, ps, _, L, _, _, _, X, Hu.out, rfl, h1, by omega, h3, hbw⟩
  · have hne : (err != 0) = true := by have := ckB_err hu; rw [bne_iff_ne]; omega
    have hbw : Below w.heap.size w w1 := hBl.trans ((hk.below (B := w.heap.size) (by intro b hb; simp at hb; omega) hBl.size))
    have Hu := Lib.hid hu
    clear hu hk q2
    go_wp2
    go_ret2
    exact .inr ⟨err, Hu.out, rfl, hbw⟩
end Go.Proofs.Ytjcifmbbdofjiaa
