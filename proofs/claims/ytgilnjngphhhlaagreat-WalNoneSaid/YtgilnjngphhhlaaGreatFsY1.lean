/- Layer 1: rows of files that are told; the safe files: the walk of Safe. -/
import Derived.Test.YtgilnjngphhhlaaGreatFsX1
import Derived.Test.YtgilnjngphhhlaaGreatFsRd
import Derived.RangeFuncNested
import Derived.RangeFuncBound
import Derived.RangeFuncCalls
import Derived.RangeFuncLeaves
import Derived.RangeFuncBox
import Derived.Shelf.Abstract
import Derived.Shelf.RegionOpen
import Derived.OwnWalkIn
import Derived.TacticsInMore
import Derived.LoopNIn
import Derived.LoopIn
import Derived.Test.YtgilnjngphhhlaaGreatInRound
namespace Go.Fsy
open Go.RowKit Go.Maps Go.Lec
/-- A file that is told, with where its bytes lie. -/
structure FR where
  name : Bs
  data : Bs
  A : Option Addr
  c : Nat
def FR.fl (x : FR) : Fl := (x.name, x.data)
def FR.cs (x : FR) : List Value := [svl x.name, .slice x.A x.data.length x.c]
theorem FR.cs_len (x : FR) : x.cs.length = 2 := rfl
theorem FR.cs_one (x : FR) : ∀ u ∈ x.cs, u.oneCell' = true := by
  intro u hu
  simp only [FR.cs, List.mem_cons, List.not_mem_nil, or_false] at hu
  rcases hu with rfl | rfl <;> rfl
def FR.ok (I : Nat → Prop) (w : World) (x : FR) : Prop := RdP I w x.A x.data.length (bcs x.data) ∧ x.data.length ≤ x.c
/-- What a function that tells files answers. -/
def FilesP (w : World) (L : List Fl) (e : Ending) (w' : World) : Prop :=
  ∃ (A : Option Addr) (c : Nat) (FL : List FR), e = .returned (.slice A L.length c) ∧ L.length ≤ c ∧ FL.map FR.fl = L ∧ RdKP (fun b => w.heap.size ≤ b) w' 2 A L.length (FL.flatMap FR.cs) ∧ (∀ x ∈ FL, x.ok (fun b => w.heap.size ≤ b) w') ∧ Below w.heap.size w w'
theorem FilesP.none_ (w : World) : FilesP w [] (.returned (.slice none 0 0)) w := ⟨none, 0, [], rfl, Nat.le_refl _, rfl, RdKP.nil_, (fun x hx => by (cases hx)), Below.refl _ _⟩
section
variable {w wr w1 w2 : World} {tf : TypeId} {v v' : Value} {FL : List FR} {x : FR}
/-- A row of files that is being built. -/
structure FlI (tf : TypeId) (w wr : World) (v : Value) (FL : List FR) : Prop where
  own : OwnK wr w.heap.size tf 2 v FL.length (FL.flatMap FR.cs)
  ok : ∀ x ∈ FL, x.ok (fun b => w.heap.size ≤ b ∧ b < wr.heap.size ∧ v.ownBlock ≠ some b) wr
  bl : Below w.heap.size w wr
theorem FlI.start (tf : TypeId) (w : World) : FlI tf w w (.slice none 0 0) [] := ⟨OwnK.nil_ _ _ _ _, fun x hx => by (cases hx), Below.refl _ _⟩
theorem FlI.keep (h : FlI tf w wr v FL) (hb : Below wr.heap.size wr w1) : FlI tf w w1 v FL :=
  ⟨h.own.below hb (Nat.le_refl _), fun x hx => ⟨(RdP.below (h.ok x hx).1 hb).more (fun _b hb' => ⟨hb'.1, Nat.lt_of_lt_of_le hb'.2.1 hb.size, hb'.2.2⟩), (h.ok x hx).2⟩, h.bl.trans (hb.mono h.bl.size)⟩
theorem FlI.kbP {X : Nat → Prop} (h : FlI tf w wr v FL) (hb : KbP X wr w1) (hX : ∀ b, X b → w.heap.size ≤ b ∧ v.ownBlock ≠ some b ∧ ∀ x ∈ FL, 0 < x.data.length → ∀ p, x.A = some p → p.block ≠ b) : FlI tf w w1 v FL :=
  ⟨OwnK.kbP h.own hb (fun g hg hx => (hX g hx).2.1 hg), fun x hx => ⟨⟨(h.ok x hx).1.rd.kbP hb (fun hn p e hxp => (hX _ hxp).2.2 x hx hn p e rfl), fun hn p e => by
    have h1 := (h.ok x hx).1.lie hn p e
    exact ⟨h1.1, Nat.lt_of_lt_of_le h1.2.1 hb.size, h1.2.2⟩⟩, (h.ok x hx).2⟩, h.bl.trans (hb.below (fun b hb' => (hX b hb').1) h.bl.size)⟩
theorem FlI.snoc (h : FlI tf w w1 v FL) (hx : x.ok (fun b => w.heap.size ≤ b ∧ b < w1.heap.size ∧ v.ownBlock ≠ some b) w1) (ho : OwnK w2 w.heap.size tf 2 v' (FL.length + 1) (FL.flatMap FR.cs ++ x.cs)) (hg : w1.grownBy w2 v.ownBlock) (hat : v'.ownBlock = v.ownBlock ∨ ∃ g, v'.ownBlock = some g ∧ w1.heap.size ≤ g) (hb : Below w.heap.size w w2) :
    FlI tf w w2 v' (FL ++ [x]) := by
  have hk : KbP (fun b => v.ownBlock = some b) w1 w2 := KbP.of_grown hg (fun g e => e)
  have hne : ∀ b, b < w1.heap.size → v.ownBlock ≠ some b → v'.ownBlock ≠ some b := fun b hb1 hn e => by
    rcases hat with e' | ⟨g, e', hg'⟩
    · exact hn (e' ▸ e)
    · rw [e'] at e; cases e; omega
  have hall : ∀ y : FR, y.ok (fun b => w.heap.size ≤ b ∧ b < w1.heap.size ∧ v.ownBlock ≠ some b) w1 → y.ok (fun b => w.heap.size ≤ b ∧ b < w2.heap.size ∧ v'.ownBlock ≠ some b) w2 := fun y hy =>
    ⟨(hy.1.kbP hk (fun b hb1 hb2 => hb1.2.2 hb2)).more (fun b hb1 => ⟨hb1.1, Nat.lt_of_lt_of_le hb1.2.1 hk.size, hne b hb1.2.1 hb1.2.2⟩), hy.2⟩
  refine ⟨?_, fun y hy => ?_, hb⟩
  · rw [List.length_append, List.flatMap_append]; simpa using ho
  · rcases List.mem_append.1 hy with hy | hy
    · exact hall y (h.ok y hy)
    · rw [List.mem_singleton] at hy; subst hy; exact hall y hx
theorem FlI.post {w0 : World} {A : Option Addr} {c : Nat} {L : List Fl} (hb : Below w0.heap.size w0 w) (h : FlI tf w wr (.slice A L.length c) FL) (hL : FL.map FR.fl = L) (hc : L.length ≤ c) : FilesP w0 L (.returned (.slice A L.length c)) wr := by
  have hl : FL.length = L.length := by rw [← hL, List.length_map]
  have ho := h.own
  rw [hl] at ho
  exact ⟨A, c, FL, rfl, hc, hL, (RdKP.new_ ho).more (fun b hb' => Nat.le_trans hb.size hb'.1), fun x hx => ⟨((h.ok x hx).1).more (fun b hb' => Nat.le_trans hb.size hb'.1), (h.ok x hx).2⟩, hb.trans (h.bl.mono hb.size)⟩
end
theorem namesOf_node {l : Dir} {N : Nat} (h : dirOk N l) {k : Nat} (hk : k < (namesOf l).length) : ∃ i, node l (namesOf l)[k] = some i ∧ (namesOf l)[k].length ≤ 4294967296 ∧ ((namesOf l)[k], i) ∈ l := by
  have hm : (namesOf l)[k] ∈ l.map (·.1) := (List.mergeSort_perm _ _).mem_iff.1 (List.getElem_mem hk)
  obtain ⟨p, hp, he⟩ := List.mem_map.1 hm
  refine ⟨p.2, ?_, ?_, ?_⟩
  · rw [← he]; exact node_of_mem h.1 hp
  · rw [← he]; exact (h.2 p hp).2.1
  · rw [← he]; exact hp
end Go.Fsy
namespace Go.Proofs.YtgilnjngphhhlaaGreat
open Go.RowKit Go.Lec Go.Fsy Go.Op Go.Maps
end Go.Proofs.YtgilnjngphhhlaaGreat
/- Layer 1: all files are told: the walk of Files. -/
namespace Go.Fsy
open Go.RowKit Go.Maps Go.Lec
theorem grown_below {w w' : World} (h : Below w.heap.size w w') : w.grownBy w' none := ⟨h.os, h.tape, h.output, h.size, fun k hk _ => h.block k hk⟩
theorem bk_kept {w w' : World} {b : Nat} {t : TypeId} {cs : Array Value} {row : Option Nat} (h : Bk w b t cs) (hg : w.grownBy w' row) (hr : ∀ r, row = some r → ∃ o : Obj, w.heap[r]? = some o ∧ o.isCells = false) : Bk w' b t cs :=
  (grownBy_keeps_cells hg hr h rfl).trans h
theorem rd_kept {w w' : World} {B n : Nat} {A : Option Addr} {xs : List Value} {row : Option Nat} (h : Rd w B A n xs) (hg : w.grownBy w' row) (hr : ∀ r, row = some r → ∃ o : Obj, w.heap[r]? = some o ∧ o.isCells = false) : Rd w' B A n xs :=
  ⟨h.1, fun hn => by obtain ⟨b, o, e, hb, hc⟩ := h.2 hn; exact ⟨b, o, e, hb, fun i u hu => cell_kept (hc i u hu) hg hr⟩⟩
theorem rdP_kept {I : Nat → Prop} {w w' : World} {n : Nat} {A : Option Addr} {xs : List Value} {row : Option Nat} (h : RdP I w A n xs) (hg : w.grownBy w' row) (hr : ∀ r, row = some r → ∃ o : Obj, w.heap[r]? = some o ∧ o.isCells = false) : RdP I w' A n xs :=
  ⟨(rd_kept h.rd hg hr).more hg.size, h.lie⟩
theorem own_kept {w w' : World} {B k n : Nat} {e : TypeId} {v : Value} {xs : List Value} {row : Option Nat} (h : OwnK w B e k v n xs) (hg : w.grownBy w' row) (hr : ∀ r, row = some r → ∃ o : Obj, w.heap[r]? = some o ∧ o.isCells = false) : OwnK w' B e k v n xs := by
  refine OwnK.grown h hg fun g e1 e2 => ?_
  obtain ⟨o, ho, hc⟩ := hr g e1
  rcases h.2 with ⟨rfl, _⟩ | ⟨g', cap, cur, rfl, _, hh, _⟩
  · cases e2
  · cases e2
    rw [hh] at ho; cases ho; cases hc
theorem keepsF_below {w w' : World} (h : Below w.heap.size w w') (B : Nat) : KeepsFrom B w w' := ⟨h.size, fun k _o _ hk _ => (h.block k (Array.getElem?_eq_some_iff.1 hk).1).trans hk⟩
theorem keepsF_grown {w w' : World} {B n k : Nat} {e : TypeId} {v : Value} {xs : List Value} {B' : Nat} (h : OwnK w B e k v n xs) (hg : w.grownBy w' v.ownBlock) : KeepsFrom B' w w' := by
  refine ⟨hg.size, fun j o _ hj ho => (hg.block j (Array.getElem?_eq_some_iff.1 hj).1 (fun e1 => ?_)).trans hj⟩
  rcases h.2 with ⟨rfl, _⟩ | ⟨g, cap, cur, rfl, _, hh, _⟩
  · cases e1
  · cases e1
    rw [hh] at hj; cases hj; cases ho
/-- A row of files that is being built, from block B on. -/
structure FlB (tf : TypeId) (B : Nat) (wr : World) (v : Value) (FL : List FR) : Prop where
  own : OwnK wr B tf 2 v FL.length (FL.flatMap FR.cs)
  ok : ∀ x ∈ FL, x.ok (fun b => B ≤ b ∧ b < wr.heap.size ∧ v.ownBlock ≠ some b) wr
section
variable {w wr w1 w2 : World} {tf : TypeId} {v v' : Value} {FL : List FR} {x : FR} {B : Nat}
theorem FlB.start (tf : TypeId) (w : World) (B : Nat) : FlB tf B w (.slice none 0 0) [] := ⟨OwnK.nil_ _ _ _ _, fun x hx => by (cases hx)⟩
theorem FlB.kbP {X : Nat → Prop} (h : FlB tf B wr v FL) (hb : KbP X wr w1) (hX : ∀ b, X b → b < B) : FlB tf B w1 v FL :=
  ⟨OwnK.kbP h.own hb (fun g hg hx => by have := hX g hx; have := (World.ownsRow.lt h.own g hg).1; omega), fun x hx => ⟨((h.ok x hx).1.kbP hb (fun b hb1 hb2 => by have := hX b hb2; omega)).more (fun b hb' => ⟨hb'.1, Nat.lt_of_lt_of_le hb'.2.1 hb.size, hb'.2.2⟩), (h.ok x hx).2⟩⟩
theorem FlB.kept {row : Option Nat} (h : FlB tf B wr v FL) (hg : wr.grownBy w1 row) (hr : ∀ r, row = some r → ∃ o : Obj, wr.heap[r]? = some o ∧ o.isCells = false) : FlB tf B w1 v FL :=
  ⟨own_kept h.own hg hr, fun x hx => ⟨(rdP_kept (h.ok x hx).1 hg hr).more (fun _b hb' => ⟨hb'.1, Nat.lt_of_lt_of_le hb'.2.1 hg.size, hb'.2.2⟩), (h.ok x hx).2⟩⟩
theorem FlB.snoc (h : FlB tf B w1 v FL) (hx : x.ok (fun b => B ≤ b ∧ b < w1.heap.size ∧ v.ownBlock ≠ some b) w1) (ho : OwnK w2 B tf 2 v' (FL.length + 1) (FL.flatMap FR.cs ++ x.cs)) (hg : w1.grownBy w2 v.ownBlock) (hat : v'.ownBlock = v.ownBlock ∨ ∃ g, v'.ownBlock = some g ∧ w1.heap.size ≤ g) :
    FlB tf B w2 v' (FL ++ [x]) := by
  have hk : KbP (fun b => v.ownBlock = some b) w1 w2 := KbP.of_grown hg (fun g e => e)
  have hne : ∀ b, b < w1.heap.size → v.ownBlock ≠ some b → v'.ownBlock ≠ some b := fun b hb1 hn e => by
    rcases hat with e' | ⟨g, e', hg'⟩
    · exact hn (e' ▸ e)
    · rw [e'] at e; cases e; omega
  have hall : ∀ y : FR, y.ok (fun b => B ≤ b ∧ b < w1.heap.size ∧ v.ownBlock ≠ some b) w1 → y.ok (fun b => B ≤ b ∧ b < w2.heap.size ∧ v'.ownBlock ≠ some b) w2 := fun y hy =>
    ⟨(hy.1.kbP hk (fun b hb1 hb2 => hb1.2.2 hb2)).more (fun b hb1 => ⟨hb1.1, Nat.lt_of_lt_of_le hb1.2.1 hk.size, hne b hb1.2.1 hb1.2.2⟩), hy.2⟩
  refine ⟨?_, fun y hy => ?_⟩
  · rw [List.length_append, List.flatMap_append]; simpa using ho
  · rcases List.mem_append.1 hy with hy | hy
    · exact hall y (h.ok y hy)
    · rw [List.mem_singleton] at hy; subst hy; exact hall y hx
theorem FlB.post {w0 : World} {A : Option Addr} {c : Nat} {L : List Fl} (hb : Below w0.heap.size w0 wr) (hB : w0.heap.size ≤ B) (h : FlB tf B wr (.slice A L.length c) FL) (hL : FL.map FR.fl = L) (hc : L.length ≤ c) : FilesP w0 L (.returned (.slice A L.length c)) wr := by
  have hl : FL.length = L.length := by rw [← hL, List.length_map]
  have ho := h.own
  rw [hl] at ho
  exact ⟨A, c, FL, rfl, hc, hL, (RdKP.new_ ho).more (fun b hb' => Nat.le_trans hB hb'.1), fun x hx => ⟨((h.ok x hx).1).more (fun b hb' => Nat.le_trans hB hb'.1), (h.ok x hx).2⟩, hb⟩
end
end Go.Fsy
namespace Go.Proofs.YtgilnjngphhhlaaGreat
open Go.RowKit Go.Lec Go.Fsy Go.Op Go.Maps Go.Shelf
attribute [local go_sem] Oper.semAt_some
/-- What a round leaves of the iterator's: all but one block, and the blocks from a place on. -/
def KpF (lb base : Nat) : World → World → Prop := KbP (fun b => b = lb ∨ base ≤ b)
theorem kpF_t {lb base : Nat} {A B C : World} (h : KpF lb base A B) (k : KpF lb base B C) : KpF lb base A C := KbP.trans h k (fun _ h => .inl h)
theorem kpF_b {lb base : Nat} {w : World} (hn : base ≤ w.heap.size) (W : World) (l : Nat) (o o' : Obj) (hl : w.heap.size ≤ l) (h : W.heap[l]? = some o) (h1 : o.isCells = false) (h2 : o.isWalk = false) : KpF lb base W (W.putObj l o') := by
  have hb : Below base W (W.putObj l o') := belowK_b hn W l o o' hl h h1 h2
  exact ⟨hb.os, hb.tape, hb.output, hb.size, fun k _ hk => hb.block k (by omega)⟩
end Go.Proofs.YtgilnjngphhhlaaGreat
/- Layer 1: the files, told one by one with their sizes: the iterator of Each. -/
namespace Go.Fsy
open Go.RowKit Go.Maps Go.Lec
/-- What a round leaves of the iterator's: all cells but those of some blocks. -/
structure KpC (X : Nat → Prop) (W W' : World) : Prop where
  size : W.heap.size ≤ W'.heap.size
  blk : ∀ (k : Nat) (o : Obj), W.heap[k]? = some o → o.isCells = true → ¬ X k → W'.heap[k]? = some o
section
variable {X I : Nat → Prop} {W W' A B C : World}
theorem KpC.refl (X : Nat → Prop) (W : World) : KpC X W W := ⟨Nat.le_refl _, fun _ _ h _ _ => h⟩
theorem KpC.trans (h : KpC X A B) (k : KpC X B C) : KpC X A C := ⟨Nat.le_trans h.size k.size, fun b o ho hc hx => k.blk b o (h.blk b o ho hc hx) hc hx⟩
theorem KpC.of_kb (h : KbP X W W') : KpC X W W' := ⟨h.size, fun k _o ho _ hx => (h.block k (Array.getElem?_eq_some_iff.1 ho).1 hx).trans ho⟩
theorem KpC.of_below (h : Below W.heap.size W W') : KpC X W W' := ⟨h.size, fun k _o ho _ _ => (h.block k (Array.getElem?_eq_some_iff.1 ho).1).trans ho⟩
theorem KpC.put (W : World) (l : Nat) (o o' : Obj) (h : W.heap[l]? = some o) (hc : o.isCells = false) : KpC X W (W.putObj l o') := by
  have hg := grownBy_putObj' W l o'
  refine ⟨hg.size, fun k u hu hcu _ => (hg.block k (Array.getElem?_eq_some_iff.1 hu).1 (fun e => ?_)).trans hu⟩
  cases e
  rw [h] at hu; cases hu; rw [hc] at hcu; cases hcu
theorem KpC.cell (h : KpC X W W') {p : Addr} {v : Value} (hv : W.cell? p = some v) (hx : ¬ X p.block) : W'.cell? p = some v := by
  obtain ⟨o, ho, hc⟩ := cells_of_cell hv
  exact (World.cell?_of_block ((h.blk _ o ho hc hx).trans ho.symm)).trans hv
theorem RdKP.kpC {k n : Nat} {A : Option Addr} {xs : List Value} (h : RdKP I W k A n xs) (hk : KpC X W W') (hI : ∀ b, I b → ¬ X b) : RdKP I W' k A n xs :=
  ⟨⟨h.rd.1, fun hn => by
    obtain ⟨b, o, e, hb, hc⟩ := h.rd.2 hn
    exact ⟨b, o, e, Nat.lt_of_lt_of_le hb hk.size, fun i u hu => hk.cell (hc i u hu) (hI _ (h.lie hn ⟨b, o, none⟩ e))⟩⟩, h.lie⟩
end
theorem kpC_t {X : Nat → Prop} {A B C : World} (h : KpC X A B) (k : KpC X B C) : KpC X A C := h.trans k
theorem kpC_b {X : Nat → Prop} {w : World} (W : World) (l : Nat) (o o' : Obj) (_ : w.heap.size ≤ l) (h : W.heap[l]? = some o) (h1 : o.isCells = false) (_ : o.isWalk = false) : KpC X W (W.putObj l o') := KpC.put W l o o' h h1
end Go.Fsy
namespace Go.Proofs.YtgilnjngphhhlaaGreat
open Go.RowKit Go.Lec Go.Fsy Go.Op Go.Maps Go.Shelf
attribute [local go_sem] Oper.semAt_some
end Go.Proofs.YtgilnjngphhhlaaGreat
