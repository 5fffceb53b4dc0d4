/- Words for lists of elements of several cells, of whatever make: as they lie in memory. Nothing here speaks of the program. -/
import Derived.Test.YtedelkifadonjaaMetas
namespace Go.Lec
open Go.RowKit
/-- A slice within an element: where it lies, how long it is, what it reads as. -/
structure Part where
  A : Option Addr
  n : Nat
  xs : List Value
/-- A make of elements: their cells, the slices within them, and what holds of them beside. -/
structure Enc (α : Type) where
  k : Nat
  cs : α → List Value
  len : ∀ a, (cs a).length = k
  one : ∀ a, ∀ u ∈ cs a, u.oneCell' = true
  ps : α → List Part
  side : α → Prop
variable {α : Type} {E : Enc α}
/-- The slices of an element read as its own. -/
def Enc.ok (E : Enc α) (w : World) (B : Nat) (m : α) : Prop := (∀ p ∈ E.ps m, Rd w B p.A p.n p.xs) ∧ E.side m
/-- The blocks in which they lie. -/
def Enc.lie (E : Enc α) (X : Nat → Prop) (m : α) : Prop := ∀ p ∈ E.ps m, 0 < p.n → ∀ a, p.A = some a → X a.block
section
variable {w w' : World} {B B' n c k : Nat} {A : Option Addr} {L : List α} {m : α} {X Y : Nat → Prop}
theorem Enc.ok.more (h : E.ok w B m) (hB : B ≤ B') : E.ok w B' m := ⟨fun p hp => (h.1 p hp).more hB, h.2⟩
theorem Enc.ok.below (h : E.ok w B m) (hb : Below B' w w') (hB : B ≤ B') : E.ok w' B m := ⟨fun p hp => (h.1 p hp).below hb hB, h.2⟩
theorem Enc.ok.alloc (h : E.ok w B m) (hB : B ≤ w.heap.size) (o : Obj) : E.ok (w.alloc o) B m := ⟨fun p hp => (h.1 p hp).alloc hB o, h.2⟩
theorem Enc.ok.drewN (h : E.ok w B m) (j : Nat) : E.ok (w.drewN j) B m := h
theorem Enc.ok.lt (h : E.ok w B m) : E.lie (· < B) m := fun p hp hn a ha => by
  obtain ⟨b, o, e, hb, _⟩ := (h.1 p hp).2 hn
  rw [e] at ha; cases ha; exact hb
theorem Enc.lie.imp (h : E.lie X m) (hi : ∀ b, X b → Y b) : E.lie Y m := fun p hp hn a ha => hi _ (h p hp hn a ha)
theorem Enc.lie.and (h : E.lie X m) (h2 : E.lie Y m) : E.lie (fun b => X b ∧ Y b) m := fun p hp hn a ha => ⟨h p hp hn a ha, h2 p hp hn a ha⟩
theorem Rd.setFar {xs : List Value} (h : Rd w B A n xs) {p : Addr} (hi : 0 < n → ∀ a, A = some a → a.block ≠ p.block) (u : Value) : Rd (w.setCell p u) B A n xs :=
  ⟨h.1, fun hn => by
    obtain ⟨b, o, e, hb, hc⟩ := h.2 hn
    have := hi hn _ e
    exact ⟨b, o, e, hb, fun i x hx => (World.cell?_of_block (Below.heap_setCell w p u b this)).trans (hc i x hx)⟩⟩
theorem Enc.ok.setFar (h : E.ok w B m) {p : Addr} (hi : E.lie (· ≠ p.block) m) (u : Value) : E.ok (w.setCell p u) B m :=
  ⟨fun q hq => (h.1 q hq).setFar (hi q hq) u, h.2⟩
theorem Enc.ok.grownX {x : Option Nat} (h : E.ok w B m) (hB : B ≤ w.heap.size) (ha : E.lie (fun b => some b ≠ x) m) (hg : w.grownBy w' x) : E.ok w' B m :=
  ⟨fun p hp => (h.1 p hp).grownX hB (ha p hp) hg, h.2⟩
/-- All that is below a place, and what a row of the call's own says. -/
theorem Enc.ok.kept (h : E.ok w B m) (hk : ∀ b, b < B → X b → w'.heap[b]? = w.heap[b]?) (hX : E.lie X m) : E.ok w' B m :=
  ⟨fun p hp => ⟨(h.1 p hp).1, fun hn => by
    obtain ⟨b, o, e, hb, hc⟩ := (h.1 p hp).2 hn
    exact ⟨b, o, e, hb, fun i x hx => (World.cell?_of_block (hk b hb (hX p hp hn _ e))).trans (hc i x hx)⟩⟩, h.2⟩

theorem grownBy_set (w : World) (a : Addr) (u : Value) : w.grownBy (w.setCell a u) (some a.block) :=
  ⟨rfl, rfl, rfl, by simp, fun k _ hne => Below.heap_setCell w a u k (fun e => hne (by rw [e]))⟩
theorem gset {w w' : World} {g : Nat} (h : w.grownBy w' (some g)) (i : Nat) (u : Value) : w.grownBy (w'.setCell ⟨g, i, none⟩ u) (some g) :=
  ⟨h.os, h.tape, h.output, by simpa using h.size, fun k hk hne => (Below.heap_setCell w' ⟨g, i, none⟩ u k (fun e => hne (by rw [e]))).trans (h.block k hk hne)⟩
theorem gdrew {w w' : World} {x : Option Nat} (h : w.grownBy w' x) : w.grownBy w'.drew x := ⟨h.os, h.tape, h.output, h.size, h.block⟩
theorem Bk.grownX {b : Nat} {t : TypeId} {cs : Array Value} {x : Option Nat} (h : Bk w b t cs) (hg : w.grownBy w' x) (hb : some b ≠ x) : Bk w' b t cs := (hg.block b h.lt hb).trans h

/-- The slice '.slice A n c' reads as the elements L, all below block B. -/
def Els (E : Enc α) (w : World) (B : Nat) (A : Option Addr) (n : Nat) (L : List α) : Prop := RdK w B E.k A n (L.flatMap E.cs) ∧ L.length = n ∧ ∀ m ∈ L, E.ok w B m
theorem Els.nil_ : Els E w B A 0 [] := ⟨⟨by simp, fun h => absurd h (by omega)⟩, rfl, fun _ h => by cases h⟩
theorem Els.more (h : Els E w B A n L) (hB : B ≤ B') : Els E w B' A n L := ⟨h.1.more hB, h.2.1, fun m hm => (h.2.2 m hm).more hB⟩
theorem Els.below (h : Els E w B A n L) (hb : Below B' w w') (hB : B ≤ B') : Els E w' B A n L := ⟨h.1.below hb hB, h.2.1, fun m hm => (h.2.2 m hm).below hb hB⟩
theorem Els.alloc (h : Els E w B A n L) (hB : B ≤ w.heap.size) (o : Obj) : Els E (w.alloc o) B A n L := ⟨h.1.alloc hB o, h.2.1, fun m hm => (h.2.2 m hm).alloc hB o⟩
theorem Els.drewN (h : Els E w B A n L) (j : Nat) : Els E (w.drewN j) B A n L := h
/-- Element k, its cells in whatever world keeps them. -/
theorem Els.at (h : Els E w B A n L) {k : Nat} (hk : k < n) : ∃ b o m, A = some ⟨b, o, none⟩ ∧ b < B ∧ L[k]? = some m ∧ L.take (k + 1) = L.take k ++ [m] ∧ E.ok w B m ∧ ∀ W : World, Below B w W → ∀ j u, (E.cs m)[j]? = some u → W.cell? ⟨b, o + k * E.k + j, none⟩ = some u := by
  have hkL : k < L.length := by rw [h.2.1]; exact hk
  have hk0 : 0 < E.k ∨ E.k = 0 := by omega
  obtain ⟨b, o, e, hb, hc⟩ := h.1.2 (by omega)
  refine ⟨b, o, L[k], e, hb, List.getElem?_eq_getElem hkL, by rw [List.take_succ_eq_append_getElem hkL], h.2.2 _ (List.getElem_mem hkL), fun W hW j u hu => ?_⟩
  have hj : j < E.k := by rw [← E.len L[k]]; exact (List.getElem?_eq_some_iff.1 hu).1
  refine (hW.cell (p := ⟨b, o + k * E.k + j, none⟩) hb).trans ?_
  have := hc (E.k * k + j) u (by rw [flat_get E.len L k j L[k] (List.getElem?_eq_getElem hkL) hj]; exact hu)
  rw [Nat.mul_comm, ← Nat.add_assoc] at this
  exact this

/-- What is gathered: a row of the call's own; each element's slices lie elsewhere, and where X holds. -/
structure Gth (E : Enc α) (X : Nat → Prop) (w W : World) (e : TypeId) (L : List α) (v : Value) : Prop where
  own : OwnK W w.heap.size e E.k v L.length (L.flatMap E.cs)
  oks : ∀ m ∈ L, E.ok W W.heap.size m ∧ E.lie (fun b => some b ≠ v.ownBlock) m ∧ E.lie X m
  below : Below w.heap.size w W
end
section
variable {w W W' : World} {e : TypeId} {L : List α} {v v2 : Value} {m' : α} {X : Nat → Prop}
theorem Gth.nil (E : Enc α) (X : Nat → Prop) (w : World) (e : TypeId) {W : World} (hb : Below w.heap.size w W) : Gth E X w W e [] (.slice none 0 0) := ⟨OwnK.nil_ _ _ _ _, (fun _ h => by cases h), hb⟩
theorem Gth.grow (h : Gth E X w W e L v) (hb : Below W.heap.size W W') : Gth E X w W' e L v :=
  ⟨h.own.below hb (Nat.le_refl _), fun m hm => ⟨((h.oks m hm).1.below hb (Nat.le_refl _)).more hb.size, (h.oks m hm).2⟩, h.below.trans (hb.mono h.below.size)⟩
theorem Gth.drewN (h : Gth E X w W e L v) (j : Nat) : Gth E X w (W.drewN j) e L v := ⟨h.own.drewN j, h.oks, ⟨h.below.os, h.below.tape, h.below.output, h.below.size, h.below.block⟩⟩
theorem Gth.els {A : Option Addr} {n c : Nat} (h : Gth E X w W e L (.slice A n c)) (hn : L.length = n) : Els E W W.heap.size A n L := by
  subst hn
  exact ⟨h.own.rd, rfl, fun m hm => (h.oks m hm).1⟩
/-- A store into a block that is neither the row nor of any element's slices. -/
theorem Gth.set (h : Gth E X w W e L v) {p : Addr} (hp : w.heap.size ≤ p.block) (ho : v.ownBlock ≠ some p.block) (hX : ∀ b, X b → b ≠ p.block) (u : Value) : Gth E X w (W.setCell p u) e L v :=
  ⟨h.own.far ho u, fun m hm => ⟨((h.oks m hm).1.setFar ((h.oks m hm).2.2.imp hX) u).more (by simp), (h.oks m hm).2⟩, h.below.setCell hp u⟩
/-- Nothing has turned but a block that is neither the row nor of any element's slices. -/
theorem Gth.kept (h : Gth E X w W e L v) {g : Nat} (hk : W.grownBy W' (some g)) (hp : w.heap.size ≤ g) (ho : v.ownBlock ≠ some g) (hX : ∀ b, X b → b ≠ g) : Gth E X w W' e L v :=
  ⟨h.own.grown hk (fun j ej => by cases ej; exact ho), fun m hm => ⟨((h.oks m hm).1.grownX (Nat.le_refl _) ((h.oks m hm).2.2.imp fun b hb e => hX b hb (Option.some.inj e)) hk).more hk.size, (h.oks m hm).2⟩,
    h.below.grown hk h.below.size (fun j ej => by cases ej; exact hp)⟩
/-- A new element's slices lie elsewhere. -/
theorem Gth.far (h : Gth E X w W e L v) (hm : E.lie (W.heap.size ≤ ·) m') : E.lie (fun b => some b ≠ v.ownBlock) m' :=
  hm.imp fun b hb eb => by have := (h.own.lt _ eb.symm).2; omega
/-- What was there before the call lies elsewhere. -/
theorem Gth.old (h : Gth E X w W e L v) (hm : E.lie (· < w.heap.size) m') : E.lie (fun b => some b ≠ v.ownBlock) m' :=
  hm.imp fun b hb eb => by have := (h.own.lt _ eb.symm).1; omega
theorem Gth.snoc (h : Gth E X w W e L v) (hm : E.ok W W.heap.size m') (ha : E.lie (fun b => some b ≠ v.ownBlock) m') (hx : E.lie X m') (ho : OwnK W' w.heap.size e E.k v2 (L.length + 1) (L.flatMap E.cs ++ E.cs m'))
    (hg : W.grownBy W' v.ownBlock) (hat : v2.ownBlock = v.ownBlock ∨ ∃ g, v2.ownBlock = some g ∧ W.heap.size ≤ g) (hb : Below w.heap.size w W') : Gth E X w W' e (L ++ [m']) v2 := by
  have key : ∀ x : α, E.ok W W.heap.size x → E.lie (fun b => some b ≠ v.ownBlock) x → E.lie (fun b => some b ≠ v2.ownBlock) x := by
    intro x hok haw
    rcases hat with e1 | ⟨g, e1, hg1⟩
    · rw [e1]; exact haw
    · exact hok.lt.imp fun b hb eb => by rw [e1] at eb; cases eb; omega
  refine ⟨by simpa using ho, fun x hx' => ?_, hb⟩
  rcases List.mem_append.1 hx' with hx' | hx'
  · have := h.oks x hx'
    exact ⟨(this.1.grownX (Nat.le_refl _) this.2.1 hg).more hg.size, key x this.1 this.2.1, this.2.2⟩
  · obtain rfl : x = m' := by simpa using hx'
    exact ⟨(hm.grownX (Nat.le_refl _) ha hg).more hg.size, key x hm ha, hx⟩
end
end Go.Lec
