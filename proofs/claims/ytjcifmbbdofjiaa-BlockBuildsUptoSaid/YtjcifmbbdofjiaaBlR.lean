/- Layer 20: entries as they lie in memory; what a reader's own turning leaves as it is. Nothing here speaks of the program. -/
import Derived.Test.YtjcifmbbdofjiaaBlPlain
import Derived.Test.YtjcifmbbdofjiaaGenB
namespace Go.Lec
open Go.RowKit
/-- An entry: its five cells, and what its two slices read as. -/
structure Ex where
  at_ : Nat
  A1 : Option Addr
  n1 : Nat
  c1 : Nat
  key : List UInt8
  A2 : Option Addr
  n2 : Nat
  c2 : Nat
  vl : List UInt8
  has : Nat
  may : Nat
def Ex.cs (m : Ex) : List Value := [.int .i64 (m.at_ : Int), .slice m.A1 m.n1 m.c1, .slice m.A2 m.n2 m.c2, .int .i64 (m.has : Int), .int .i64 (m.may : Int)]
def Ex.en (m : Ex) : En := ⟨m.at_, m.key, m.vl, m.has, m.may⟩
def encEx : Enc Ex where
  k := 5
  cs := Ex.cs
  len _ := rfl
  one m := by
    intro u hu
    simp only [Ex.cs, List.mem_cons, List.not_mem_nil, or_false] at hu
    rcases hu with rfl | rfl | rfl | rfl | rfl <;> rfl
  ps m := [⟨m.A1, m.n1, bcs m.key⟩, ⟨m.A2, m.n2, bcs m.vl⟩]
  side m := m.n1 ≤ m.c1 ∧ m.n2 ≤ m.c2 ∧ m.n1 ≤ 1048576 ∧ m.n2 ≤ 1048576
theorem encEx_ok {w : World} {B : Nat} {m : Ex} (h1 : Rd w B m.A1 m.n1 (bcs m.key)) (h2 : Rd w B m.A2 m.n2 (bcs m.vl)) (h3 : m.n1 ≤ m.c1) (h4 : m.n2 ≤ m.c2) (h5 : m.n1 ≤ 1048576) (h6 : m.n2 ≤ 1048576) : encEx.ok w B m :=
  ⟨fun p hp => by
    simp only [encEx, List.mem_cons, List.not_mem_nil, or_false] at hp
    rcases hp with rfl | rfl
    · exact h1
    · exact h2, h3, h4, h5, h6⟩
theorem ex_ok {w : World} {B : Nat} {m : Ex} (h : encEx.ok w B m) : Rd w B m.A1 m.n1 (bcs m.key) ∧ Rd w B m.A2 m.n2 (bcs m.vl) ∧ m.n1 ≤ m.c1 ∧ m.n2 ≤ m.c2 ∧ m.n1 ≤ 1048576 ∧ m.n2 ≤ 1048576 := ⟨h.1 _ List.mem_cons_self, h.1 _ (List.mem_cons_of_mem _ List.mem_cons_self), h.2⟩
theorem encEx_lie {X : Nat → Prop} {m : Ex} (h1 : 0 < m.n1 → ∀ a, m.A1 = some a → X a.block) (h2 : 0 < m.n2 → ∀ a, m.A2 = some a → X a.block) : encEx.lie X m := fun p hp hn a ha => by
  simp only [encEx, List.mem_cons, List.not_mem_nil, or_false] at hp
  rcases hp with rfl | rfl
  · exact h1 hn a ha
  · exact h2 hn a ha
section
variable {w w1 w2 : World} {R : Nat} {x : Option Nat}
theorem gb_refl (w : World) (x : Option Nat) : w.grownBy w x := ⟨rfl, rfl, rfl, Nat.le_refl _, fun _ _ _ => rfl⟩
theorem gb_below {B : Nat} (h : w.grownBy w1 x) (hb : Below B w1 w2) (hB : w.heap.size ≤ B) : w.grownBy w2 x :=
  ⟨hb.os.trans h.os, hb.tape.trans h.tape, hb.output.trans h.output, Nat.le_trans h.size hb.size, fun k hk hne => (hb.block k (by omega)).trans (h.block k hk hne)⟩
theorem gb_kb {S : List Nat} (h : w.grownBy w1 (some R)) (hk : Kb S w1 w2) (hS : ∀ b ∈ S, b = R ∨ w.heap.size ≤ b) : w.grownBy w2 (some R) :=
  ⟨hk.os.trans h.os, hk.tape.trans h.tape, hk.output.trans h.output, Nat.le_trans h.size hk.size, fun k hk1 hne => (hk.block k (Nat.lt_of_lt_of_le hk1 h.size) (fun hm => by
    rcases hS k hm with e | e
    · exact hne (by rw [e])
    · omega)).trans (h.block k hk1 hne)⟩
theorem gb_alloc (h : w.grownBy w1 x) (o : Obj) : w.grownBy (w1.alloc o) x := gb_below h ((Below.refl w1.heap.size w1).alloc (Nat.le_refl _) o) h.size
theorem gb_set (h : w.grownBy w1 x) {p : Addr} (hp : w.heap.size ≤ p.block) (u : Value) : w.grownBy (w1.setCell p u) x :=
  ⟨h.os, h.tape, h.output, by simpa using h.size, fun k hk hne => (Below.heap_setCell w1 p u k (by omega)).trans (h.block k hk hne)⟩
theorem gb_drewN (h : w.grownBy w1 x) (j : Nat) : w.grownBy (w1.drewN j) x := ⟨h.os, h.tape, h.output, h.size, h.block⟩
theorem below_gb {B : Nat} {g : Nat} {w0 : World} (h : Below B w0 w) (hg : w.grownBy w1 (some g)) (hB : B ≤ w.heap.size) (hp : B ≤ g) : Below B w0 w1 := h.grown hg hB (fun j ej => by cases ej; exact hp)
theorem Rd.kbR {S : List Nat} {B n : Nat} {A : Option Addr} {xs : List Value} (h : Rd w B A n xs) (hk : Kb S w w1) (hB : B ≤ w.heap.size) (hS : 0 < n → ∀ a, A = some a → a.block ∉ S) : Rd w1 B A n xs :=
  ⟨h.1, fun hn => by
    obtain ⟨b, o, e, hb, hc⟩ := h.2 hn
    exact ⟨b, o, e, hb, fun i u hu => (hk.cell (p := ⟨b, o + i, none⟩) (by dsimp only; omega) (hS hn ⟨b, o, none⟩ e)).trans (hc i u hu)⟩⟩
end
/-- What is gathered from one place on is gathered from an earlier one on. -/
theorem Gth.base {α : Type} {E : Enc α} {X : Nat → Prop} {w0 w W : World} {e : TypeId} {L : List α} {v : Value} (h : Gth E X w W e L v) (hb : Below w0.heap.size w0 w) : Gth E X w0 W e L v :=
  ⟨h.own.mono hb.size, h.oks, hb.trans (h.below.mono hb.size)⟩
theorem Gth.imp {α : Type} {E : Enc α} {X Y : Nat → Prop} {w W : World} {e : TypeId} {L : List α} {v : Value} (h : Gth E X w W e L v) (hi : ∀ b, X b → Y b) : Gth E Y w W e L v :=
  ⟨h.own, fun m hm => ⟨(h.oks m hm).1, (h.oks m hm).2.1, (h.oks m hm).2.2.imp hi⟩, h.below⟩
theorem bcs_drop (l : List UInt8) (k : Nat) : bcs (l.drop k) = (bcs l).drop k := by simp [bcs]
theorem Kb.cell2 {S : List Nat} {a w : World} {B : Nat} (h : Kb S a w) {p : Addr} (hp : p.block < B) (hB : B ≤ a.heap.size) (hn : p.block ∉ S) : w.cell? p = a.cell? p := h.cell (by omega) hn
/-- Element k of a slice, its cells in whatever world keeps all but some blocks. -/
theorem Els.atK {α : Type} {E : Enc α} {w : World} {B n : Nat} {A : Option Addr} {L : List α} {S : List Nat} (h : Els E w B A n L) (hB : B ≤ w.heap.size) (hS : ∀ a, A = some a → a.block ∉ S) {k : Nat} (hk : k < n) : ∃ b o m, A = some ⟨b, o, none⟩ ∧ b < B ∧ L[k]? = some m ∧ m ∈ L ∧ E.ok w B m ∧ ∀ W : World, Kb S w W → ∀ j u, (E.cs m)[j]? = some u → W.cell? ⟨b, o + k * E.k + j, none⟩ = some u := by
  obtain ⟨b, o, m, e, hb, hmk, _, hok, hc⟩ := h.at hk
  exact ⟨b, o, m, e, hb, hmk, List.mem_of_getElem? hmk, hok, fun W hW j u hu => (hW.cell (p := ⟨b, o + k * E.k + j, none⟩) (by dsimp only; omega) (by have := hS _ e; exact this)).trans (hc w (Below.refl _ _) j u hu)⟩
/-- Whole numbers as cells. -/
def ncs (l : List Nat) : List Value := l.map fun (x : Nat) => Value.int .i64 (x : Int)
theorem ncs_length (l : List Nat) : (ncs l).length = l.length := by simp [ncs]
theorem ncs_snoc (l : List Nat) (x : Nat) : ncs (l ++ [x]) = ncs l ++ [.int .i64 (x : Int)] := by simp [ncs]
theorem ncs_one (l : List Nat) : ∀ u ∈ ncs l, u.oneCell' = true := by
  intro u hu
  obtain ⟨x, _, rfl⟩ := List.mem_map.1 hu
  rfl
end Go.Lec
