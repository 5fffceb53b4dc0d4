/- Words for lists of pairs, as they lie in memory. -/
import Derived.Test.YtedelkifadonjaaMetas
namespace Go.Lec
open Go.RowKit

/-- A pair: its two cells, and the bytes that its two slices read as. -/
structure Pr where
  A1 : Option Addr
  n1 : Nat
  c1 : Nat
  key : List UInt8
  A2 : Option Addr
  n2 : Nat
  c2 : Nat
  vl : List UInt8

/-- Its cells. -/
def Pr.cs (m : Pr) : List Value := [.slice m.A1 m.n1 m.c1, .slice m.A2 m.n2 m.c2]
theorem Pr.cs_len (m : Pr) : m.cs.length = 2 := rfl
theorem Pr.cs_one (m : Pr) : ∀ u ∈ m.cs, u.oneCell' = true := by
  intro u hu
  simp only [Pr.cs, List.mem_cons, List.not_mem_nil, or_false] at hu
  rcases hu with rfl | rfl <;> rfl
/-- Its value. -/
def Pr.val (m : Pr) : Value := .agg #[.slice m.A1 m.n1 m.c1, .slice m.A2 m.n2 m.c2]
/-- Its slices read as its bytes. -/
def Pr.ok (w : World) (B : Nat) (m : Pr) : Prop := Rd w B m.A1 m.n1 (bcs m.key) ∧ Rd w B m.A2 m.n2 (bcs m.vl) ∧ m.n1 ≤ m.c1 ∧ m.n2 ≤ m.c2 ∧ m.n1 ≤ 140737488355328 ∧ m.n2 ≤ 140737488355328

section
variable {w w' : World} {B B' n c : Nat} {A : Option Addr} {L : List Pr} {m : Pr}
theorem Pr.ok.more (h : m.ok w B) (hB : B ≤ B') : m.ok w B' := ⟨h.1.more hB, h.2.1.more hB, h.2.2⟩
theorem Pr.ok.below (h : m.ok w B) (hb : Below B' w w') (hB : B ≤ B') : m.ok w' B := ⟨h.1.below hb hB, h.2.1.below hb hB, h.2.2⟩
theorem Pr.ok.alloc (h : m.ok w B) (hB : B ≤ w.heap.size) (o : Obj) : m.ok (w.alloc o) B := ⟨h.1.alloc hB o, h.2.1.alloc hB o, h.2.2⟩
theorem Pr.ok.drewN (h : m.ok w B) (k : Nat) : m.ok (w.drewN k) B := h

/-- The slice '.slice A n c' reads as the pairs L, all below block B. -/
def Prs (w : World) (B : Nat) (A : Option Addr) (n : Nat) (L : List Pr) : Prop := RdK w B 2 A n (L.flatMap Pr.cs) ∧ ∀ m ∈ L, m.ok w B
theorem Prs.len (h : Prs w B A n L) : L.length = n := by
  have := h.1.1
  rw [flat_len Pr.cs_len] at this
  omega
theorem Prs.nil_ : Prs w B A 0 [] := ⟨RdK.nil_, fun _ h => by cases h⟩
theorem Prs.more (h : Prs w B A n L) (hB : B ≤ B') : Prs w B' A n L := ⟨h.1.more hB, fun m hm => (h.2 m hm).more hB⟩
theorem Prs.below (h : Prs w B A n L) (hb : Below B' w w') (hB : B ≤ B') : Prs w' B A n L := ⟨h.1.below hb hB, fun m hm => (h.2 m hm).below hb hB⟩
theorem Prs.alloc (h : Prs w B A n L) (hB : B ≤ w.heap.size) (o : Obj) : Prs (w.alloc o) B A n L := ⟨h.1.alloc hB o, fun m hm => (h.2 m hm).alloc hB o⟩
theorem Prs.drew (h : Prs w B A n L) : Prs w.drew B A n L := h
theorem Prs.drewN (h : Prs w B A n L) (k : Nat) : Prs (w.drewN k) B A n L := h
/-- One pair of a slice: its five cells. -/
theorem Prs.at (h : Prs w B A n L) {k : Nat} (hk : k < n) : ∃ b o, A = some ⟨b, o, none⟩ ∧ b < B ∧ ∀ i (hi : i < L.length) j u, L[i].cs[j]? = some u → w.cell? ⟨b, o + (2 * i + j), none⟩ = some u := by
  obtain ⟨b, o, e, hb, hc⟩ := h.1.2 (by omega)
  refine ⟨b, o, e, hb, fun i hi j u hu => hc _ _ ?_⟩
  rw [flat_get Pr.cs_len L i j L[i] (List.getElem?_eq_getElem hi) ?_]
  · exact hu
  · have := (List.getElem?_eq_some_iff.1 hu).1
    rwa [Pr.cs_len] at this
/-- Pair k, its cells in whatever world keeps them. -/
theorem Prs.cell2 (h : Prs w B A n L) {k : Nat} (hk : k < n) : ∃ b o m, A = some ⟨b, o, none⟩ ∧ b < B ∧ L[k]? = some m ∧ L.take (k + 1) = L.take k ++ [m] ∧ m.ok w B ∧ ∀ W : World, Below B w W →
    W.cell? ⟨b, o + k * 2, none⟩ = some (.slice m.A1 m.n1 m.c1) ∧ W.cell? ⟨b, o + k * 2 + 1, none⟩ = some (.slice m.A2 m.n2 m.c2) := by
  obtain ⟨b, o, e, hb, hc⟩ := h.at hk
  have hkL : k < L.length := by rw [h.len]; exact hk
  refine ⟨b, o, L[k], e, hb, List.getElem?_eq_getElem hkL, by rw [List.take_succ_eq_append_getElem hkL], h.2 _ (List.getElem_mem hkL), fun W hW => ?_⟩
  have g := fun j u (hu : L[k].cs[j]? = some u) => (hW.cell (p := ⟨b, o + (2 * k + j), none⟩) hb).trans (hc k hkL j u hu)
  rw [show o + k * 2 = o + (2 * k + 0) by omega]
  exact ⟨g 0 _ rfl, g 1 _ rfl⟩
theorem Prs.ok_at (h : Prs w B A n L) {i : Nat} (hi : i < L.length) : L[i].ok w B := h.2 _ (List.getElem_mem hi)
end

/-- What a pair says, wherever it lies. -/
def Pr.pl (m : Pr) : List UInt8 × List UInt8 := (m.key, m.vl)
/-- Its bytes lie elsewhere than in a row. -/
def Pr.away (X : Option Nat) (m : Pr) : Prop := (0 < m.n1 → ∀ a, m.A1 = some a → some a.block ≠ X) ∧ (0 < m.n2 → ∀ a, m.A2 = some a → some a.block ≠ X)
theorem Pr.ok.grownX {w w' : World} {B : Nat} {X : Option Nat} {m : Pr} (h : m.ok w B) (hB : B ≤ w.heap.size) (ha : m.away X) (hg : w.grownBy w' X) : m.ok w' B :=
  ⟨h.1.grownX hB ha.1 hg, h.2.1.grownX hB ha.2 hg, h.2.2⟩
theorem Pr.away.next {w : World} {B : Nat} {X X' : Option Nat} {m : Pr} (h : m.away X) (ho : m.ok w B) (hx : X' = X ∨ ∃ g, X' = some g ∧ B ≤ g) : m.away X' := by
  rcases hx with rfl | ⟨g, rfl, hg⟩
  · exact h
  · constructor
    · intro hn a ha e
      obtain ⟨b, o, e2, hb, _⟩ := ho.1.2 hn
      rw [e2] at ha
      cases ha
      injection e with e
      dsimp only at e
      omega
    · intro hn a ha e
      obtain ⟨b, o, e2, hb, _⟩ := ho.2.1.2 hn
      rw [e2] at ha
      cases ha
      injection e with e
      dsimp only at e
      omega
/-- Its bytes lie from a block on. -/
def Pr.hi (B : Nat) (m : Pr) : Prop := (∀ a, m.A1 = some a → B ≤ a.block) ∧ (∀ a, m.A2 = some a → B ≤ a.block)
theorem Pr.hi.mono {B B' : Nat} {m : Pr} (h : m.hi B) (hB : B' ≤ B) : m.hi B' := ⟨fun a e => Nat.le_trans hB (h.1 a e), fun a e => Nat.le_trans hB (h.2 a e)⟩
theorem Pr.ok.setLow {w : World} {B C : Nat} {m : Pr} (h : m.ok w B) (hi : m.hi C) {p : Addr} (hp : p.block < C) (u : Value) : m.ok (w.setCell p u) B :=
  ⟨h.1.setLow (fun a e => Nat.lt_of_lt_of_le hp (hi.1 a e)) u, h.2.1.setLow (fun a e => Nat.lt_of_lt_of_le hp (hi.2 a e)) u, h.2.2⟩
end Go.Lec
