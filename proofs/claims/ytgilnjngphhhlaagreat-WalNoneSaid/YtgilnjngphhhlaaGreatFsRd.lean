/- Layer 1: slices of wide elements that lie in given blocks. -/
import Derived.Test.YtgilnjngphhhlaaGreatFsA
namespace Go.Fsy
open Go.RowKit Go.Maps Go.Lec
/-- A slice of elements of k cells that reads as a list, in blocks of I. -/
structure RdKP (I : Nat → Prop) (w : World) (k : Nat) (A : Option Addr) (n : Nat) (xs : List Value) : Prop where
  rd : RdK w w.heap.size k A n xs
  lie : 0 < n → ∀ p, A = some p → I p.block
section
variable {X I : Nat → Prop} {a w w' : World} {B n k : Nat} {A : Option Addr} {xs : List Value} {e : TypeId} {v : Value}
theorem RdK.kbP (h : RdK w w.heap.size k A n xs) (hk : KbP X w w') (hS : 0 < n → ∀ p, A = some p → ¬ X p.block) : RdK w' w'.heap.size k A n xs :=
  ⟨h.1, fun hn => by
    obtain ⟨b, o, e, hb, hc⟩ := h.2 hn
    exact ⟨b, o, e, Nat.lt_of_lt_of_le hb hk.size, fun i u hu => (hk.cell (p := ⟨b, o + i, none⟩) hb (hS hn ⟨b, o, none⟩ e)).trans (hc i u hu)⟩⟩
theorem RdKP.kbP (h : RdKP I w k A n xs) (hk : KbP X w w') (hI : ∀ b, I b → ¬ X b) : RdKP I w' k A n xs := ⟨RdK.kbP h.rd hk fun hn p e => hI _ (h.lie hn p e), h.lie⟩
theorem RdKP.below (h : RdKP I w k A n xs) (hb : Below w.heap.size w w') : RdKP I w' k A n xs := h.kbP (X := fun _ => False) (KbP.of_below hb) (fun _ _ h => h)
theorem RdP.below (h : RdP I w A n xs) (hb : Below w.heap.size w w') : RdP I w' A n xs := h.kbP (X := fun _ => False) (KbP.of_below hb) (fun _ _ h => h)
theorem RdKP.more {I' : Nat → Prop} (h : RdKP I w k A n xs) (hI : ∀ b, I b → I' b) : RdKP I' w k A n xs := ⟨h.rd, fun hn p e => hI _ (h.lie hn p e)⟩
theorem RdKP.nil_ : RdKP I w k A 0 [] := ⟨RdK.nil_, fun h => absurd h (by omega)⟩
theorem RdKP.lt (h : RdKP I w k A n xs) : 0 < n → ∀ p, A = some p → p.block < w.heap.size := fun hn p e => by
  obtain ⟨b, o, e', hb, _⟩ := h.rd.2 hn
  rw [e] at e'; cases e'; exact hb
theorem RdKP.new_ {c m : Nat} {B : Nat} (h : OwnK w B e k (.slice A m c) n xs) : RdKP (fun b => B ≤ b ∧ b < w.heap.size) w k A n xs := by
  refine ⟨OwnK.rd h, fun hn p hp => ?_⟩
  subst hp
  exact World.ownsRow.lt h p.block rfl
theorem RdP.newB {c : Nat} {B : Nat} (h : w.ownsRow B e 1 (.slice A n c) n xs) : RdP (fun b => B ≤ b ∧ b < w.heap.size) w A n xs := by
  have h1 := RdP.new_ h
  exact ⟨h1.rd, fun hn p hp => ⟨h1.lie hn p hp, h1.lt hn p hp⟩⟩
/-- An owned row in which one cell is stored. -/
theorem OwnK.stored {g c m : Nat} (h : OwnK w B e k (.slice (some ⟨g, 0, none⟩) m c) n xs) (j : Nat) (_hj : j < xs.length) (u : Value) : OwnK (w.setCell ⟨g, j, none⟩ u) B e k (.slice (some ⟨g, 0, none⟩) m c) n (xs.set j u) := by
  refine ⟨by rw [List.length_set]; exact h.1, ?_⟩
  rcases h.2 with ⟨hv, _⟩ | ⟨g', cap, cur, hv, hg, hh, hnc, hm, hs, ht⟩
  · cases hv
  · simp only [Value.slice.injEq, Option.some.injEq, Addr.mk.injEq] at hv
    obtain ⟨⟨rfl, _⟩, rfl, rfl⟩ := hv
    refine .inr ⟨g, _, cur.setIfInBounds j u, rfl, hg, heap_setCell_same w g j cur e u hh, hnc, hm, by simpa using hs, ?_⟩
    have : (cur.setIfInBounds j u).toList = cur.toList.set j u := by simp
    rw [this, List.take_set, ht]
end
theorem rdK_at {α : Type} {enc : α → List Value} {w : World} {B kk n : Nat} {A : Option Addr} {L : List α} (hk : ∀ a, (enc a).length = kk) (h : RdK w B kk A n (L.flatMap enc)) {k : Nat} (hlt : k < L.length) (hn : L.length = n) (_hp : 0 < kk) :
    ∃ b o, A = some ⟨b, o, none⟩ ∧ b < B ∧ ∀ W : World, Below B w W → ∀ j u, (enc L[k])[j]? = some u → W.cell? ⟨b, o + k * kk + j, none⟩ = some u := by
  obtain ⟨b, o, e, hb, hc⟩ := h.2 (by omega)
  refine ⟨b, o, e, hb, fun W hW j u hu => ?_⟩
  have hj : j < kk := by
    rcases Nat.lt_or_ge j kk with h1 | h1
    · exact h1
    · rw [List.getElem?_eq_none (by rw [hk]; exact h1)] at hu; cases hu
  have hg := flat_get hk L k j L[k] (List.getElem?_eq_getElem hlt) hj
  rw [hu] at hg
  have := (hW.cell (p := ⟨b, o + (kk * k + j), none⟩) hb).trans (hc _ _ hg)
  rw [Nat.mul_comm, ← Nat.add_assoc] at this
  exact this
end Go.Fsy
