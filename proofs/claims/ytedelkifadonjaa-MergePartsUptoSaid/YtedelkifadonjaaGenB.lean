/- Words for lists of lists of elements: rows that are filled one after another and kept in a row of rows. Nothing here speaks of the program. -/
import Derived.Test.YtedelkifadonjaaGen
namespace Go.Lec
open Go.RowKit
/-- A slice of elements, as an element. -/
structure Sl (α : Type) where
  A : Option Addr
  n : Nat
  c : Nat
  L : List α
def encSl {α : Type} (E : Enc α) : Enc (Sl α) where
  k := 1
  cs s := [.slice s.A s.n s.c]
  len _ := rfl
  one s u hu := by rw [List.mem_singleton.1 hu]; rfl
  ps s := ⟨s.A, s.n * E.k, s.L.flatMap E.cs⟩ :: s.L.flatMap E.ps
  side s := s.L.length = s.n ∧ s.n ≤ s.c ∧ ∀ m ∈ s.L, E.side m
section
variable {α : Type} {E : Enc α} {w W W' : World} {B : Nat} {s : Sl α} {X : Nat → Prop}
theorem encSl_ok (hk : 0 < E.k) : (encSl E).ok w B s ↔ Els E w B s.A s.n s.L ∧ s.n ≤ s.c := by
  constructor
  · rintro ⟨h, h1, h2, h3⟩
    have h0 := h _ List.mem_cons_self
    refine ⟨⟨⟨h0.1, fun hn => h0.2 (Nat.mul_pos hn hk)⟩, h1, fun m hm => ⟨fun p hp => h p (List.mem_cons_of_mem _ (List.mem_flatMap.2 ⟨m, hm, hp⟩)), h3 m hm⟩⟩, h2⟩
  · rintro ⟨⟨h0, h1, h3⟩, h2⟩
    refine ⟨fun p hp => ?_, h1, h2, fun m hm => (h3 m hm).2⟩
    rcases List.mem_cons.1 hp with rfl | hp
    · exact ⟨h0.1, fun hn => h0.2 (Nat.pos_of_mul_pos_right hn)⟩
    · obtain ⟨m, hm, hp⟩ := List.mem_flatMap.1 hp
      exact (h3 m hm).1 p hp
theorem encSl_lie (h1 : 0 < s.n → ∀ a, s.A = some a → X a.block) (h2 : ∀ m ∈ s.L, E.lie X m) : (encSl E).lie X s := by
  intro p hp hn a ha
  rcases List.mem_cons.1 hp with rfl | hp
  · exact h1 (Nat.pos_of_mul_pos_right hn) a ha
  · obtain ⟨m, hm, hp⟩ := List.mem_flatMap.1 hp
    exact h2 m hm p hp hn a ha
/-- A row of rows, and the row at hand. -/
structure Two (E : Enc α) (w W : World) (eS eP : TypeId) (out : List (Sl α)) (vo : Value) (now : List α) (vn : Value) : Prop where
  go : Gth (encSl E) (fun _ => True) w W eS out vo
  gn : Gth E (fun _ => True) w W eP now vn
  ap : ∀ g, vo.ownBlock = some g → vn.ownBlock ≠ some g
  on : ∀ s ∈ out, (encSl E).lie (fun b => some b ≠ vn.ownBlock) s
  no : ∀ m ∈ now, E.lie (fun b => some b ≠ vo.ownBlock) m
variable {eS eP : TypeId} {out : List (Sl α)} {now : List α} {vo vn v2 : Value} {m : α}
theorem own_nil : (Value.slice none 0 0).ownBlock = none := rfl
theorem Two.nil (E : Enc α) {w W : World} (eS eP : TypeId) (hb : Below w.heap.size w W) : Two E w W eS eP [] (.slice none 0 0) [] (.slice none 0 0) :=
  ⟨Gth.nil _ _ _ _ hb, Gth.nil _ _ _ _ hb, (fun _ h => by cases h), (fun _ h => by cases h), (fun _ h => by cases h)⟩
theorem Two.grow (h : Two E w W eS eP out vo now vn) (hb : Below W.heap.size W W') : Two E w W' eS eP out vo now vn := ⟨h.go.grow hb, h.gn.grow hb, h.ap, h.on, h.no⟩
theorem Two.drewN (h : Two E w W eS eP out vo now vn) (j : Nat) : Two E w (W.drewN j) eS eP out vo now vn := ⟨h.go.drewN j, h.gn.drewN j, h.ap, h.on, h.no⟩
/-- What has grown elsewhere leaves a gathered row as it is. -/
theorem Gth.other {L : List α} {e : TypeId} {v : Value} {x : Option Nat} (h : Gth E X w W e L v) (hg : W.grownBy W' x) (ho : ∀ g, x = some g → v.ownBlock ≠ some g) (hl : ∀ m ∈ L, E.lie (fun b => some b ≠ x) m) (hp : ∀ g, x = some g → w.heap.size ≤ g) : Gth E X w W' e L v :=
  ⟨h.own.grown hg ho, fun m hm => ⟨((h.oks m hm).1.grownX (Nat.le_refl _) (hl m hm) hg).more hg.size, (h.oks m hm).2⟩, h.below.grown hg h.below.size hp⟩
theorem Enc.ok.next {x x' : Option Nat} (h : E.ok W W.heap.size m) (hl : E.lie (fun b => some b ≠ x) m) (hat : x' = x ∨ ∃ g, x' = some g ∧ W.heap.size ≤ g) : E.lie (fun b => some b ≠ x') m := by
  rcases hat with rfl | ⟨g, rfl, hg⟩
  · exact hl
  · exact h.lt.imp fun b hb e => by cases e; omega
/-- One more element goes into the row at hand. -/
theorem Two.put (h : Two E w W eS eP out vo now vn) (hm : E.ok W W.heap.size m) (h1 : E.lie (fun b => some b ≠ vn.ownBlock) m) (h2 : E.lie (fun b => some b ≠ vo.ownBlock) m)
    (ho : OwnK W' w.heap.size eP E.k v2 (now.length + 1) (now.flatMap E.cs ++ E.cs m)) (hg : W.grownBy W' vn.ownBlock) (hat : v2.ownBlock = vn.ownBlock ∨ ∃ g, v2.ownBlock = some g ∧ W.heap.size ≤ g) (hb : Below w.heap.size w W') :
    Two E w W' eS eP out vo (now ++ [m]) v2 := by
  refine ⟨h.go.other hg (fun g e e2 => h.ap g e2 e) h.on (fun g e => (h.gn.own.lt g e).1), h.gn.snoc hm h1 (fun _ _ _ _ _ => trivial) ho hg hat hb, fun g e => ?_, fun s hs => ((h.go.oks s hs).1).next (h.on s hs) hat, fun x hx => ?_⟩
  · rcases hat with e2 | ⟨g', e2, hg'⟩
    · rw [e2]; exact h.ap g e
    · rw [e2]
      intro e3
      cases e3
      have := (h.go.own.lt g e).2
      omega
  · rcases List.mem_append.1 hx with hx | hx
    · exact h.no x hx
    · rw [List.mem_singleton.1 hx]; exact h2
/-- The row at hand goes into the row of rows. -/
theorem Two.shut {A : Option Addr} {n c : Nat} (hk : 0 < E.k) (h : Two E w W eS eP out vo now (.slice A n c)) (hn : now.length = n) (hc : n ≤ c)
    (ho : OwnK W' w.heap.size eS 1 v2 (out.length + 1) (out.flatMap (encSl E).cs ++ [.slice A n c])) (hg : W.grownBy W' vo.ownBlock) (hat : v2.ownBlock = vo.ownBlock ∨ ∃ g, v2.ownBlock = some g ∧ W.heap.size ≤ g) (hb : Below w.heap.size w W') :
    Two E w W' eS eP (out ++ [⟨A, n, c, now⟩]) v2 [] (.slice none 0 0) := by
  have hE := h.gn.els hn
  have hA : ∀ a, A = some a → (Value.slice A n c).ownBlock = some a.block := fun a e => by subst e; rfl
  refine ⟨h.go.snoc ((encSl_ok hk).2 ⟨hE, hc⟩) ?_ (fun _ _ _ _ _ => trivial) ho hg hat hb, Gth.nil _ _ _ _ hb, fun g _ e => (by cases e), fun s hs => ?_, fun _ hx => (by cases hx)⟩
  · refine encSl_lie (fun _ a ha e => ?_) h.no
    exact h.ap a.block e.symm (hA a ha)
  · intro p hp hn a ha e
    cases e
end
end Go.Lec
