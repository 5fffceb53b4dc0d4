/- Pairs as elements; rows of rows of pairs. Nothing here speaks of the program. -/
import Derived.Test.YtedelkifadonjaaPairsB
import Derived.Test.YtedelkifadonjaaGenB
namespace Go.Lec
open Go.RowKit
def encPr : Enc Pr where
  k := 2
  cs := Pr.cs
  len _ := rfl
  one m := m.cs_one
  ps m := [⟨m.A1, m.n1, bcs m.key⟩, ⟨m.A2, m.n2, bcs m.vl⟩]
  side m := m.n1 ≤ m.c1 ∧ m.n2 ≤ m.c2 ∧ m.n1 ≤ 140737488355328 ∧ m.n2 ≤ 140737488355328
theorem prs_of_els {w : World} {B n : Nat} {A : Option Addr} {L : List Pr} (h : Els encPr w B A n L) : Prs w B A n L :=
  ⟨h.1, fun m hm => ⟨(h.2.2 m hm).1 _ List.mem_cons_self, (h.2.2 m hm).1 _ (List.mem_cons_of_mem _ List.mem_cons_self), (h.2.2 m hm).2⟩⟩
theorem els_of_prs {w : World} {B n : Nat} {A : Option Addr} {L : List Pr} (h : Prs w B A n L) : Els encPr w B A n L :=
  ⟨h.1, h.len, fun m hm => ⟨fun p hp => by
    simp only [encPr, List.mem_cons, List.not_mem_nil, or_false] at hp
    rcases hp with rfl | rfl
    · exact (h.2 m hm).1
    · exact (h.2 m hm).2.1, (h.2 m hm).2.2⟩⟩
theorem encPr_ok {w : World} {B : Nat} {m : Pr} (h : m.ok w B) : encPr.ok w B m :=
  ⟨fun p hp => by
    simp only [encPr, List.mem_cons, List.not_mem_nil, or_false] at hp
    rcases hp with rfl | rfl
    · exact h.1
    · exact h.2.1, h.2.2⟩
theorem pr_ok {w : World} {B : Nat} {m : Pr} (h : encPr.ok w B m) : m.ok w B := ⟨h.1 _ List.mem_cons_self, h.1 _ (List.mem_cons_of_mem _ List.mem_cons_self), h.2⟩
theorem encPr_hi {B : Nat} {m : Pr} (h : m.hi B) : encPr.lie (B ≤ ·) m := fun p hp _ a ha => by
  simp only [encPr, List.mem_cons, List.not_mem_nil, or_false] at hp
  rcases hp with rfl | rfl
  · exact h.1 a ha
  · exact h.2 a ha
/-- What a row of rows of pairs says. -/
def Sl.pls (s : Sl Pr) : List (List UInt8 × List UInt8) := s.L.map Pr.pl
end Go.Lec
