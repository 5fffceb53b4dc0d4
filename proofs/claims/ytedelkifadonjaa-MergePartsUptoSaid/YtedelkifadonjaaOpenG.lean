/- Opening arguments: slices of pairs. -/
import Derived.Test.YtedelkifadonjaaOpenF
import Derived.Test.YtedelkifadonjaaPairsC
namespace Go.Proofs.Ytedelkifadonjaa
open Go.Joins Go.ChangeShapes Go.WideShapes Go.RowKit Go.Deep Go.Lec
/-- A slice of pairs that came in. -/
theorem open_pairsT {H : Type} {enc : TypeId × Value → H} {P : Program} {w : World} {base : Nat} {spare : Nat → Bool} {held : Bool} {t e tb t8 : TypeId} {f0 f1 : Field} (ht : P.underlying t = some (.slice e)) (he : P.underlying e = some (.struct #[f0, f1])) (hone : oneCellFields P #[f0, f1] = true) (hC : P.cellsOf e = 2)
    (h0 : f0.type = tb) (h1 : f1.type = tb) (hb : P.underlying tb = some (.slice t8)) (h8 : P.underlying t8 = some (.int .u8)) (hc8 : P.cellsOf t8 = 1)
    {fuel : Nat} {v : Value} {d : DataW H} {pl : List MemPlace} (h : DataW.trod enc P w base spare held fuel t [v] = some (d, pl)) (hl : Tiny d) :
    ∃ (A : Option Addr) (n c : Nat) (L : List Pr), v = .slice A n c ∧ n ≤ c ∧ n ≤ 1048576 ∧ Prs w w.heap.size A n L ∧ ∀ m ∈ L, m.n1 + m.n2 ≤ 2097152 := by
  obtain ⟨A, n, c, L, e1, e2, e3, e4, e5⟩ := open_elsT encPr ht hC (by decide) (Q := fun m => m.n1 + m.n2 ≤ 2097152) (fun n cs d pl hd hld hlen => by
    obtain ⟨_, n', hf⟩ := open_fieldsT he hone (by rw [hC]; rfl) hd hld
    obtain ⟨u0, y0, e0, t0, l0⟩ := hf 0 f0 rfl
    obtain ⟨u1, y1, e1, t1, l1⟩ := hf 1 f1 rfl
    rw [h0] at t0
    rw [h1] at t1
    obtain ⟨A1, n1, c1, b1, rfl, hc1, hn1, hr1⟩ := open_bytesT hb h8 hc8 t0 l0
    obtain ⟨A2, n2, c2, b2, rfl, hc2, hn2, hr2⟩ := open_bytesT hb h8 hc8 t1 l1
    refine ⟨⟨A1, n1, c1, b1, A2, n2, c2, b2⟩, ?_, ⟨fun p hp => ?_, hc1, hc2, ?_, ?_⟩, ?_⟩
    · match cs, hlen with
      | [c0, c1'], _ =>
        simp only [List.getElem?_cons_zero, List.getElem?_cons_succ, Option.some.injEq] at e0 e1
        subst e0 e1
        rfl
    · simp only [encPr, List.mem_cons, List.not_mem_nil, or_false] at hp
      rcases hp with rfl | rfl
      · exact hr1
      · exact hr2
    · show n1 ≤ _; omega
    · show n2 ≤ _; omega
    · show n1 + n2 ≤ _; omega) h hl
  exact ⟨A, n, c, L, e1, e2, e3, prs_of_els e4, e5⟩
end Go.Proofs.Ytedelkifadonjaa
