/- Opening arguments: a log's operations that came in. -/
import Derived.Test.YtgilnjngphhhlaaGreatOpenPl
import Derived.Test.YtgilnjngphhhlaaGreatWdD
namespace Go.Proofs.YtgilnjngphhhlaaGreat
open Go.Joins Go.ChangeShapes Go.WideShapes Go.RowKit Go.Deep Go.Lec Go.Fsy
theorem len7o {α : Type} : ∀ {l : List α}, l.length = 7 → ∃ a b c d e f g, l = [a, b, c, d, e, f, g]
  | [a, b, c, d, e, f, g], _ => ⟨a, b, c, d, e, f, g, rfl⟩
section
variable {H : Type} {enc : TypeId × Value → H} {w : World} {base : Nat} {spare : Nat → Bool} {held : Bool}
set_option maxRecDepth 100000 in
/-- An operation that came in. -/
theorem open_wopC {fuel : Nat} {cs : List Value} {d : DataW H} {pl : List MemPlace} (h : DataW.trod enc Tryz.prog w base spare held fuel 49 cs = some (d, pl)) (hl : Tiny d) (hc : cs.length = 7) :
    ∃ x : WOp, x.cs = cs ∧ WOpOk w.heap.size w x := by
  obtain ⟨n0, y0, t0, l0⟩ := fld (i := 0) (u := 3) (o := 0) (k := 1) Tryz.underlying49 h hl (by kernel_rfl)
  obtain ⟨n1, y1, t1, l1⟩ := fld (i := 1) (u := 22) (o := 1) (k := 1) Tryz.underlying49 h hl (by kernel_rfl)
  obtain ⟨n2, y2, t2, l2⟩ := fld (i := 2) (u := 44) (o := 2) (k := 5) Tryz.underlying49 h hl (by kernel_rfl)
  obtain ⟨a, b, c, e, f, g, h', rfl⟩ := len7o hc
  simp only [List.drop_zero, List.drop_succ_cons, List.take_succ_cons, List.take_zero] at t0 t1 t2
  obtain ⟨z0, hz0, _, _⟩ := DataW.trod_int Tryz.underlying3 t0
  obtain ⟨A3, m3, c3, b3, hb3, hc3, hm3, hr3⟩ := open_bytesT Tryz.underlying22 Tryz.underlying5 (by kernel_rfl) t1 l1
  obtain ⟨p, AK, cK, AF, cF, AU, cU, hp, hpo, hpk⟩ := open_planC t2 l2
  simp only [List.cons.injEq, and_true] at hz0 hp
  obtain ⟨rfl, rfl, rfl, rfl, rfl⟩ := hp
  subst hz0 hb3
  have hml : b3.length = m3 := by have := hr3.1; rwa [bcs_length] at this
  refine ⟨⟨z0, b3, A3, c3, p, AK, cK, AF, cF, AU, cU⟩, ?_, ?_⟩
  · unfold WOp.cs
    rw [hml]
  · subst hml
    exact ⟨hr3, hc3, hm3⟩
def encWOp : Enc WOp where
  k := 7
  cs := WOp.cs
  len _ := rfl
  one m := by
    intro u hu
    simp only [WOp.cs, List.mem_cons, List.not_mem_nil, or_false] at hu
    rcases hu with rfl | rfl | rfl | rfl | rfl | rfl | rfl <;> rfl
  ps _ := []
  side _ := True
/-- Operations that came in. -/
theorem open_wopsT {fuel : Nat} {v : Value} {d : DataW H} {pl : List MemPlace} (h : DataW.trod enc Tryz.prog w base spare held fuel 45 [v] = some (d, pl)) (hl : Tiny d) :
    ∃ (A : Option Addr) (n c : Nat) (L : List WOp), v = .slice A n c ∧ n ≤ 1048576 ∧ WOpsR w.heap.size w A n L := by
  obtain ⟨A, n, c, L, e1, _, e3, e4, e5⟩ := open_elsT encWOp Tryz.underlying45 (by kernel_rfl) (by decide) (Q := fun x => WOpOk w.heap.size w x) (fun n cs d pl hd hld hlen => by
    obtain ⟨x, h1, h2⟩ := open_wopC hd hld hlen
    exact ⟨x, h1, ⟨(fun p hp => by cases hp), trivial⟩, h2⟩) h hl
  exact ⟨A, n, c, L, e1, e3, ⟨e4.2.1, e4.1, e5⟩⟩
end
end Go.Proofs.YtgilnjngphhhlaaGreat
