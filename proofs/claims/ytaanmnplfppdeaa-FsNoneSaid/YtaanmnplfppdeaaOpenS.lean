/- The shapes of structs that came in, cell by cell. Nothing here speaks of the program. -/
import Derived.Test.YtaanmnplfppdeaaOpenB

namespace Go.Lec
open Go.WideShapes
section
variable {P : Program} {w : World} {r : Reach} {base : Nat} {t u : TypeId} {v x : Value}
theorem shape_row {fs : Array Field} {ts : List TypeId} (hs : P.underlying t = some (.struct fs)) (hts : P.cellTypes P.depth t = some ts) (hC : P.cellsOf t = ts.length) (hv : Value.okWide P w r base t v) :
    ∃ cs : List Value, v = .agg cs.toArray ∧ cs.length = ts.length ∧ ∀ (j : Nat) (u : TypeId) (x : Value), ts[j]? = some u → cs[j]? = some x → Cell.okWide P w r base u x := by
  simp only [Value.okWide, hs] at hv
  obtain ⟨cs, rfl, hsz, ts', hts', _, hc⟩ := hv
  rw [hts] at hts'
  cases hts'
  refine ⟨cs.toList, by simp, by simp [hsz, hC], fun j u x hu hx => ?_⟩
  have hj : j < ts.length := (List.getElem?_eq_some_iff.1 hu).1
  obtain ⟨u', hu', hk⟩ := hc j x (by simpa using hx)
  rw [Nat.mod_eq_of_lt hj, hu] at hu'
  cases hu'
  exact hk
theorem cell_slice {e : TypeId} (ht : P.underlying u = some (.slice e)) (h : Cell.okWide P w r base u x) : ∃ a len cap, x = .slice a len cap := by
  simp only [Cell.okWide, ht] at h
  cases x <;> simp_all [Cell.ok]
theorem cell_string (ht : P.underlying u = some .string) (h : Cell.okWide P w r base u x) : ∃ s, x = .string s := by
  simp only [Cell.okWide, ht] at h
  cases x <;> simp_all [Cell.ok]
theorem cell_int {k : IntKind} (ht : P.underlying u = some (.int k)) (h : Cell.okWide P w r base u x) : ∃ n, x = .int k n := by
  simp only [Cell.okWide, ht] at h
  cases x <;> simp_all [Cell.ok]
end
theorem len5s {α : Type} : ∀ {l : List α}, l.length = 5 → ∃ a b c d e, l = [a, b, c, d, e]
  | [a, b, c, d, e], _ => ⟨a, b, c, d, e, rfl⟩
theorem len10s {α : Type} : ∀ {l : List α}, l.length = 10 → ∃ a b c d e f g h i j, l = [a, b, c, d, e, f, g, h, i, j]
  | [a, b, c, d, e, f, g, h, i, j], _ => ⟨a, b, c, d, e, f, g, h, i, j, rfl⟩
end Go.Lec
