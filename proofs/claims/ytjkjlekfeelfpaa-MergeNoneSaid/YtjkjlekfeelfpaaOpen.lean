/- Opening arguments: structs of one-cell fields, slices of bytes. Nothing here speaks of the program. -/
import Derived.Test.YtjkjlekfeelfpaaMem
import Derived.ProofKit
import Derived.Lib.SmallJoins
import Derived.OpenShut
import Derived.ChangeOld
namespace Go.Lec
open Go.Joins Go.ChangeShapes Go.WideShapes Go.RowKit Go.Deep

theorem len5 {α : Type} : ∀ {l : List α}, l.length = 5 → ∃ a b c d e, l = [a, b, c, d, e]
  | [a, b, c, d, e], _ => ⟨a, b, c, d, e, rfl⟩
theorem some_eq {α : Type} {a b : α} (h : some a = some b) : a = b := by injection h

section
variable {H : Type} {enc : TypeId × Value → H} {P : Program} {w : World} {base : Nat} {spare : Nat → Bool} {held : Bool}
/-- A slice of bytes that came in reads as a list. -/
theorem open_bytes {t e : TypeId} (ht : P.underlying t = some (.slice e)) (he : P.underlying e = some (.int .u8)) (hc : P.cellsOf e = 1) {fuel : Nat} {v : Value} {x : DataW H × List MemPlace}
    (h : DataW.trod enc P w base spare held fuel t [v] = some x) : ∃ A n c l, v = .slice A n c ∧ n ≤ c ∧ c ≤ maxLen ∧ Rd w w.heap.size A n (bcs l) := by
  rcases open_ints ht he hc h with ⟨hcs, _⟩ | ⟨a, len, cap, zs, hcs, _, hl, hm, hz, _, hcell, hwz⟩
  · simp at hcs
    exact ⟨none, 0, 0, [], hcs, Nat.le_refl _, by unfold maxLen; omega, ⟨rfl, fun h => by omega⟩⟩
  · simp at hcs
    have hzl : len ≤ zs.length := by rw [hz]; split <;> omega
    refine ⟨some a, len, cap, (zs.take len).map fun z => UInt8.ofNat z.toNat, hcs, hl, hm, ⟨by simp [bcs]; omega, fun h0 => ?_⟩⟩
    have h1 := hcell 0 (by omega)
    rw [Addr.add_zero'] at h1
    have hlt := World.block_lt_of_cell? w _ h1
    obtain ⟨b, o, s⟩ := a
    have hs : s = none := by
      cases s with
      | none => rfl
      | some s =>
        unfold World.cell? at h1
        simp only at h1
        split at h1
        · simp at h1
        · cases h1
    subst hs
    refine ⟨b, o, rfl, hlt, fun i u hu => ?_⟩
    have hil : i < len := by
      have := (List.getElem?_eq_some_iff.1 hu).1
      simp [bcs] at this
      omega
    have h2 := hcell i (by omega)
    rw [Addr.add_lit] at h2
    rw [h2]
    have hz' : i < zs.length := by omega
    simp only [bcs, List.map_map, List.getElem?_map, List.getElem?_take, if_pos hil, List.getElem?_eq_getElem hz', Option.map_some, Function.comp_apply, Option.some.injEq] at hu
    rw [← hu, bcell_ofNat]
    have hw := hwz zs[i] (List.getElem_mem hz')
    simp [Lit.wf, IntKind.min, IntKind.max, IntKind.signed, IntKind.bits] at hw
    rw [List.getD_eq_getElem?_getD, List.getElem?_eq_getElem hz']
    simp only [Option.getD_some]
    congr 2
    omega
/-- A struct of one-cell fields, by value: each field's cell reads by its own type. -/
theorem open_flat {r : Reach} {b0 : Nat} {t : TypeId} {fs : Array Field} {v : Value} {d : DataW H} {p : List MemPlace} (hs : P.underlying t = some (.struct fs)) (hone : oneCellFields P fs = true) (hC : P.cellsOf t = fs.size)
    (hv : Value.okWide P w r b0 t v) (h : DataW.Trod enc P w base spare held t v d p) :
    ∃ (cs : List Value) (n : Nat), v = .agg cs.toArray ∧ cs.length = fs.size ∧ ∀ (j : Nat) (f : Field), fs[j]? = some f → ∃ (u : Value) (y : DataW H × List MemPlace), cs[j]? = some u ∧ DataW.trod enc P w base spare held n f.type [u] = some y := by
  obtain ⟨cs, rfl, hsz⟩ := okWide_struct hs hv
  obtain ⟨fuel, hf⟩ := h
  obtain ⟨xs, n, _, _, _, hlen, hg⟩ := DataW.trod_struct hs hf
  refine ⟨cs.toList, n, by simp, by simp [hsz, hC], fun j f hj => ?_⟩
  obtain ⟨o, k⟩ := hone_of hone j f hj
  have hjl : j < fs.size := (Array.getElem?_eq_some_iff.1 hj).1
  have hjc : j < cs.toList.length := by simp [hsz, hC]; omega
  have h1 := hg j f hj
  rw [o, k] at h1
  simp only [Value.cells] at h1
  rw [List.drop_eq_getElem_cons hjc] at h1
  refine ⟨_, xs[j]'(by omega), List.getElem?_eq_getElem hjc, ?_⟩
  rw [← List.getElem?_eq_getElem (by omega : j < xs.length)]
  exact h1
end
end Go.Lec
