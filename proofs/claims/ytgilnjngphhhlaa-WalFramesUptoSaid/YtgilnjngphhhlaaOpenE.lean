/- Opening arguments, with what the bound of the second form says of sizes: bytes, rows of bytes. -/
import Derived.Test.YtgilnjngphhhlaaRows
import Derived.Test.YtgilnjngphhhlaaWalI
import Derived.Test.YtgilnjngphhhlaaOpen
import Derived.JoinedCond
import Derived.SizedLaws
import Derived.Deep.Slices
namespace Go.Proofs.Ytgilnjngphhhlaa
open Go.Joins Go.ChangeShapes Go.WideShapes Go.RowKit Go.Deep Go.Lec
/-- A datum of little bulk. -/
def Tiny {H : Type} (d : DataW H) : Prop := Rows.uptoBulk d ≤ 1048576
theorem bulk_pos {H : Type} (d : DataW H) : 1 ≤ Rows.uptoBulk d := by
  cases d with
  | lit l => cases l <;> simp [Rows.uptoBulk]
  | _ => simp [Rows.uptoBulk]
theorem bulk_mem {H : Type} {d : DataW H} : ∀ {l : List (DataW H)}, d ∈ l → Rows.uptoBulk d ≤ Rows.uptoBulkAll l
  | [], h => by cases h
  | x :: l, h => by
    simp only [Rows.uptoBulkAll]
    rcases List.mem_cons.1 h with rfl | h
    · omega
    · have := bulk_mem h; omega
theorem bulk_len {H : Type} : ∀ (l : List (DataW H)), l.length ≤ Rows.uptoBulkAll l
  | [] => by simp
  | x :: l => by have := bulk_pos x; have := bulk_len l; simp only [Rows.uptoBulkAll, List.length_cons]; omega
theorem tiny_of {H : Type} {ds : List (DataW H)} (h : Rows.uptoSmall H ds = true) {d : DataW H} (hd : d ∈ ds) : Tiny d := by
  have h1 : Rows.uptoBulkAll ds ≤ 1048576 := by simpa [Rows.uptoSmall] using h
  exact Nat.le_trans (bulk_mem hd) h1
theorem tiny_len {H : Type} {el sp : List (DataW H)} (h : Tiny (.slice el sp)) : el.length + sp.length ≤ 1048576 := by
  have h1 := bulk_len el
  have h2 := bulk_len sp
  unfold Tiny at h
  simp only [Rows.uptoBulk] at h
  omega
theorem tiny_elem {H : Type} {el sp : List (DataW H)} (h : Tiny (.slice el sp)) {d : DataW H} (hd : d ∈ el) : Tiny d := by
  have := bulk_mem hd
  unfold Tiny at h ⊢
  simp only [Rows.uptoBulk] at h
  omega
theorem tiny_part {H : Type} {l : List (DataW H)} (h : Tiny (.agg l)) {d : DataW H} (hd : d ∈ l) : Tiny d := by
  have := bulk_mem hd
  unfold Tiny at h ⊢
  simp only [Rows.uptoBulk] at h
  omega

section
variable {H : Type} {enc : TypeId × Value → H} {P : Program} {w : World} {base : Nat} {spare : Nat → Bool} {held : Bool}
/-- Cells that are known through an address's own block. -/
theorem addr_plain {a : Addr} {v : Value} (h : w.cell? a = some v) : ∃ b o, a = ⟨b, o, none⟩ ∧ b < w.heap.size := by
  have hlt := World.block_lt_of_cell? w _ h
  obtain ⟨b, o, s⟩ := a
  cases s with
  | none => exact ⟨b, o, rfl, hlt⟩
  | some s =>
    unfold World.cell? at h
    simp only at h
    split at h
    · simp at h
    · cases h

/-- A slice of bytes that came in. -/
theorem open_bytesT {t e : TypeId} (ht : P.underlying t = some (.slice e)) (he : P.underlying e = some (.int .u8)) (hc : P.cellsOf e = 1) {fuel : Nat} {v : Value} {d : DataW H} {pl : List MemPlace}
    (h : DataW.trod enc P w base spare held fuel t [v] = some (d, pl)) (hl : Tiny d) : ∃ A n c l, v = .slice A n c ∧ n ≤ c ∧ n ≤ 1048576 ∧ Rd w w.heap.size A n (bcs l) := by
  rcases open_ints ht he hc h with ⟨hcs, _⟩ | ⟨a, len, cap, zs, hcs, _, hl1, hm, hz, hx, hcell, hwz⟩
  · simp at hcs
    exact ⟨none, 0, 0, [], hcs, Nat.le_refl _, by omega, ⟨rfl, fun h => by omega⟩⟩
  · simp at hcs
    have hzl : len ≤ zs.length := by rw [hz]; split <;> omega
    simp only [Prod.mk.injEq] at hx
    obtain ⟨rfl, _⟩ := hx
    have hlen := tiny_len hl
    simp only [lits, List.length_map, List.length_take, List.length_drop] at hlen
    refine ⟨some a, len, cap, (zs.take len).map fun z => UInt8.ofNat z.toNat, hcs, hl1, by omega, ⟨by simp [bcs]; omega, fun h0 => ?_⟩⟩
    have h1 := hcell 0 (by omega)
    rw [Addr.add_zero'] at h1
    obtain ⟨b, o, rfl, hlt⟩ := addr_plain h1
    refine ⟨b, o, rfl, hlt, fun i u hu => ?_⟩
    have hil : i < len := by
      have := (List.getElem?_eq_some_iff.1 hu).1
      simp [bcs] at this
      omega
    have h2 := hcell i (by omega)
    rw [Addr.add_lit] at h2
    rw [h2]
    have hz' : i < zs.length := by omega
    simp only [bcs, List.map_map, List.getElem?_map, List.getElem?_take, if_pos hil, List.getElem?_eq_getElem hz', Option.map_some, Function.comp_apply, Option.some.injEq] at hu
    rw [← hu, bcell_ofNat]
    have hw := hwz zs[i] (List.getElem_mem hz')
    simp [Lit.wf, IntKind.min, IntKind.max, IntKind.signed, IntKind.bits] at hw
    rw [List.getD_eq_getElem?_getD, List.getElem?_eq_getElem hz']
    simp only [Option.getD_some]
    congr 2
    omega
/-- A row of bytes that came in. -/
theorem open_rowsT {t e t8 : TypeId} (ht : P.underlying t = some (.slice e)) (hce : P.cellsOf e = 1) (he : P.underlying e = some (.slice t8)) (h8 : P.underlying t8 = some (.int .u8)) (hc8 : P.cellsOf t8 = 1) {fuel : Nat} {v : Value} {d : DataW H} {pl : List MemPlace}
    (h : DataW.trod enc P w base spare held fuel t [v] = some (d, pl)) (hl : Tiny d) : ∃ (A : Option Addr) (n c : Nat) (out : List (List UInt8)), v = .slice A n c ∧ n ≤ c ∧ n ≤ 1048576 ∧ Rws w w.heap.size A n out ∧ ∀ r ∈ out, r.length ≤ 1048576 := by
  rcases open_slice1 ht hce h with ⟨hcs, _⟩ | ⟨a, len, cap, m, n, V, D, Pl, hcs, _, hlc, hcm, hmm, hx, hel⟩
  · simp at hcs
    exact ⟨none, 0, 0, [], hcs, Nat.le_refl _, by omega, ⟨[], Rd.nil_, rfl, fun i u l h1 _ => by simp at h1⟩, fun r hr => by cases hr⟩
  · simp at hcs
    have hlm : len ≤ m := by rw [hmm]; split <;> omega
    simp only [Prod.mk.injEq] at hx
    obtain ⟨rfl, _⟩ := hx
    have hlen := tiny_len hl
    simp only [List.length_map, List.length_range] at hlen
    obtain ⟨M, hM⟩ := choose_lt (n := len) (α := List UInt8) (p := fun i l => ∃ (A : Option Addr) (c : Nat), V i = .slice A l.length c ∧ l.length ≤ c ∧ l.length ≤ 1048576 ∧ Rd w w.heap.size A l.length (bcs l)) (fun i hi => by
      have hli : Tiny (D i) := tiny_elem hl (List.mem_map.2 ⟨i, List.mem_range.2 hi, rfl⟩)
      obtain ⟨A, n', c, l, e1, e2, e3, e4⟩ := open_bytesT he h8 hc8 (hel i (by omega)).2 hli
      have e5 : l.length = n' := by have := e4.1; rwa [bcs_length] at this
      subst e5
      exact ⟨l, A, c, e1, e2, e3, e4⟩)
    have hrows : ∀ (i : Nat) (u : Value) (l : List UInt8), ((List.range len).map V)[i]? = some u → ((List.range len).map M)[i]? = some l → ∃ (A : Option Addr) (c : Nat), u = .slice A l.length c ∧ l.length ≤ c ∧ Rd w w.heap.size A l.length (bcs l) := by
      intro i u l h1 h2
      have hi : i < len := by have := (List.getElem?_eq_some_iff.1 h1).1; simpa using this
      simp only [List.getElem?_map, List.getElem?_range hi, Option.map_some, Option.some.injEq] at h1 h2
      subst h1 h2
      obtain ⟨A, c, e1, e2, _, e4⟩ := hM i hi
      exact ⟨A, c, e1, e2, e4⟩
    refine ⟨some a, len, cap, (List.range len).map M, hcs, hlc, by omega, ⟨(List.range len).map V, ?_, by simp, hrows⟩, fun r hr => ?_⟩
    · refine ⟨by simp, fun h0 => ?_⟩
      have h1 := (hel 0 (by omega)).1
      rw [Addr.add_zero'] at h1
      obtain ⟨b, o, rfl, hlt⟩ := addr_plain h1
      refine ⟨b, o, rfl, hlt, fun i u hu => ?_⟩
      have hi : i < len := by have := (List.getElem?_eq_some_iff.1 hu).1; simpa using this
      simp only [List.getElem?_map, List.getElem?_range hi, Option.map_some, Option.some.injEq] at hu
      subst hu
      have h2 := (hel i (by omega)).1
      rw [Addr.add_lit] at h2
      exact h2
    · obtain ⟨i, hi, rfl⟩ := List.mem_map.1 hr
      obtain ⟨_, _, _, _, e3, _⟩ := hM i (List.mem_range.1 hi)
      exact e3
end
end Go.Proofs.Ytgilnjngphhhlaa
