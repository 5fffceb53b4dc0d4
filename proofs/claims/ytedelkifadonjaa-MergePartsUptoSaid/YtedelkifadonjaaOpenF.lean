/- Opening arguments, with what the bound of the second form says of sizes: bytes, numbers, structs, slices of elements of whatever make. -/
import Derived.Test.YtedelkifadonjaaRows
import Derived.Test.YtedelkifadonjaaOpenC
import Derived.Test.YtedelkifadonjaaGen
import Derived.JoinedCond
namespace Go.Proofs.Ytedelkifadonjaa
open Go.Joins Go.ChangeShapes Go.WideShapes Go.RowKit Go.Deep Go.Lec

/-- A datum of little bulk. -/
def Tiny {H : Type} (d : DataW H) : Prop := Rows.uptoBulk d ≤ 1048576
theorem bulk_pos {H : Type} (d : DataW H) : 1 ≤ Rows.uptoBulk d := by
  cases d with
  | lit l => cases l <;> simp [Rows.uptoBulk]
  | _ => simp [Rows.uptoBulk]
theorem bulk_mem {H : Type} {d : DataW H} : ∀ {l : List (DataW H)}, d ∈ l → Rows.uptoBulk d ≤ Rows.uptoBulkAll l
  | [], h => by cases h
  | x :: l, h => by
    simp only [Rows.uptoBulkAll]
    rcases List.mem_cons.1 h with rfl | h
    · omega
    · have := bulk_mem h; omega
theorem bulk_len {H : Type} : ∀ (l : List (DataW H)), l.length ≤ Rows.uptoBulkAll l
  | [] => by simp
  | x :: l => by have := bulk_pos x; have := bulk_len l; simp only [Rows.uptoBulkAll, List.length_cons]; omega
theorem tiny_of {H : Type} {ds : List (DataW H)} (h : Rows.uptoSmall H ds = true) {d : DataW H} (hd : d ∈ ds) : Tiny d := by
  have h1 : Rows.uptoBulkAll ds ≤ 1048576 := by simpa [Rows.uptoSmall] using h
  exact Nat.le_trans (bulk_mem hd) h1
theorem tiny_len {H : Type} {el sp : List (DataW H)} (h : Tiny (.slice el sp)) : el.length + sp.length ≤ 1048576 := by
  have h1 := bulk_len el
  have h2 := bulk_len sp
  unfold Tiny at h
  simp only [Rows.uptoBulk] at h
  omega
theorem tiny_elem {H : Type} {el sp : List (DataW H)} (h : Tiny (.slice el sp)) {d : DataW H} (hd : d ∈ el) : Tiny d := by
  have := bulk_mem hd
  unfold Tiny at h ⊢
  simp only [Rows.uptoBulk] at h
  omega
theorem tiny_part {H : Type} {l : List (DataW H)} (h : Tiny (.agg l)) {d : DataW H} (hd : d ∈ l) : Tiny d := by
  have := bulk_mem hd
  unfold Tiny at h ⊢
  simp only [Rows.uptoBulk] at h
  omega

section
variable {H : Type} {enc : TypeId × Value → H} {P : Program} {w : World} {base : Nat} {spare : Nat → Bool} {held : Bool}
/-- A slice of bytes that came in. -/
theorem open_bytesT {t e : TypeId} (ht : P.underlying t = some (.slice e)) (he : P.underlying e = some (.int .u8)) (hc : P.cellsOf e = 1) {fuel : Nat} {v : Value} {d : DataW H} {pl : List MemPlace}
    (h : DataW.trod enc P w base spare held fuel t [v] = some (d, pl)) (hl : Tiny d) : ∃ A n c l, v = .slice A n c ∧ n ≤ c ∧ n ≤ 1048576 ∧ Rd w w.heap.size A n (bcs l) := by
  rcases open_ints ht he hc h with ⟨hcs, _⟩ | ⟨a, len, cap, zs, hcs, _, hl1, hm, hz, hx, hcell, hwz⟩
  · simp at hcs
    exact ⟨none, 0, 0, [], hcs, Nat.le_refl _, by omega, ⟨rfl, fun h => by omega⟩⟩
  · simp at hcs
    have hzl : len ≤ zs.length := by rw [hz]; split <;> omega
    simp only [Prod.mk.injEq] at hx
    obtain ⟨rfl, _⟩ := hx
    have hlen := tiny_len hl
    simp only [lits, List.length_map, List.length_take, List.length_drop] at hlen
    refine ⟨some a, len, cap, (zs.take len).map fun z => UInt8.ofNat z.toNat, hcs, hl1, by omega, ⟨by simp [bcs]; omega, fun h0 => ?_⟩⟩
    have h1 := hcell 0 (by omega)
    rw [Addr.add_zero'] at h1
    obtain ⟨b, o, rfl, hlt⟩ := addr_plain h1
    refine ⟨b, o, rfl, hlt, fun i u hu => ?_⟩
    have hil : i < len := by
      have := (List.getElem?_eq_some_iff.1 hu).1
      simp [bcs] at this
      omega
    have h2 := hcell i (by omega)
    rw [Addr.add_lit] at h2
    rw [h2]
    have hz' : i < zs.length := by omega
    simp only [bcs, List.map_map, List.getElem?_map, List.getElem?_take, if_pos hil, List.getElem?_eq_getElem hz', Option.map_some, Function.comp_apply, Option.some.injEq] at hu
    rw [← hu, bcell_ofNat]
    have hw := hwz zs[i] (List.getElem_mem hz')
    simp [Lit.wf, IntKind.min, IntKind.max, IntKind.signed, IntKind.bits] at hw
    rw [List.getD_eq_getElem?_getD, List.getElem?_eq_getElem hz']
    simp only [Option.getD_some]
    congr 2
    omega
/-- A struct of one-cell fields: its cells, its data, field by field. -/
theorem open_fieldsT {t : TypeId} {fs : Array Field} (hs : P.underlying t = some (.struct fs)) (hone : oneCellFields P fs = true) (hC : P.cellsOf t = fs.size) {fuel : Nat} {cs : List Value} {d : DataW H} {pl : List MemPlace}
    (h : DataW.trod enc P w base spare held fuel t cs = some (d, pl)) (hl : Tiny d) :
    cs.length = fs.size ∧ ∃ n, ∀ (j : Nat) (f : Field), fs[j]? = some f → ∃ (u : Value) (y : DataW H × List MemPlace), cs[j]? = some u ∧ DataW.trod enc P w base spare held n f.type [u] = some y ∧ Tiny y.1 := by
  obtain ⟨xs, n, _, hx, hcl, hlen, hg⟩ := DataW.trod_struct hs h
  simp only [Prod.mk.injEq] at hx
  obtain ⟨rfl, _⟩ := hx
  refine ⟨by rw [hcl, hC], n, fun j f hj => ?_⟩
  obtain ⟨o, k⟩ := hone_of hone j f hj
  have hjl : j < fs.size := (Array.getElem?_eq_some_iff.1 hj).1
  have hjc : j < cs.length := by omega
  have h1 := hg j f hj
  rw [o, k] at h1
  rw [List.drop_eq_getElem_cons hjc] at h1
  have hxs : xs[j]? = some xs[j] := List.getElem?_eq_getElem (by omega)
  refine ⟨_, xs[j], List.getElem?_eq_getElem hjc, ?_, tiny_part hl (List.mem_map.2 ⟨xs[j], List.getElem_mem _, rfl⟩)⟩
  rw [← hxs]
  exact h1

/-- A slice of numbers that came in. -/
theorem open_intsT {t e : TypeId} (ht : P.underlying t = some (.slice e)) (he : P.underlying e = some (.int .i64)) (hc : P.cellsOf e = 1) {fuel : Nat} {v : Value} {d : DataW H} {pl : List MemPlace}
    (h : DataW.trod enc P w base spare held fuel t [v] = some (d, pl)) (hl : Tiny d) : ∃ (A : Option Addr) (n c : Nat) (l : List Int), v = .slice A n c ∧ n ≤ c ∧ n ≤ 1048576 ∧ Rd w w.heap.size A n (l.map (Value.int .i64)) := by
  rcases open_ints ht he hc h with ⟨hcs, _⟩ | ⟨a, len, cap, zs, hcs, _, hl1, hm, hz, hx, hcell, hwz⟩
  · simp at hcs
    exact ⟨none, 0, 0, [], hcs, Nat.le_refl _, by omega, ⟨rfl, fun h => by omega⟩⟩
  · simp at hcs
    have hzl : len ≤ zs.length := by rw [hz]; split <;> omega
    simp only [Prod.mk.injEq] at hx
    obtain ⟨rfl, _⟩ := hx
    have hlen := tiny_len hl
    simp only [lits, List.length_map, List.length_take, List.length_drop] at hlen
    refine ⟨some a, len, cap, zs.take len, hcs, hl1, by omega, ⟨by simp; omega, fun h0 => ?_⟩⟩
    have h1 := hcell 0 (by omega)
    rw [Addr.add_zero'] at h1
    obtain ⟨b, o, rfl, hlt⟩ := addr_plain h1
    refine ⟨b, o, rfl, hlt, fun i u hu => ?_⟩
    have hil : i < len := by
      have := (List.getElem?_eq_some_iff.1 hu).1
      simp at this
      omega
    have h2 := hcell i (by omega)
    rw [Addr.add_lit] at h2
    rw [h2]
    have hz' : i < zs.length := by omega
    simp only [List.getElem?_map, List.getElem?_take, if_pos hil, List.getElem?_eq_getElem hz', Option.map_some, Option.some.injEq] at hu
    rw [← hu, List.getD_eq_getElem?_getD, List.getElem?_eq_getElem hz']
    rfl
/-- A slice of elements that came in, each of which can be read. -/
theorem open_elsT {α : Type} (E : Enc α) {t e : TypeId} (ht : P.underlying t = some (.slice e)) (hC : P.cellsOf e = E.k) (hk : 0 < E.k) {Q : α → Prop}
    (hE : ∀ (n : Nat) (cs : List Value) (d : DataW H) (pl : List MemPlace), DataW.trod enc P w base spare held n e cs = some (d, pl) → Tiny d → cs.length = E.k → ∃ x : α, E.cs x = cs ∧ E.ok w w.heap.size x ∧ Q x)
    {fuel : Nat} {v : Value} {d : DataW H} {pl : List MemPlace} (h : DataW.trod enc P w base spare held fuel t [v] = some (d, pl)) (hl : Tiny d) :
    ∃ (A : Option Addr) (n c : Nat) (L : List α), v = .slice A n c ∧ n ≤ c ∧ n ≤ 1048576 ∧ Els E w w.heap.size A n L ∧ ∀ x ∈ L, Q x := by
  rcases open_slice ht h with ⟨hcs, _⟩ | ⟨a, len, cap, m, n, D, Pl, hcs, _, hlc, hcm, hmm, hx, hel⟩
  · simp at hcs
    exact ⟨none, 0, 0, [], hcs, Nat.le_refl _, by omega, Els.nil_, fun x hx => by cases hx⟩
  · simp at hcs
    have hlm : len ≤ m := by rw [hmm]; split <;> omega
    simp only [Prod.mk.injEq] at hx
    obtain ⟨rfl, _⟩ := hx
    have hlen := tiny_len hl
    simp only [List.length_map, List.length_range] at hlen
    have hn : len ≤ 1048576 := by omega
    have hex : ∀ i, i < len → ∃ x : α, (E.ok w w.heap.size x ∧ Q x) ∧ ∀ j u, (E.cs x)[j]? = some u → w.cell? (a.add (i * E.k + j)) = some u := by
      intro i hil
      obtain ⟨cs', hc', ht'⟩ := hel i (by omega)
      rw [hC] at hc'
      obtain ⟨hln, hcl, hat⟩ := World.cells?_some hc'
      have hli : Tiny (D i) := tiny_elem hl (List.mem_map.2 ⟨i, List.mem_range.2 hil, rfl⟩)
      obtain ⟨x, e1, hok, hq⟩ := hE _ _ _ _ ht' hli (by first | exact hcl | exact hln)
      refine ⟨x, ⟨hok, hq⟩, fun j u hu => ?_⟩
      have hj : j < E.k := by have := (List.getElem?_eq_some_iff.1 hu).1; rwa [E.len] at this
      rw [← Go.Deep.add_add, hat j hj, ← e1]
      exact hu
    rcases Nat.eq_zero_or_pos len with hz | hp
    · subst hz
      exact ⟨some a, 0, cap, [], hcs, hlc, by omega, Els.nil_, fun x hx => by cases hx⟩
    · obtain ⟨x0, _⟩ := hex 0 hp
      let M : Nat → α := fun i => if h : i < len then Classical.choose (hex i h) else x0
      have hM : ∀ i, i < len → (E.ok w w.heap.size (M i) ∧ Q (M i)) ∧ ∀ j u, (E.cs (M i))[j]? = some u → w.cell? (a.add (i * E.k + j)) = some u := by
        intro i hil
        simp only [M, dif_pos hil]
        exact Classical.choose_spec (hex i hil)
      have hfst := (hM 0 hp).2 0 _ (List.getElem?_eq_getElem (by rw [E.len]; exact hk))
      rw [Nat.zero_mul, Nat.zero_add, Addr.add_zero'] at hfst
      obtain ⟨b, o, rfl, hlt⟩ := addr_plain hfst
      refine ⟨some ⟨b, o, none⟩, len, cap, (List.range len).map M, hcs, hlc, hn, ⟨?_, by simp, fun x hx => ?_⟩, fun x hx => ?_⟩
      · have := RdK_of (w := w) (enc := E.cs) (k := E.k) E.len (B := w.heap.size) (b := b) (o := o) ((List.range len).map M) hlt (fun i hi j u hu => by
          simp only [List.length_map, List.length_range] at hi
          simp only [List.getElem_map, List.getElem_range] at hu
          have := (hM i hi).2 j u hu
          rw [Addr.add_lit] at this
          rw [Nat.mul_comm E.k i]
          exact this)
        simpa using this
      · obtain ⟨i, hi, rfl⟩ := List.mem_map.1 hx
        exact (hM i (List.mem_range.1 hi)).1.1
      · obtain ⟨i, hi, rfl⟩ := List.mem_map.1 hx
        exact (hM i (List.mem_range.1 hi)).1.2
end
end Go.Proofs.Ytedelkifadonjaa
