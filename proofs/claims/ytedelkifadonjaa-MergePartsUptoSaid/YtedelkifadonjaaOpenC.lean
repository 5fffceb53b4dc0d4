/- Opening arguments, with what the form says of sizes: structs, slices of bytes, of numbers, of files' metas. Nothing here speaks of the program. -/
import Derived.Test.YtedelkifadonjaaMetas
import Derived.ProofKit
import Derived.Lib.SmallJoins
import Derived.OpenShut
import Derived.ChangeOld
import Derived.SizedLaws
import Derived.Deep.Slices
import Derived.Deep.Fields
namespace Go.Lec
open Go.Joins Go.ChangeShapes Go.WideShapes Go.RowKit Go.Deep

theorem len6 {α : Type} : ∀ {l : List α}, l.length = 6 → ∃ a b c d e f, l = [a, b, c, d, e, f]
  | [a, b, c, d, e, f], _ => ⟨a, b, c, d, e, f, rfl⟩
section
variable {H : Type} {enc : TypeId × Value → H} {P : Program} {w : World} {base : Nat} {spare : Nat → Bool} {held : Bool}
/-- Each slice and text of a datum takes no more than the form's reach. -/
def Light (P : Program) (t : TypeId) (d : DataW H) : Prop := ∀ n ∈ d.weights P t, n ≤ reachBytes
theorem light_of {ts : List TypeId} {ds : List (DataW H)} (h : (DataW.weightsEach P ts ds).all (· ≤ reachBytes) = true) {j : Nat} {t : TypeId} {d : DataW H} (ht : ts[j]? = some t) (hd : ds[j]? = some d) : Light P t d := fun n hn => by
  have := List.all_eq_true.1 h n (DataW.weights_mem_each ht hd n hn)
  simpa using this
theorem light_field {t : TypeId} {fs : Array Field} {parts : List (DataW H)} (hs : P.underlying t = some (.struct fs)) (h : Light P t (.agg parts)) {j : Nat} {f : Field} {d : DataW H} (hf : fs[j]? = some f) (hd : parts[j]? = some d) : Light P f.type d := fun n hn => by
  refine h n ?_
  simp only [DataW.weights, hs]
  exact DataW.weights_mem_each (j := j) (t := f.type) (d := d) (by simp [hf]) hd n hn
theorem weights_all {e : TypeId} {d : DataW H} {n : Nat} (hn : n ∈ d.weights P e) : ∀ {l : List (DataW H)}, d ∈ l → n ∈ DataW.weightsAll P e l
  | [], h => by cases h
  | x :: l, h => by
    simp only [DataW.weightsAll, List.mem_append]
    rcases List.mem_cons.1 h with rfl | h
    · exact .inl hn
    · exact .inr (weights_all hn h)
theorem light_len {t e : TypeId} {el sp : List (DataW H)} (ht : P.underlying t = some (.slice e)) (h : Light P t (.slice el sp)) : (el.length + sp.length) * P.bytesOf e ≤ reachBytes := h _ (by simp [DataW.weights, ht])
theorem light_elem {t e : TypeId} {el sp : List (DataW H)} (ht : P.underlying t = some (.slice e)) (h : Light P t (.slice el sp)) {d : DataW H} (hd : d ∈ el) : Light P e d := fun n hn => h n (by
  simp only [DataW.weights, ht, List.mem_cons, List.mem_append]
  exact .inr (.inl (weights_all hn hd)))

/-- Cells that are known through an address's own block. -/
theorem addr_plain {a : Addr} {v : Value} (h : w.cell? a = some v) : ∃ b o, a = ⟨b, o, none⟩ ∧ b < w.heap.size := by
  have hlt := World.block_lt_of_cell? w _ h
  obtain ⟨b, o, s⟩ := a
  cases s with
  | none => exact ⟨b, o, rfl, hlt⟩
  | some s =>
    unfold World.cell? at h
    simp only at h
    split at h
    · simp at h
    · cases h

/-- A slice of bytes that came in. -/
theorem open_bytesL {t e : TypeId} (ht : P.underlying t = some (.slice e)) (he : P.underlying e = some (.int .u8)) (hc : P.cellsOf e = 1) (hby : P.bytesOf e = 1) {fuel : Nat} {v : Value} {d : DataW H} {pl : List MemPlace}
    (h : DataW.trod enc P w base spare held fuel t [v] = some (d, pl)) (hl : Light P t d) : ∃ A n c l, v = .slice A n c ∧ n ≤ c ∧ n ≤ 140737488355328 ∧ Rd w w.heap.size A n (bcs l) := by
  rcases open_ints ht he hc h with ⟨hcs, _⟩ | ⟨a, len, cap, zs, hcs, _, hl1, hm, hz, hx, hcell, hwz⟩
  · simp at hcs
    exact ⟨none, 0, 0, [], hcs, Nat.le_refl _, by omega, ⟨rfl, fun h => by omega⟩⟩
  · simp at hcs
    have hzl : len ≤ zs.length := by rw [hz]; split <;> omega
    simp only [Prod.mk.injEq] at hx
    obtain ⟨rfl, _⟩ := hx
    have hlen := light_len ht hl
    rw [hby] at hlen
    simp only [lits, List.length_map, List.length_take, List.length_drop] at hlen
    have hrb := reachBytes_lt
    refine ⟨some a, len, cap, (zs.take len).map fun z => UInt8.ofNat z.toNat, hcs, hl1, by omega, ⟨by simp [bcs]; omega, fun h0 => ?_⟩⟩
    have h1 := hcell 0 (by omega)
    rw [Addr.add_zero'] at h1
    obtain ⟨b, o, rfl, hlt⟩ := addr_plain h1
    refine ⟨b, o, rfl, hlt, fun i u hu => ?_⟩
    have hil : i < len := by
      have := (List.getElem?_eq_some_iff.1 hu).1
      simp [bcs] at this
      omega
    have h2 := hcell i (by omega)
    rw [Addr.add_lit] at h2
    rw [h2]
    have hz' : i < zs.length := by omega
    simp only [bcs, List.map_map, List.getElem?_map, List.getElem?_take, if_pos hil, List.getElem?_eq_getElem hz', Option.map_some, Function.comp_apply, Option.some.injEq] at hu
    rw [← hu, bcell_ofNat]
    have hw := hwz zs[i] (List.getElem_mem hz')
    simp [Lit.wf, IntKind.min, IntKind.max, IntKind.signed, IntKind.bits] at hw
    rw [List.getD_eq_getElem?_getD, List.getElem?_eq_getElem hz']
    simp only [Option.getD_some]
    congr 2
    omega
/-- A slice of numbers that came in. -/
theorem open_intsL {t e : TypeId} (ht : P.underlying t = some (.slice e)) (he : P.underlying e = some (.int .i64)) (hc : P.cellsOf e = 1) (hby : P.bytesOf e = 8) {fuel : Nat} {v : Value} {d : DataW H} {pl : List MemPlace}
    (h : DataW.trod enc P w base spare held fuel t [v] = some (d, pl)) (hl : Light P t d) : ∃ (A : Option Addr) (n c : Nat) (l : List Int), v = .slice A n c ∧ n ≤ c ∧ n ≤ 140737488355328 ∧ Rd w w.heap.size A n (l.map (Value.int .i64)) := by
  rcases open_ints ht he hc h with ⟨hcs, _⟩ | ⟨a, len, cap, zs, hcs, _, hl1, hm, hz, hx, hcell, hwz⟩
  · simp at hcs
    exact ⟨none, 0, 0, [], hcs, Nat.le_refl _, by omega, ⟨rfl, fun h => by omega⟩⟩
  · simp at hcs
    have hzl : len ≤ zs.length := by rw [hz]; split <;> omega
    simp only [Prod.mk.injEq] at hx
    obtain ⟨rfl, _⟩ := hx
    have hlen := light_len ht hl
    rw [hby] at hlen
    simp only [lits, List.length_map, List.length_take, List.length_drop] at hlen
    have hrb := reachBytes_lt
    refine ⟨some a, len, cap, zs.take len, hcs, hl1, by omega, ⟨by simp; omega, fun h0 => ?_⟩⟩
    have h1 := hcell 0 (by omega)
    rw [Addr.add_zero'] at h1
    obtain ⟨b, o, rfl, hlt⟩ := addr_plain h1
    refine ⟨b, o, rfl, hlt, fun i u hu => ?_⟩
    have hil : i < len := by
      have := (List.getElem?_eq_some_iff.1 hu).1
      simp at this
      omega
    have h2 := hcell i (by omega)
    rw [Addr.add_lit] at h2
    rw [h2]
    have hz' : i < zs.length := by omega
    simp only [List.getElem?_map, List.getElem?_take, if_pos hil, List.getElem?_eq_getElem hz', Option.map_some, Option.some.injEq] at hu
    rw [← hu, List.getD_eq_getElem?_getD, List.getElem?_eq_getElem hz']
    rfl

/-- A struct of one-cell fields: its cells, its data, field by field. -/
theorem open_fields {t : TypeId} {fs : Array Field} (hs : P.underlying t = some (.struct fs)) (hone : oneCellFields P fs = true) (hC : P.cellsOf t = fs.size) {fuel : Nat} {cs : List Value} {d : DataW H} {pl : List MemPlace}
    (h : DataW.trod enc P w base spare held fuel t cs = some (d, pl)) (hl : Light P t d) :
    cs.length = fs.size ∧ ∃ n, ∀ (j : Nat) (f : Field), fs[j]? = some f → ∃ (u : Value) (y : DataW H × List MemPlace), cs[j]? = some u ∧ DataW.trod enc P w base spare held n f.type [u] = some y ∧ Light P f.type y.1 := by
  obtain ⟨xs, n, _, hx, hcl, hlen, hg⟩ := DataW.trod_struct hs h
  simp only [Prod.mk.injEq] at hx
  obtain ⟨rfl, _⟩ := hx
  refine ⟨by rw [hcl, hC], n, fun j f hj => ?_⟩
  obtain ⟨o, k⟩ := hone_of hone j f hj
  have hjl : j < fs.size := (Array.getElem?_eq_some_iff.1 hj).1
  have hjc : j < cs.length := by omega
  have h1 := hg j f hj
  rw [o, k] at h1
  rw [List.drop_eq_getElem_cons hjc] at h1
  have hxs : xs[j]? = some xs[j] := List.getElem?_eq_getElem (by omega)
  refine ⟨_, xs[j], List.getElem?_eq_getElem hjc, ?_, light_field hs hl hj (by simp [hxs])⟩
  rw [← hxs]
  exact h1

/-- Cells, element by element, are the cells of a list of elements. -/
theorem RdK_of {α : Type} {enc : α → List Value} {k : Nat} (hk : ∀ a, (enc a).length = k) {B b o : Nat} (L : List α) (hb : b < B) (h : ∀ i (hi : i < L.length) j u, (enc L[i])[j]? = some u → w.cell? ⟨b, o + (k * i + j), none⟩ = some u) :
    RdK w B k (some ⟨b, o, none⟩) L.length (L.flatMap enc) := by
  refine ⟨flat_len hk L, fun _ => ⟨b, o, rfl, hb, fun i u hu => ?_⟩⟩
  have hi : i < L.length * k := by rw [← flat_len hk L]; exact (List.getElem?_eq_some_iff.1 hu).1
  have hkp : 0 < k := by
    rcases Nat.eq_zero_or_pos k with h0 | h0
    · subst h0; omega
    · exact h0
  have hq : i / k < L.length := Nat.div_lt_of_lt_mul (by rw [Nat.mul_comm]; exact hi)
  have he := Nat.div_add_mod i k
  rw [← he] at hu ⊢
  rw [flat_get hk L (i / k) (i % k) L[i / k] (List.getElem?_eq_getElem hq) (Nat.mod_lt _ hkp)] at hu
  exact h _ hq _ _ hu
/-- A slice of files' metas that came in. The types: the slice's, the meta's, number's, bytes', a byte's. -/
theorem open_metas {t e ti tb t8 : TypeId} {f0 f1 f2 f3 f4 : Field} (ht : P.underlying t = some (.slice e)) (he : P.underlying e = some (.struct #[f0, f1, f2, f3, f4])) (hone : oneCellFields P #[f0, f1, f2, f3, f4] = true) (hC : P.cellsOf e = 5) (hby : 1 ≤ P.bytesOf e)
    (h0 : f0.type = ti) (h1 : f1.type = ti) (h2 : f2.type = ti) (h3 : f3.type = tb) (h4 : f4.type = tb) (hi : P.underlying ti = some (.int .i64)) (hb : P.underlying tb = some (.slice t8)) (h8 : P.underlying t8 = some (.int .u8)) (hc8 : P.cellsOf t8 = 1) (hb8 : P.bytesOf t8 = 1)
    {fuel : Nat} {v : Value} {d : DataW H} {pl : List MemPlace} (h : DataW.trod enc P w base spare held fuel t [v] = some (d, pl)) (hl : Light P t d) :
    ∃ (A : Option Addr) (n c : Nat) (L : List Mt), v = .slice A n c ∧ n ≤ c ∧ n ≤ 140737488355328 ∧ Mts w w.heap.size A n L := by
  rcases open_slice ht h with ⟨hcs, _⟩ | ⟨a, len, cap, m, n, D, Pl, hcs, _, hlc, hcm, hmm, hx, hel⟩
  · simp at hcs
    exact ⟨none, 0, 0, [], hcs, Nat.le_refl _, by omega, Mts.nil_⟩
  · simp at hcs
    have hlm : len ≤ m := by rw [hmm]; split <;> omega
    simp only [Prod.mk.injEq] at hx
    obtain ⟨rfl, _⟩ := hx
    have hlen := light_len ht hl
    simp only [List.length_map, List.length_range] at hlen
    have hrb := reachBytes_lt
    have hn : len ≤ 140737488355328 := by
      have : (len + (m - len)) * 1 ≤ (len + (m - len)) * P.bytesOf e := Nat.mul_le_mul_left _ hby
      omega
    have hex : ∀ i, i < len → ∃ x : Mt, x.ok w w.heap.size ∧ ∀ j u, x.cs[j]? = some u → w.cell? (a.add (i * 5 + j)) = some u := by
      intro i hil
      obtain ⟨cs', hc', ht'⟩ := hel i (by omega)
      rw [hC] at hc'
      obtain ⟨_, hcl, hat⟩ := World.cells?_some hc'
      have hli : Light P e (D i) := light_elem ht hl (List.mem_map.2 ⟨i, List.mem_range.2 hil, rfl⟩)
      obtain ⟨_, n', hf⟩ := open_fields he hone (by rw [hC]; rfl) ht' hli
      obtain ⟨u0, y0, e0, t0, l0⟩ := hf 0 f0 rfl
      obtain ⟨u1, y1, e1, t1, l1⟩ := hf 1 f1 rfl
      obtain ⟨u2, y2, e2, t2, l2⟩ := hf 2 f2 rfl
      obtain ⟨u3, y3, e3, t3, l3⟩ := hf 3 f3 rfl
      obtain ⟨u4, y4, e4, t4, l4⟩ := hf 4 f4 rfl
      rw [h0] at t0
      rw [h1] at t1
      rw [h2] at t2
      rw [h3] at t3 l3
      rw [h4] at t4 l4
      obtain ⟨x0, k0, _, _⟩ := DataW.trod_int hi t0
      obtain ⟨x1, k1, _, _⟩ := DataW.trod_int hi t1
      obtain ⟨x2, k2, _, _⟩ := DataW.trod_int hi t2
      obtain rfl : u0 = .int .i64 x0 := by simpa using k0
      obtain rfl : u1 = .int .i64 x1 := by simpa using k1
      obtain rfl : u2 = .int .i64 x2 := by simpa using k2
      obtain ⟨A1, n1, c1, b1, rfl, hc1, hn1, hr1⟩ := open_bytesL hb h8 hc8 hb8 t3 l3
      obtain ⟨A2, n2, c2, b2, rfl, hc2, hn2, hr2⟩ := open_bytesL hb h8 hc8 hb8 t4 l4
      refine ⟨⟨x0, x1, x2, A1, n1, c1, b1, A2, n2, c2, b2⟩, ⟨hr1, hr2, hc1, hc2, hn1, hn2⟩, fun j u hu => ?_⟩
      have hj : j < 5 := by have := (List.getElem?_eq_some_iff.1 hu).1; rwa [Mt.cs_len] at this
      rw [← Go.Deep.add_add, hat j hj]
      match j, hj, hu with
      | 0, _, hu => rw [e0]; exact hu
      | 1, _, hu => rw [e1]; exact hu
      | 2, _, hu => rw [e2]; exact hu
      | 3, _, hu => rw [e3]; exact hu
      | 4, _, hu => rw [e4]; exact hu
    let M : Nat → Mt := fun i => if h : i < len then Classical.choose (hex i h) else ⟨0, 0, 0, none, 0, 0, [], none, 0, 0, []⟩
    have hM : ∀ i, i < len → (M i).ok w w.heap.size ∧ ∀ j u, (M i).cs[j]? = some u → w.cell? (a.add (i * 5 + j)) = some u := by
      intro i hil
      simp only [M, dif_pos hil]
      exact Classical.choose_spec (hex i hil)
    rcases Nat.eq_zero_or_pos len with hz | hp
    · subst hz
      exact ⟨some a, 0, cap, [], hcs, hlc, by omega, Mts.nil_⟩
    · have hfst := (hM 0 hp).2 0 _ rfl
      rw [Nat.zero_mul, Nat.zero_add, Addr.add_zero'] at hfst
      obtain ⟨b, o, rfl, hlt⟩ := addr_plain hfst
      refine ⟨some ⟨b, o, none⟩, len, cap, (List.range len).map M, hcs, hlc, hn, ?_, fun x hx => ?_⟩
      · have := RdK_of (w := w) (enc := Mt.cs) (k := 5) Mt.cs_len (B := w.heap.size) (b := b) (o := o) ((List.range len).map M) hlt (fun i hi j u hu => by
          simp only [List.length_map, List.length_range] at hi
          simp only [List.getElem_map, List.getElem_range] at hu
          have := (hM i hi).2 j u hu
          rw [Addr.add_lit] at this
          rw [Nat.mul_comm 5 i]
          exact this)
        simpa using this
      · obtain ⟨i, hi, rfl⟩ := List.mem_map.1 hx
        exact (hM i (List.mem_range.1 hi)).1
end
end Go.Lec
