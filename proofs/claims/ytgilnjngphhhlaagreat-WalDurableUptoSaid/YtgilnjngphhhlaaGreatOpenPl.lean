/- Opening arguments: plans that came in. -/
import Derived.Test.YtgilnjngphhhlaaGreatOpenF
import Derived.Test.YtgilnjngphhhlaaGreatFsK
namespace Go.Proofs.YtgilnjngphhhlaaGreat
open Go.Joins Go.ChangeShapes Go.WideShapes Go.RowKit Go.Deep Go.Lec Go.Fsy
theorem i64_of {x : Int} (h : (Lit.int .i64 x).wf = true) : -9223372036854775808 ≤ x ∧ x ≤ 9223372036854775807 := by
  simp [Lit.wf, IntKind.min, IntKind.max, IntKind.signed, IntKind.bits] at h
  omega
theorem len5o {α : Type} : ∀ {l : List α}, l.length = 5 → ∃ a b c d e, l = [a, b, c, d, e]
  | [a, b, c, d, e], _ => ⟨a, b, c, d, e, rfl⟩
section
variable {H : Type} {enc : TypeId × Value → H} {w : World} {base : Nat} {spare : Nat → Bool} {held : Bool}
/-- A slice of numbers, with their bounds. -/
theorem open_i64s {fuel : Nat} {v : Value} {d : DataW H} {pl : List MemPlace} (h : DataW.trod enc Tryz.prog w base spare held fuel 42 [v] = some (d, pl)) (hl : Tiny d) :
    ∃ (A : Option Addr) (c : Nat) (l : List Int), v = .slice A l.length c ∧ l.length ≤ c ∧ l.length ≤ 1048576 ∧ RdP (fun b => b < w.heap.size) w A l.length (ics l) ∧ ∀ x ∈ l, -9223372036854775808 ≤ x ∧ x ≤ 9223372036854775807 := by
  rcases open_ints Tryz.underlying42 Tryz.underlying3 (by kernel_rfl) h with ⟨hcs, _⟩ | ⟨a, len, cap, zs, hcs, _, hl1, hm, hz, hx, hcell, hwz⟩
  · simp at hcs
    exact ⟨none, 0, [], hcs, Nat.le_refl _, by simp, RdP.nil_, fun x hx => by cases hx⟩
  · simp at hcs
    have hzl : len ≤ zs.length := by rw [hz]; split <;> omega
    simp only [Prod.mk.injEq] at hx
    obtain ⟨rfl, _⟩ := hx
    have hlen := tiny_len hl
    simp only [lits, List.length_map, List.length_take, List.length_drop] at hlen
    have hL : (zs.take len).length = len := by rw [List.length_take]; exact Nat.min_eq_left hzl
    refine ⟨some a, cap, zs.take len, by rw [hL]; exact hcs, by rw [hL]; exact hl1, by rw [hL]; rw [Nat.min_eq_left hzl] at hlen; exact Nat.le_trans (Nat.le_add_right _ _) hlen, ?_, fun x hx => i64_of (hwz x (List.mem_of_mem_take hx))⟩
    rw [hL]
    have hpl : 0 < len → ∃ b o, a = ⟨b, o, none⟩ ∧ b < w.heap.size := fun h0 => by
      have h1 := hcell 0 (by omega)
      rw [Addr.add_zero'] at h1
      exact addr_plain h1
    refine ⟨⟨by rw [ics, List.length_map, hL], fun h0 => ?_⟩, fun h0 q e => ?_⟩
    · obtain ⟨b, o, rfl, hlt⟩ := hpl h0
      refine ⟨b, o, rfl, hlt, fun i u hu => ?_⟩
      have hil : i < len := by
        have := (List.getElem?_eq_some_iff.1 hu).1
        simp [ics] at this
        omega
      have h2 := hcell i (by omega)
      rw [Addr.add_lit] at h2
      rw [h2]
      have hz' : i < zs.length := by omega
      simp only [ics, List.getElem?_map, List.getElem?_take, if_pos hil, List.getElem?_eq_getElem hz', Option.map_some, Option.some.injEq] at hu
      rw [← hu, List.getD_eq_getElem?_getD, List.getElem?_eq_getElem hz']
      rfl
    · cases e
      obtain ⟨b, o, rfl, hlt⟩ := hpl h0
      exact hlt
set_option maxRecDepth 100000 in
/-- A plan that came in. -/
theorem open_planC {fuel : Nat} {cs : List Value} {d : DataW H} {pl : List MemPlace} (h : DataW.trod enc Tryz.prog w base spare held fuel 44 cs = some (d, pl)) (hl : Tiny d) :
    ∃ (p : Pl) (AK : Option Addr) (cK : Nat) (AF : Option Addr) (cF : Nat) (AU : Option Addr) (cU : Nat), cs = [.int .i64 p.crash, .slice AK p.keep.length cK, .slice AF p.fail.length cF, .slice AU p.full.length cU, .int .i64 p.room] ∧ PlOk (fun b => b < w.heap.size) w p AK cK AF cF AU cU ∧ p.ok := by
  obtain ⟨hlen, n, hf⟩ := open_fieldsT Tryz.underlying44 (by kernel_rfl) (by kernel_rfl) h hl
  obtain ⟨u0, y0, e0, t0, l0⟩ := hf 0 _ rfl
  obtain ⟨u1, y1, e1, t1, l1⟩ := hf 1 _ rfl
  obtain ⟨u2, y2, e2, t2, l2⟩ := hf 2 _ rfl
  obtain ⟨u3, y3, e3, t3, l3⟩ := hf 3 _ rfl
  obtain ⟨u4, y4, e4, t4, l4⟩ := hf 4 _ rfl
  obtain ⟨z0, hz0, _, w0⟩ := DataW.trod_int Tryz.underlying3 t0
  obtain ⟨z4, hz4, _, w4⟩ := DataW.trod_int Tryz.underlying3 t4
  obtain ⟨A1, c1, k1, rfl, h11, h12, h13, h14⟩ := open_i64s t1 l1
  obtain ⟨A2, c2, k2, rfl, h21, h22, h23, h24⟩ := open_i64s t2 l2
  obtain ⟨A3, c3, k3, rfl, h31, h32, h33, h34⟩ := open_i64s t3 l3
  simp only [List.cons.injEq, and_true] at hz0 hz4
  subst hz0 hz4
  have hl5 : cs.length = 5 := hlen
  obtain ⟨a, b, c, e, f, rfl⟩ := len5o hl5
  simp only [List.getElem?_cons_zero, List.getElem?_cons_succ, Option.some.injEq] at e0 e1 e2 e3 e4
  subst e0 e1 e2 e3 e4
  exact ⟨⟨z0, k1, k2, k3, z4⟩, A1, c1, A2, c2, A3, c3, rfl, ⟨h13, h23, h33, h11, h21, h31⟩, Nat.le_trans h12 (by decide), Nat.le_trans h22 (by decide), Nat.le_trans h32 (by decide), h14, (i64_of w4).1, (i64_of w4).2⟩
set_option maxRecDepth 100000 in
theorem open_plan {base2 : Nat} {r : Reach} {v : Value} {d : DataW H} {pl : List MemPlace} (hv : Value.okWide Tryz.prog w r base2 44 v) (h : DataW.Trod enc Tryz.prog w base spare held 44 v d pl) (hl : Tiny d) :
    ∃ (p : Pl) (AK : Option Addr) (cK : Nat) (AF : Option Addr) (cF : Nat) (AU : Option Addr) (cU : Nat), v = plV p AK cK AF cF AU cU ∧ PlOk (fun b => b < w.heap.size) w p AK cK AF cF AU cU ∧ p.ok := by
  obtain ⟨cs, rfl, _⟩ := okWide_struct Tryz.underlying44 hv
  obtain ⟨fuel, hf⟩ := h
  obtain ⟨p, AK, cK, AF, cF, AU, cU, hcs, h1, h2⟩ := open_planC hf hl
  simp only [Value.cells] at hcs
  refine ⟨p, AK, cK, AF, cF, AU, cU, ?_, h1, h2⟩
  unfold plV
  congr 1
  exact Array.ext' hcs
theorem fld {fs : Array Field} {t : TypeId} {fuel i o k : Nat} {u : TypeId} {cs : List Value} {d : DataW H} {pl : List MemPlace} (hs : Tryz.prog.underlying t = some (.struct fs)) (h : DataW.trod enc Tryz.prog w base spare held fuel t cs = some (d, pl)) (hl : Tiny d) (hf : (fs[i]?).map (fun f => (f.type, f.offset, Tryz.prog.cellsOf f.type)) = some (u, o, k)) :
    ∃ n y, DataW.trod enc Tryz.prog w base spare held n u ((cs.drop o).take k) = some y ∧ Tiny y.1 := by
  obtain ⟨xs, n, _, hx, _, hlen, hg⟩ := DataW.trod_struct hs h
  simp only [Prod.mk.injEq] at hx
  obtain ⟨rfl, _⟩ := hx
  obtain ⟨f, hfi, hfe⟩ := Option.map_eq_some_iff.1 hf
  simp only [Prod.mk.injEq] at hfe
  obtain ⟨rfl, rfl, rfl⟩ := hfe
  have hj : i < fs.size := (Array.getElem?_eq_some_iff.1 hfi).1
  have hxi : xs[i]? = some (xs[i]'(by omega)) := List.getElem?_eq_getElem (by omega)
  exact ⟨n, _, by rw [hg i f hfi, hxi], tiny_part hl (List.mem_map.2 ⟨_, List.getElem_mem _, rfl⟩)⟩
theorem tiny_str {b : List UInt8} (h : Tiny (DataW.lit (H := H) (.string b))) : b.length ≤ 1048576 := by
  unfold Tiny at h
  simp only [Rows.uptoBulk] at h
  omega
theorem str_back (s : ByteArray) : s = ⟨s.data.toList.toArray⟩ := by simp
end
end Go.Proofs.YtgilnjngphhhlaaGreat
