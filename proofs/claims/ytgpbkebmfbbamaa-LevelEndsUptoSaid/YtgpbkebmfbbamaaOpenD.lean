/- Opening arguments, with what the bound of the second form says of sizes; a store's state. -/
import Derived.Test.YtgpbkebmfbbamaaOpenC
import Derived.Test.YtgpbkebmfbbamaaLvI
import Derived.JoinedCond
namespace Go.Proofs.Ytgpbkebmfbbamaa
open Go.Joins Go.ChangeShapes Go.WideShapes Go.RowKit Go.Deep Go.Lec

/-- A datum of little bulk. -/
def Tiny {H : Type} (d : DataW H) : Prop := Rows.uptoBulk d ≤ 1048576
theorem bulk_pos {H : Type} (d : DataW H) : 1 ≤ Rows.uptoBulk d := by
  cases d with
  | lit l => cases l <;> simp [Rows.uptoBulk]
  | _ => simp [Rows.uptoBulk]
theorem bulk_mem {H : Type} {d : DataW H} : ∀ {l : List (DataW H)}, d ∈ l → Rows.uptoBulk d ≤ Rows.uptoBulkAll l
  | [], h => by cases h
  | x :: l, h => by
    simp only [Rows.uptoBulkAll]
    rcases List.mem_cons.1 h with rfl | h
    · omega
    · have := bulk_mem h; omega
theorem bulk_len {H : Type} : ∀ (l : List (DataW H)), l.length ≤ Rows.uptoBulkAll l
  | [] => by simp
  | x :: l => by have := bulk_pos x; have := bulk_len l; simp only [Rows.uptoBulkAll, List.length_cons]; omega
theorem tiny_of {H : Type} {ds : List (DataW H)} (h : Rows.uptoSmall H ds = true) {d : DataW H} (hd : d ∈ ds) : Tiny d := by
  have h1 : Rows.uptoBulkAll ds ≤ 1048576 := by simpa [Rows.uptoSmall] using h
  exact Nat.le_trans (bulk_mem hd) h1
theorem tiny_len {H : Type} {el sp : List (DataW H)} (h : Tiny (.slice el sp)) : el.length + sp.length ≤ 1048576 := by
  have h1 := bulk_len el
  have h2 := bulk_len sp
  unfold Tiny at h
  simp only [Rows.uptoBulk] at h
  omega
theorem tiny_elem {H : Type} {el sp : List (DataW H)} (h : Tiny (.slice el sp)) {d : DataW H} (hd : d ∈ el) : Tiny d := by
  have := bulk_mem hd
  unfold Tiny at h ⊢
  simp only [Rows.uptoBulk] at h
  omega
theorem tiny_part {H : Type} {l : List (DataW H)} (h : Tiny (.agg l)) {d : DataW H} (hd : d ∈ l) : Tiny d := by
  have := bulk_mem hd
  unfold Tiny at h ⊢
  simp only [Rows.uptoBulk] at h
  omega

section
variable {H : Type} {enc : TypeId × Value → H} {P : Program} {w : World} {base : Nat} {spare : Nat → Bool} {held : Bool}
/-- A slice of bytes that came in. -/
theorem open_bytesT {t e : TypeId} (ht : P.underlying t = some (.slice e)) (he : P.underlying e = some (.int .u8)) (hc : P.cellsOf e = 1) {fuel : Nat} {v : Value} {d : DataW H} {pl : List MemPlace}
    (h : DataW.trod enc P w base spare held fuel t [v] = some (d, pl)) (hl : Tiny d) : ∃ A n c l, v = .slice A n c ∧ n ≤ c ∧ n ≤ 1048576 ∧ Rd w w.heap.size A n (bcs l) := by
  rcases open_ints ht he hc h with ⟨hcs, _⟩ | ⟨a, len, cap, zs, hcs, _, hl1, hm, hz, hx, hcell, hwz⟩
  · simp at hcs
    exact ⟨none, 0, 0, [], hcs, Nat.le_refl _, by omega, ⟨rfl, fun h => by omega⟩⟩
  · simp at hcs
    have hzl : len ≤ zs.length := by rw [hz]; split <;> omega
    simp only [Prod.mk.injEq] at hx
    obtain ⟨rfl, _⟩ := hx
    have hlen := tiny_len hl
    simp only [lits, List.length_map, List.length_take, List.length_drop] at hlen
    refine ⟨some a, len, cap, (zs.take len).map fun z => UInt8.ofNat z.toNat, hcs, hl1, by omega, ⟨by simp [bcs]; omega, fun h0 => ?_⟩⟩
    have h1 := hcell 0 (by omega)
    rw [Addr.add_zero'] at h1
    obtain ⟨b, o, rfl, hlt⟩ := addr_plain h1
    refine ⟨b, o, rfl, hlt, fun i u hu => ?_⟩
    have hil : i < len := by
      have := (List.getElem?_eq_some_iff.1 hu).1
      simp [bcs] at this
      omega
    have h2 := hcell i (by omega)
    rw [Addr.add_lit] at h2
    rw [h2]
    have hz' : i < zs.length := by omega
    simp only [bcs, List.map_map, List.getElem?_map, List.getElem?_take, if_pos hil, List.getElem?_eq_getElem hz', Option.map_some, Function.comp_apply, Option.some.injEq] at hu
    rw [← hu, bcell_ofNat]
    have hw := hwz zs[i] (List.getElem_mem hz')
    simp [Lit.wf, IntKind.min, IntKind.max, IntKind.signed, IntKind.bits] at hw
    rw [List.getD_eq_getElem?_getD, List.getElem?_eq_getElem hz']
    simp only [Option.getD_some]
    congr 2
    omega
/-- A struct of one-cell fields: its cells, its data, field by field. -/
theorem open_fieldsT {t : TypeId} {fs : Array Field} (hs : P.underlying t = some (.struct fs)) (hone : oneCellFields P fs = true) (hC : P.cellsOf t = fs.size) {fuel : Nat} {cs : List Value} {d : DataW H} {pl : List MemPlace}
    (h : DataW.trod enc P w base spare held fuel t cs = some (d, pl)) (hl : Tiny d) :
    cs.length = fs.size ∧ ∃ n, ∀ (j : Nat) (f : Field), fs[j]? = some f → ∃ (u : Value) (y : DataW H × List MemPlace), cs[j]? = some u ∧ DataW.trod enc P w base spare held n f.type [u] = some y ∧ Tiny y.1 := by
  obtain ⟨xs, n, _, hx, hcl, hlen, hg⟩ := DataW.trod_struct hs h
  simp only [Prod.mk.injEq] at hx
  obtain ⟨rfl, _⟩ := hx
  refine ⟨by rw [hcl, hC], n, fun j f hj => ?_⟩
  obtain ⟨o, k⟩ := hone_of hone j f hj
  have hjl : j < fs.size := (Array.getElem?_eq_some_iff.1 hj).1
  have hjc : j < cs.length := by omega
  have h1 := hg j f hj
  rw [o, k] at h1
  rw [List.drop_eq_getElem_cons hjc] at h1
  have hxs : xs[j]? = some xs[j] := List.getElem?_eq_getElem (by omega)
  refine ⟨_, xs[j], List.getElem?_eq_getElem hjc, ?_, tiny_part hl (List.mem_map.2 ⟨xs[j], List.getElem_mem _, rfl⟩)⟩
  rw [← hxs]
  exact h1

/-- A slice of files' metas that came in. The types: the slice's, the meta's, number's, bytes', a byte's. -/
theorem open_metasT {t e ti tb t8 : TypeId} {f0 f1 f2 f3 f4 : Field} (ht : P.underlying t = some (.slice e)) (he : P.underlying e = some (.struct #[f0, f1, f2, f3, f4])) (hone : oneCellFields P #[f0, f1, f2, f3, f4] = true) (hC : P.cellsOf e = 5) 
    (h0 : f0.type = ti) (h1 : f1.type = ti) (h2 : f2.type = ti) (h3 : f3.type = tb) (h4 : f4.type = tb) (hi : P.underlying ti = some (.int .i64)) (hb : P.underlying tb = some (.slice t8)) (h8 : P.underlying t8 = some (.int .u8)) (hc8 : P.cellsOf t8 = 1)
    {fuel : Nat} {v : Value} {d : DataW H} {pl : List MemPlace} (h : DataW.trod enc P w base spare held fuel t [v] = some (d, pl)) (hl : Tiny d) :
    ∃ (A : Option Addr) (n c : Nat) (L : List Mt), v = .slice A n c ∧ n ≤ c ∧ n ≤ 1048576 ∧ Mts w w.heap.size A n L := by
  rcases open_slice ht h with ⟨hcs, _⟩ | ⟨a, len, cap, m, n, D, Pl, hcs, _, hlc, hcm, hmm, hx, hel⟩
  · simp at hcs
    exact ⟨none, 0, 0, [], hcs, Nat.le_refl _, by omega, Mts.nil_⟩
  · simp at hcs
    have hlm : len ≤ m := by rw [hmm]; split <;> omega
    simp only [Prod.mk.injEq] at hx
    obtain ⟨rfl, _⟩ := hx
    have hlen := tiny_len hl
    simp only [List.length_map, List.length_range] at hlen
    have hn : len ≤ 1048576 := by omega
    have hex : ∀ i, i < len → ∃ x : Mt, x.ok w w.heap.size ∧ ∀ j u, x.cs[j]? = some u → w.cell? (a.add (i * 5 + j)) = some u := by
      intro i hil
      obtain ⟨cs', hc', ht'⟩ := hel i (by omega)
      rw [hC] at hc'
      obtain ⟨_, hcl, hat⟩ := World.cells?_some hc'
      have hli : Tiny (D i) := tiny_elem hl (List.mem_map.2 ⟨i, List.mem_range.2 hil, rfl⟩)
      obtain ⟨_, n', hf⟩ := open_fieldsT he hone (by rw [hC]; rfl) ht' hli
      obtain ⟨u0, y0, e0, t0, l0⟩ := hf 0 f0 rfl
      obtain ⟨u1, y1, e1, t1, l1⟩ := hf 1 f1 rfl
      obtain ⟨u2, y2, e2, t2, l2⟩ := hf 2 f2 rfl
      obtain ⟨u3, y3, e3, t3, l3⟩ := hf 3 f3 rfl
      obtain ⟨u4, y4, e4, t4, l4⟩ := hf 4 f4 rfl
      rw [h0] at t0
      rw [h1] at t1
      rw [h2] at t2
      rw [h3] at t3
      rw [h4] at t4
      obtain ⟨x0, k0, _, _⟩ := DataW.trod_int hi t0
      obtain ⟨x1, k1, _, _⟩ := DataW.trod_int hi t1
      obtain ⟨x2, k2, _, _⟩ := DataW.trod_int hi t2
      obtain rfl : u0 = .int .i64 x0 := by simpa using k0
      obtain rfl : u1 = .int .i64 x1 := by simpa using k1
      obtain rfl : u2 = .int .i64 x2 := by simpa using k2
      obtain ⟨A1, n1, c1, b1, rfl, hc1, hn1, hr1⟩ := open_bytesT hb h8 hc8 t3 l3
      obtain ⟨A2, n2, c2, b2, rfl, hc2, hn2, hr2⟩ := open_bytesT hb h8 hc8 t4 l4
      refine ⟨⟨x0, x1, x2, A1, n1, c1, b1, A2, n2, c2, b2⟩, ⟨hr1, hr2, hc1, hc2, Nat.le_trans hn1 (by decide), Nat.le_trans hn2 (by decide)⟩, fun j u hu => ?_⟩
      have hj : j < 5 := by have := (List.getElem?_eq_some_iff.1 hu).1; rwa [Mt.cs_len] at this
      rw [← Go.Deep.add_add, hat j hj]
      match j, hj, hu with
      | 0, _, hu => rw [e0]; exact hu
      | 1, _, hu => rw [e1]; exact hu
      | 2, _, hu => rw [e2]; exact hu
      | 3, _, hu => rw [e3]; exact hu
      | 4, _, hu => rw [e4]; exact hu
    let M : Nat → Mt := fun i => if h : i < len then Classical.choose (hex i h) else ⟨0, 0, 0, none, 0, 0, [], none, 0, 0, []⟩
    have hM : ∀ i, i < len → (M i).ok w w.heap.size ∧ ∀ j u, (M i).cs[j]? = some u → w.cell? (a.add (i * 5 + j)) = some u := by
      intro i hil
      simp only [M, dif_pos hil]
      exact Classical.choose_spec (hex i hil)
    rcases Nat.eq_zero_or_pos len with hz | hp
    · subst hz
      exact ⟨some a, 0, cap, [], hcs, hlc, by omega, Mts.nil_⟩
    · have hfst := (hM 0 hp).2 0 _ rfl
      rw [Nat.zero_mul, Nat.zero_add, Addr.add_zero'] at hfst
      obtain ⟨b, o, rfl, hlt⟩ := addr_plain hfst
      refine ⟨some ⟨b, o, none⟩, len, cap, (List.range len).map M, hcs, hlc, hn, ?_, fun x hx => ?_⟩
      · have := RdK_of (w := w) (enc := Mt.cs) (k := 5) Mt.cs_len (B := w.heap.size) (b := b) (o := o) ((List.range len).map M) hlt (fun i hi j u hu => by
          simp only [List.length_map, List.length_range] at hi
          simp only [List.getElem_map, List.getElem_range] at hu
          have := (hM i hi).2 j u hu
          rw [Addr.add_lit] at this
          rw [Nat.mul_comm 5 i]
          exact this)
        simpa using this
      · obtain ⟨i, hi, rfl⟩ := List.mem_map.1 hx
        exact (hM i (List.mem_range.1 hi)).1
end

theorem len4 {α : Type} : ∀ {l : List α}, l.length = 4 → ∃ a b c d, l = [a, b, c, d]
  | [a, b, c, d], _ => ⟨a, b, c, d, rfl⟩
theorem len15 {α : Type} : ∀ {l : List α}, l.length = 15 → ∃ c0 c1 c2 c3 c4 c5 c6 c7 c8 c9 c10 c11 c12 c13 c14, l = [c0, c1, c2, c3, c4, c5, c6, c7, c8, c9, c10, c11, c12, c13, c14]
  | [c0, c1, c2, c3, c4, c5, c6, c7, c8, c9, c10, c11, c12, c13, c14], _ => ⟨c0, c1, c2, c3, c4, c5, c6, c7, c8, c9, c10, c11, c12, c13, c14, rfl⟩

/-- A store's state that came in. -/
theorem open_state {H : Type} {enc : TypeId × Value → H} {w : World} {base : Nat} {spare : Nat → Bool} {held : Bool} {fuel : Nat} {cs : List Value} {d : DataW H} {pl : List MemPlace}
    (h : DataW.trod enc Try.prog w base spare held fuel 26 cs = some (d, pl)) (hl : Tiny d) : ∃ s : St, cs = s.arr.toList ∧ s.ok w w.heap.size := by
  obtain ⟨xs, n, _, hx, hcl, hlen, hg⟩ := DataW.trod_struct Try.underlying26 h
  simp only [Prod.mk.injEq] at hx
  obtain ⟨rfl, _⟩ := hx
  have hC : Try.prog.cellsOf 26 = 15 := by kernel_rfl
  rw [hC] at hcl
  obtain ⟨c0, c1, c2, c3, c4, c5, c6, c7, c8, c9, c10, c11, c12, c13, c14, rfl⟩ := len15 hcl
  have k3 : Try.prog.cellsOf 3 = 1 := by kernel_rfl
  have k9 : Try.prog.cellsOf 9 = 1 := by kernel_rfl
  have k22 : Try.prog.cellsOf 22 = 1 := by kernel_rfl
  have k24 : Try.prog.cellsOf 24 = 7 := by kernel_rfl
  have k23 : Try.prog.cellsOf 23 = 1 := by kernel_rfl
  have hxl : ∀ i, i < 9 → ∃ y, xs[i]? = some y ∧ Tiny y.1 := fun i hi => ⟨xs[i]'(by have : xs.length = 9 := hlen; omega), List.getElem?_eq_getElem _, tiny_part hl (List.mem_map.2 ⟨_, List.getElem_mem _, rfl⟩)⟩
  have g0 : DataW.trod enc Try.prog w base spare held n 3 (([c0, c1, c2, c3, c4, c5, c6, c7, c8, c9, c10, c11, c12, c13, c14].drop 0).take (Try.prog.cellsOf 3)) = xs[0]? := hg 0 _ rfl
  obtain ⟨y0, x0, z0⟩ := hxl 0 (by omega)
  rw [x0] at g0
  simp only [k3, List.drop_succ_cons, List.drop_zero, List.take_succ_cons, List.take_zero] at g0
  obtain ⟨a0, h0, _, _⟩ := DataW.trod_int Try.underlying3 g0
  obtain rfl : c0 = .int .i64 a0 := by simpa using h0
  have g1 : DataW.trod enc Try.prog w base spare held n 3 (([.int .i64 a0, c1, c2, c3, c4, c5, c6, c7, c8, c9, c10, c11, c12, c13, c14].drop 1).take (Try.prog.cellsOf 3)) = xs[1]? := hg 1 _ rfl
  obtain ⟨y1, x1, z1⟩ := hxl 1 (by omega)
  rw [x1] at g1
  simp only [k3, List.drop_succ_cons, List.drop_zero, List.take_succ_cons, List.take_zero] at g1
  obtain ⟨a1, h1, _, _⟩ := DataW.trod_int Try.underlying3 g1
  obtain rfl : c1 = .int .i64 a1 := by simpa using h1
  have g2 : DataW.trod enc Try.prog w base spare held n 3 (([.int .i64 a0, .int .i64 a1, c2, c3, c4, c5, c6, c7, c8, c9, c10, c11, c12, c13, c14].drop 2).take (Try.prog.cellsOf 3)) = xs[2]? := hg 2 _ rfl
  obtain ⟨y2, x2, z2⟩ := hxl 2 (by omega)
  rw [x2] at g2
  simp only [k3, List.drop_succ_cons, List.drop_zero, List.take_succ_cons, List.take_zero] at g2
  obtain ⟨a2, h2, _, _⟩ := DataW.trod_int Try.underlying3 g2
  obtain rfl : c2 = .int .i64 a2 := by simpa using h2
  have g3 : DataW.trod enc Try.prog w base spare held n 3 (([.int .i64 a0, .int .i64 a1, .int .i64 a2, c3, c4, c5, c6, c7, c8, c9, c10, c11, c12, c13, c14].drop 3).take (Try.prog.cellsOf 3)) = xs[3]? := hg 3 _ rfl
  obtain ⟨y3, x3, z3⟩ := hxl 3 (by omega)
  rw [x3] at g3
  simp only [k3, List.drop_succ_cons, List.drop_zero, List.take_succ_cons, List.take_zero] at g3
  obtain ⟨a3, h3, _, _⟩ := DataW.trod_int Try.underlying3 g3
  obtain rfl : c3 = .int .i64 a3 := by simpa using h3
  have g4 : DataW.trod enc Try.prog w base spare held n 3 (([.int .i64 a0, .int .i64 a1, .int .i64 a2, .int .i64 a3, c4, c5, c6, c7, c8, c9, c10, c11, c12, c13, c14].drop 4).take (Try.prog.cellsOf 3)) = xs[4]? := hg 4 _ rfl
  obtain ⟨y4, x4, z4⟩ := hxl 4 (by omega)
  rw [x4] at g4
  simp only [k3, List.drop_succ_cons, List.drop_zero, List.take_succ_cons, List.take_zero] at g4
  obtain ⟨a4, h4, _, _⟩ := DataW.trod_int Try.underlying3 g4
  obtain rfl : c4 = .int .i64 a4 := by simpa using h4
  have g5 : DataW.trod enc Try.prog w base spare held n 9 (([.int .i64 a0, .int .i64 a1, .int .i64 a2, .int .i64 a3, .int .i64 a4, c5, c6, c7, c8, c9, c10, c11, c12, c13, c14].drop 5).take (Try.prog.cellsOf 9)) = xs[5]? := hg 5 _ rfl
  obtain ⟨y5, x5, z5⟩ := hxl 5 (by omega)
  rw [x5] at g5
  simp only [k9, List.drop_succ_cons, List.drop_zero, List.take_succ_cons, List.take_zero] at g5
  obtain ⟨a5, h5, _, _⟩ := DataW.trod_string Try.underlying9 g5
  obtain rfl : c5 = .string a5 := by simpa using h5
  have g6 : DataW.trod enc Try.prog w base spare held n 9 (([.int .i64 a0, .int .i64 a1, .int .i64 a2, .int .i64 a3, .int .i64 a4, .string a5, c6, c7, c8, c9, c10, c11, c12, c13, c14].drop 6).take (Try.prog.cellsOf 9)) = xs[6]? := hg 6 _ rfl
  obtain ⟨y6, x6, z6⟩ := hxl 6 (by omega)
  rw [x6] at g6
  simp only [k9, List.drop_succ_cons, List.drop_zero, List.take_succ_cons, List.take_zero] at g6
  obtain ⟨a6, h6, _, _⟩ := DataW.trod_string Try.underlying9 g6
  obtain rfl : c6 = .string a6 := by simpa using h6
  have g7 : DataW.trod enc Try.prog w base spare held n 22 (([.int .i64 a0, .int .i64 a1, .int .i64 a2, .int .i64 a3, .int .i64 a4, .string a5, .string a6, c7, c8, c9, c10, c11, c12, c13, c14].drop 7).take (Try.prog.cellsOf 22)) = xs[7]? := hg 7 _ rfl
  obtain ⟨y7, x7, z7⟩ := hxl 7 (by omega)
  rw [x7] at g7
  simp only [k22, List.drop_succ_cons, List.drop_zero, List.take_succ_cons, List.take_zero] at g7
  obtain ⟨Ac, nc, cc, _, rfl, _, _, _⟩ := open_bytesT Try.underlying22 Try.underlying5 (by kernel_rfl) g7 z7
  have g8 : DataW.trod enc Try.prog w base spare held n 24 (([.int .i64 a0, .int .i64 a1, .int .i64 a2, .int .i64 a3, .int .i64 a4, .string a5, .string a6, .slice Ac nc cc, c8, c9, c10, c11, c12, c13, c14].drop 8).take (Try.prog.cellsOf 24)) = xs[8]? := hg 8 _ rfl
  obtain ⟨y8, x8, z8⟩ := hxl 8 (by omega)
  rw [x8] at g8
  simp only [k24, List.drop_succ_cons, List.drop_zero, List.take_succ_cons, List.take_zero] at g8
  obtain ⟨xs', m', _, hx', _, hlen', hg'⟩ := DataW.trod_array Try.underlying24 g8
  have hy8 : y8.1 = .agg (xs'.map (·.1)) := by rw [hx']
  rw [hy8] at z8
  have hxl' : ∀ i, i < 7 → ∃ y, xs'[i]? = some y ∧ Tiny y.1 := fun i hi => ⟨xs'[i]'(by omega), List.getElem?_eq_getElem _, tiny_part z8 (List.mem_map.2 ⟨_, List.getElem_mem _, rfl⟩)⟩
  have q0 := hg' 0 (by omega)
  obtain ⟨v0, u0, r0⟩ := hxl' 0 (by omega)
  rw [u0] at q0
  simp only [k23, Nat.mul_one, List.drop_succ_cons, List.drop_zero, List.take_succ_cons, List.take_zero] at q0
  obtain ⟨A0, n0, e0, L0, rfl, p0, o0, M0⟩ := open_metasT Try.underlying23 Try.underlying44 (by kernel_rfl) (by kernel_rfl) rfl rfl rfl rfl rfl Try.underlying3 Try.underlying22 Try.underlying5 (by kernel_rfl) q0 r0
  have q1 := hg' 1 (by omega)
  obtain ⟨v1, u1, r1⟩ := hxl' 1 (by omega)
  rw [u1] at q1
  simp only [k23, Nat.mul_one, List.drop_succ_cons, List.drop_zero, List.take_succ_cons, List.take_zero] at q1
  obtain ⟨A1, n1, e1, L1, rfl, p1, o1, M1⟩ := open_metasT Try.underlying23 Try.underlying44 (by kernel_rfl) (by kernel_rfl) rfl rfl rfl rfl rfl Try.underlying3 Try.underlying22 Try.underlying5 (by kernel_rfl) q1 r1
  have q2 := hg' 2 (by omega)
  obtain ⟨v2, u2, r2⟩ := hxl' 2 (by omega)
  rw [u2] at q2
  simp only [k23, Nat.mul_one, List.drop_succ_cons, List.drop_zero, List.take_succ_cons, List.take_zero] at q2
  obtain ⟨A2, n2, e2, L2, rfl, p2, o2, M2⟩ := open_metasT Try.underlying23 Try.underlying44 (by kernel_rfl) (by kernel_rfl) rfl rfl rfl rfl rfl Try.underlying3 Try.underlying22 Try.underlying5 (by kernel_rfl) q2 r2
  have q3 := hg' 3 (by omega)
  obtain ⟨v3, u3, r3⟩ := hxl' 3 (by omega)
  rw [u3] at q3
  simp only [k23, Nat.mul_one, List.drop_succ_cons, List.drop_zero, List.take_succ_cons, List.take_zero] at q3
  obtain ⟨A3, n3, e3, L3, rfl, p3, o3, M3⟩ := open_metasT Try.underlying23 Try.underlying44 (by kernel_rfl) (by kernel_rfl) rfl rfl rfl rfl rfl Try.underlying3 Try.underlying22 Try.underlying5 (by kernel_rfl) q3 r3
  have q4 := hg' 4 (by omega)
  obtain ⟨v4, u4, r4⟩ := hxl' 4 (by omega)
  rw [u4] at q4
  simp only [k23, Nat.mul_one, List.drop_succ_cons, List.drop_zero, List.take_succ_cons, List.take_zero] at q4
  obtain ⟨A4, n4, e4, L4, rfl, p4, o4, M4⟩ := open_metasT Try.underlying23 Try.underlying44 (by kernel_rfl) (by kernel_rfl) rfl rfl rfl rfl rfl Try.underlying3 Try.underlying22 Try.underlying5 (by kernel_rfl) q4 r4
  have q5 := hg' 5 (by omega)
  obtain ⟨v5, u5, r5⟩ := hxl' 5 (by omega)
  rw [u5] at q5
  simp only [k23, Nat.mul_one, List.drop_succ_cons, List.drop_zero, List.take_succ_cons, List.take_zero] at q5
  obtain ⟨A5, n5, e5, L5, rfl, p5, o5, M5⟩ := open_metasT Try.underlying23 Try.underlying44 (by kernel_rfl) (by kernel_rfl) rfl rfl rfl rfl rfl Try.underlying3 Try.underlying22 Try.underlying5 (by kernel_rfl) q5 r5
  have q6 := hg' 6 (by omega)
  obtain ⟨v6, u6, r6⟩ := hxl' 6 (by omega)
  rw [u6] at q6
  simp only [k23, Nat.mul_one, List.drop_succ_cons, List.drop_zero, List.take_succ_cons, List.take_zero] at q6
  obtain ⟨A6, n6, e6, L6, rfl, p6, o6, M6⟩ := open_metasT Try.underlying23 Try.underlying44 (by kernel_rfl) (by kernel_rfl) rfl rfl rfl rfl rfl Try.underlying3 Try.underlying22 Try.underlying5 (by kernel_rfl) q6 r6
  refine ⟨⟨a0, a1, a2, a3, a4, a5, a6, Ac, nc, cc, fun j => match j with | 0 => A0 | 1 => A1 | 2 => A2 | 3 => A3 | 4 => A4 | 5 => A5 | _ => A6, fun j => match j with | 0 => n0 | 1 => n1 | 2 => n2 | 3 => n3 | 4 => n4 | 5 => n5 | _ => n6, fun j => match j with | 0 => e0 | 1 => e1 | 2 => e2 | 3 => e3 | 4 => e4 | 5 => e5 | _ => e6, fun j => match j with | 0 => L0 | 1 => L1 | 2 => L2 | 3 => L3 | 4 => L4 | 5 => L5 | _ => L6⟩, rfl, fun j hj => ?_⟩
  match j, hj with
  | 0, _ => exact ⟨M0, p0, Nat.le_trans o0 (by decide)⟩
  | 1, _ => exact ⟨M1, p1, Nat.le_trans o1 (by decide)⟩
  | 2, _ => exact ⟨M2, p2, Nat.le_trans o2 (by decide)⟩
  | 3, _ => exact ⟨M3, p3, Nat.le_trans o3 (by decide)⟩
  | 4, _ => exact ⟨M4, p4, Nat.le_trans o4 (by decide)⟩
  | 5, _ => exact ⟨M5, p5, Nat.le_trans o5 (by decide)⟩
  | 6, _ => exact ⟨M6, p6, Nat.le_trans o6 (by decide)⟩
end Go.Proofs.Ytgpbkebmfbbamaa
