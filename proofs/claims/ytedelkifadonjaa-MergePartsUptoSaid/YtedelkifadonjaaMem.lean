/- Words for memory: a slice value reads as a list of one-cell values ('Rd'), owned rows of bytes, and append laws in the form that the walks of this claim use. Nothing here speaks of the program. -/
import Derived.WalkKit
import Derived.WalkSpells
import Derived.WalkLawsBesides
import Derived.Lib.Hide
import Derived.Deep.Draws
import Derived.Laws.BytesString
import Derived.Deep.RegionHeld3
import Derived.Deep.DeepCutAuto
import Derived.Deep.QuietTactic
import Derived.BigQuiet
import Derived.StillTailTactics
import Derived.Lib.AppendStr
namespace Go.Lec
open Go.RowKit

/-- The cell that holds a byte. -/
def bcell (c : UInt8) : Value := .int .u8 (c.toNat : Int)
/-- The cells that hold a list of bytes. -/
def bcs (l : List UInt8) : List Value := l.map bcell
theorem bcs_length (l : List UInt8) : (bcs l).length = l.length := by simp [bcs]
theorem bcs_append (a b : List UInt8) : bcs (a ++ b) = bcs a ++ bcs b := by simp [bcs]
theorem bcs_get {l : List UInt8} {i : Nat} (h : i < l.length) : (bcs l)[i]? = some (.int .u8 (l[i].toNat : Int)) := by simp [bcs, h, bcell]
theorem bcs_one {l : List UInt8} : ∀ u ∈ bcs l, u.oneCell' = true := by
  intro u hu
  simp only [bcs, List.mem_map] at hu
  obtain ⟨c, _, rfl⟩ := hu
  rfl

/-- What is known of a slice type of one-cell elements. -/
structure SlT (P : Program) (t e : TypeId) (z : Value) (by_ : Nat) : Prop where
  ut : P.underlying t = some (.slice e)
  info : ∃ i, P.info? e = some i ∧ i.zero = some z ∧ i.size = 1 ∧ i.bytes = by_
  zc : z.cells.size = 1

/-- The slice '.slice A n c' reads as the cells xs, which lie below block B. -/
def Rd (w : World) (B : Nat) (A : Option Addr) (n : Nat) (xs : List Value) : Prop :=
  xs.length = n ∧ (0 < n → ∃ b o, A = some ⟨b, o, none⟩ ∧ b < B ∧ ∀ i u, xs[i]? = some u → w.cell? ⟨b, o + i, none⟩ = some u)

section
variable {w w' : World} {B B' n : Nat} {A : Option Addr} {xs : List Value}
theorem Rd.nil_ : Rd w B A 0 [] := ⟨rfl, fun h => absurd h (by omega)⟩
theorem Rd.more (h : Rd w B A n xs) (hB : B ≤ B') : Rd w B' A n xs :=
  ⟨h.1, fun hn => by obtain ⟨b, o, e, hb, hc⟩ := h.2 hn; exact ⟨b, o, e, by omega, hc⟩⟩
theorem Rd.keep (h : Rd w B A n xs) (hk : ∀ p : Addr, p.block < B → w'.cell? p = w.cell? p) : Rd w' B A n xs :=
  ⟨h.1, fun hn => by obtain ⟨b, o, e, hb, hc⟩ := h.2 hn; exact ⟨b, o, e, hb, fun i u hu => (hk _ hb).trans (hc i u hu)⟩⟩
theorem Rd.below (h : Rd w B A n xs) (hb : Below B' w w') (hB : B ≤ B') : Rd w' B A n xs := h.keep fun p hp => hb.cell (by omega)
theorem Rd.drew (h : Rd w B A n xs) : Rd w.drew B A n xs := h
theorem Rd.drewN (h : Rd w B A n xs) (k : Nat) : Rd (w.drewN k) B A n xs := h
theorem Rd.alloc (h : Rd w B A n xs) (hB : B ≤ w.heap.size) (o : Obj) : Rd (w.alloc o) B A n xs := h.keep fun p hp => World.cell?_alloc_lt w o p (by omega)
theorem Rd.grown {row : Option Nat} (h : Rd w B A n xs) (hg : w.grownBy w' row) (hB : B ≤ w.heap.size) (hr : ∀ g, row = some g → B ≤ g) : Rd w' B A n xs :=
  h.keep fun p hp => World.cell?_of_block (hg.block p.block (by omega) (fun e => by have := hr _ e.symm; omega))
theorem Rd.cut (h : Rd w B A n xs) {k c : Nat} (hk : k ≤ n) (hc : n ≤ c) :
    Rd w B (if c = k then A else A.map (·.add k)) (n - k) (xs.drop k) := by
  refine ⟨by rw [List.length_drop, h.1], fun hn => ?_⟩
  obtain ⟨b, o, rfl, hb, hcell⟩ := h.2 (by omega)
  rw [if_neg (by omega)]
  refine ⟨b, o + k, by simp [Addr.add_lit], hb, fun j u hu => ?_⟩
  rw [Nat.add_assoc]
  exact hcell _ u (by rw [← hu, List.getElem?_drop])
theorem Rd.take_ (h : Rd w B A n xs) {k : Nat} (hk : k ≤ n) : Rd w B A k (xs.take k) := by
  refine ⟨by rw [List.length_take, h.1]; omega, fun hn => ?_⟩
  obtain ⟨b, o, rfl, hb, hcell⟩ := h.2 (by omega)
  refine ⟨b, o, rfl, hb, fun j u hu => hcell j u ?_⟩
  rw [List.getElem?_take] at hu
  split at hu
  · exact hu
  · cases hu
end

/-- One byte of a slice that reads as bytes. -/
theorem Rd.byte {w : World} {B n k : Nat} {A : Option Addr} {l : List UInt8} (h : Rd w B A n (bcs l)) (hk : k < n) :
    ∃ b o, A = some ⟨b, o, none⟩ ∧ b < B ∧ ∀ j (hj : j < l.length), w.cell? ⟨b, o + j, none⟩ = some (.int .u8 (l[j].toNat : Int)) := by
  obtain ⟨b, o, e, hb, hc⟩ := h.2 (by omega)
  exact ⟨b, o, e, hb, fun j hj => hc j _ (bcs_get hj)⟩

/-- The row that a slice value owns, of one-cell elements. -/
def Own (w : World) (B : Nat) (e : TypeId) (v : Value) (xs : List Value) : Prop := w.ownsRow B e 1 v xs.length xs

section
variable {w w' : World} {B B' : Nat} {e : TypeId} {v : Value} {xs : List Value}
theorem Own.nil_ (w : World) (B : Nat) (e : TypeId) : Own w B e (.slice none 0 0) [] := World.ownsRow_nil w B e 1
theorem Own.shape (h : Own w B e v xs) : ∃ A c, v = .slice A xs.length c ∧ xs.length ≤ c := by
  rcases h.2 with ⟨rfl, hn⟩ | ⟨g, cap, cur, rfl, _, _, hc, _⟩
  · exact ⟨none, 0, by rw [hn], by omega⟩
  · exact ⟨_, cap, rfl, hc⟩
theorem Own.rd {A : Option Addr} {n c : Nat} (h : Own w B e (.slice A n c) xs) : Rd w w.heap.size A n xs := by
  rcases h.2 with ⟨hv, hn⟩ | ⟨g, cap, cur, hv, hb, hh, hc, hm, hs, ht⟩
  · simp only [Value.slice.injEq] at hv
    exact ⟨by omega, fun h0 => by omega⟩
  · simp only [Value.slice.injEq] at hv
    obtain ⟨rfl, rfl, rfl⟩ := hv
    refine ⟨rfl, fun _ => ⟨g, 0, rfl, (Array.getElem?_eq_some_iff.1 hh).1, fun i u hu => ?_⟩⟩
    rw [Nat.zero_add, cell_of_row w g i cur e (0, 0) hh]
    rw [← ht, List.getElem?_take] at hu
    split at hu
    · simpa using hu
    · cases hu
theorem Own.mono (h : Own w B e v xs) (hB : B' ≤ B) : Own w B' e v xs := by
  refine ⟨h.1, ?_⟩
  rcases h.2 with h2 | ⟨g, cap, cur, hv, hb, r⟩
  · exact .inl h2
  · exact .inr ⟨g, cap, cur, hv, by omega, r⟩
theorem Own.alloc (h : Own w B e v xs) (o : Obj) : Own (w.alloc o) B e v xs := World.ownsRow.alloc h o
theorem Own.drew (h : Own w B e v xs) : Own w.drew B e v xs := h
theorem Own.drewN (h : Own w B e v xs) (k : Nat) : Own (w.drewN k) B e v xs := h
/-- What is owned below block C stays owned where nothing below C has turned. -/
theorem Own.below {C : Nat} (h : Own w B e v xs) (hb : Below C w w') (hC : w.heap.size ≤ C) : Own w' B e v xs := by
  refine ⟨h.1, ?_⟩
  rcases h.2 with h2 | ⟨g, cap, cur, hv, hg, hh, r⟩
  · exact .inl h2
  · have := (Array.getElem?_eq_some_iff.1 hh).1
    exact .inr ⟨g, cap, cur, hv, hg, by rw [hb.block g (by omega)]; exact hh, r⟩
theorem Own.grown {row : Option Nat} (h : Own w B e v xs) (hg : w.grownBy w' row) (hr : ∀ g, row = some g → v.ownBlock ≠ some g) : Own w' B e v xs := by
  refine World.ownsRow.kept h hg ?_
  cases row with
  | none => cases hv : v.ownBlock <;> simp
  | some g => exact .inr (hr g rfl)
/-- A literal that has just been laid. -/
theorem Own.lit (w : World) (cs : List Value) (hB : B ≤ w.heap.size) (hm : cs.length ≤ maxLen) : Own (w.alloc (.cells cs.toArray e)) B e (.slice (some ⟨w.heap.size, 0, none⟩) cs.length cs.length) cs := by
  have := World.ownsRow_lit (base := B) (e := e) (size := 1) w cs.toArray cs.length hB hm (by simp)
  simpa [Own] using this
end

section
variable {w w' : World} {B n c g : Nat} {e : TypeId} {xs : List Value}
theorem Own.len_ {A : Option Addr} (h : Own w B e (.slice A n c) xs) : xs.length = n := by
  obtain ⟨A', c', hv, _⟩ := h.shape
  simp only [Value.slice.injEq] at hv
  exact hv.2.1.symm
theorem Own.cellAt (h : Own w B e (.slice (some ⟨g, 0, none⟩) n c) xs) (j : Nat) (hj : j < n) : w.cell? ⟨g, j, none⟩ = xs[j]? := by
  have hl := h.len_
  subst hl
  exact World.ownsRow.cellAt (size := 1) h j (by simpa using hj)
theorem Own.frozenAt (h : Own w B e (.slice (some ⟨g, 0, none⟩) n c) xs) (j : Nat) : w.frozen? ⟨g, j, none⟩ = false := by
  have hl := h.len_
  subst hl
  exact World.ownsRow.frozenAt (size := 1) h j
theorem Own.stored (h : Own w B e (.slice (some ⟨g, 0, none⟩) n c) xs) (j : Nat) (u : Value) : Own (w.setCell ⟨g, j, none⟩ u) B e (.slice (some ⟨g, 0, none⟩) n c) (xs.set j u) := by
  have hl := h.len_
  subst hl
  have := (World.ownsRow.stored (size := 1) h j u).1
  simpa [Own] using this
theorem Own.base_ (h : Own w B e (.slice (some ⟨g, 0, none⟩) n c) xs) : B ≤ g ∧ g < w.heap.size := World.ownsRow.lt h g rfl
end

theorem grownBy_of_alloc {w w' : World} {o : Obj} {row : Option Nat} (h : (w.alloc o).grownBy w' row) : w.grownBy w' row :=
  ⟨h.os, h.tape, h.output, by have := h.size; simp at this; omega, fun k hk hne => (h.block k (by simp; omega) hne).trans (Below.heap_alloc w o k hk)⟩

/-- What an append onto an owned row leaves below the row's own base. -/
theorem below_of_own {w w' : World} {B : Nat} {e : TypeId} {v : Value} {xs : List Value} (h : Own w B e v xs) (hg : w.grownBy w' v.ownBlock) (hB : B ≤ w.heap.size) : Below B w w' :=
  (Below.refl B w).grown hg hB fun k hk => (World.ownsRow.lt h k hk).1

section
variable {P : Program} {w : World} {ops : Array Oper} {rest : List Oper} {o : Oper} {a : Act} {Q : Exit → Act → World → Prop}
/-- append of new elements: a literal that the operation before has laid in a block of its own. -/
theorem wpList_app_new {t e : TypeId} {z : Value} {by_ : Nat} (hgd : o.guard = none) (s x : Operand)
    (ho : o.op = .call { callee := .builtin .append, args := #[s, x], argTypes := #[t, t] }) (hT : SlT P t e z by_)
    {base : Nat} {v : Value} {xs news : List Value} {m c : Nat} (hs : a.eval s = v) (hown : Own w base e v xs) (hx : a.eval x = .slice (some ⟨w.heap.size, 0, none⟩) m c) (hm : news.length = m)
    (h1 : ∀ u ∈ news, u.oneCell' = true) (hlen : xs.length + m ≤ 1099511627776) (hby : by_ ≤ 128) (hbase : base ≤ w.heap.size)
    (h : ∀ v' w', Own w' base e v' (xs ++ news) → Below base w w' → w.grownBy w' v.ownBlock → wpList P ops Q rest (a.put o.dst v') w') :
    wpList P ops Q (o :: rest) a (w.alloc (.cells news.toArray e)) := by
  obtain ⟨i, hi, hz, hsz, hb⟩ := hT.info
  have hbb : (xs.length + m) * by_ ≤ 140737488355328 := Nat.le_trans (Nat.mul_le_mul hlen hby) (by decide)
  refine wpList_append_own _ hgd s x t ho base e i z 1 by_ hT.ut hi hz hsz hb hT.zc (by decide) v xs.length xs hs (World.ownsRow.alloc hown _) ⟨w.heap.size, 0, none⟩ m c news hx (by omega) ?_ h1 (by unfold maxLen; omega) hbb (by simp; omega) ?_
  · intro j u hu
    rw [Addr.add_lit, Nat.zero_add, World.cell?_alloc_new]
    simpa using hu
  · intro v' w' ho' hg _
    have hg' := grownBy_of_alloc hg
    refine h v' w' ?_ (below_of_own hown hg' hbase) hg'
    have hl : xs.length + m = (xs ++ news).length := by simp [hm]
    rw [hl] at ho'
    exact ho'
/-- append of a slice that reads as a list. -/
theorem wpList_app_rd {t e : TypeId} {z : Value} {by_ : Nat} (hgd : o.guard = none) (s x : Operand)
    (ho : o.op = .call { callee := .builtin .append, args := #[s, x], argTypes := #[t, t] }) (hT : SlT P t e z by_)
    {base : Nat} {v : Value} {xs news : List Value} {m c B : Nat} {A : Option Addr} (hs : a.eval s = v) (hown : Own w base e v xs) (hx : a.eval x = .slice A m c) (hr : Rd w B A m news)
    (h1 : ∀ u ∈ news, u.oneCell' = true) (hlen : xs.length + m ≤ 1099511627776) (hby : by_ ≤ 128) (hbase : base ≤ w.heap.size)
    (h : ∀ v' w', Own w' base e v' (xs ++ news) → Below base w w' → w.grownBy w' v.ownBlock → wpList P ops Q rest (a.put o.dst v') w') :
    wpList P ops Q (o :: rest) a w := by
  obtain ⟨i, hi, hz, hsz, hb⟩ := hT.info
  have hbb : (xs.length + m) * by_ ≤ 140737488355328 := Nat.le_trans (Nat.mul_le_mul hlen hby) (by decide)
  rcases Nat.eq_zero_or_pos m with h0 | h0
  · subst h0
    have hn : news = [] := List.eq_nil_of_length_eq_zero hr.1
    subst hn
    refine wpList_plain hgd fun K hK => ?_
    have hrun : (Builtin.append_ #[t, t] o.type #[v, .slice A 0 c]).run P w = .ok v w := by
      rcases hown.2 with ⟨rfl, _⟩ | ⟨g, cap, cur, rfl, _, _, hnc, _⟩
      · cases A <;> simp [Builtin.append_, run_underlying hT.ut, sizeOf, typeInfo, hi, Builtin.lenOf, Builtin.firstCells, loadCells, loadCellsFrom]
      · cases A <;> simp [Builtin.append_, run_underlying hT.ut, sizeOf, typeInfo, hi, Builtin.lenOf, Builtin.firstCells, loadCells, loadCellsFrom, hnc, storeCells]
    unfold Oper.wp execOp
    simp only [ho, resolve, invoke, builtin, Sem.run_bind, Sem.run_pure, Result.andThen_ok, List.map_toArray, List.map_cons, List.map_nil, hs, hx, hrun]
    exact hK _ _ (h v w (by simpa using hown) (Below.refl _ _) (World.grownBy.refl _ _))
  · obtain ⟨b, of, rfl, _, hc⟩ := hr.2 h0
    refine wpList_append_own _ hgd s x t ho base e i z 1 by_ hT.ut hi hz hsz hb hT.zc (by decide) v xs.length xs hs hown ⟨b, of, none⟩ m c news hx (by have := hr.1; omega) ?_ h1 (by unfold maxLen; omega) hbb hbase ?_
    · intro j u hu
      rw [Addr.add_lit]
      exact hc j u hu
    · intro v' w' ho' hg _
      refine h v' w' ?_ (below_of_own hown hg hbase) hg
      have hl : xs.length + m = (xs ++ news).length := by simp [hr.1]
      rw [hl] at ho'
      exact ho'
/-- make of so many zero elements. -/
theorem wpList_make_n {t e : TypeId} {z : Value} {by_ : Nat} (hgd : o.guard = none) (l c : Operand) (hop : o.op = Op.makeSlice t l c) (hT : SlT P t e z by_) (hby : by_ ≤ 128) (hzc : z.cells = #[z])
    {base : Nat} (hbase : base ≤ w.heap.size) {kl kc : IntKind} {L C : Int} (n : Nat) (hl : a.eval l = .int kl L) (hc : a.eval c = .int kc C) (hL : L = (n : Int)) (hC : C = (n : Int)) (hn : n ≤ 1099511627776)
    (h : ∀ w', Own w' base e (.slice (some ⟨w.heap.size, 0, none⟩) n n) (List.replicate n z) → Below w.heap.size w w' → w.heap.size + 1 ≤ w'.heap.size → wpList P ops Q rest (a.put o.dst (.slice (some ⟨w.heap.size, 0, none⟩) n n)) w') :
    wpList P ops Q (o :: rest) a w := by
  obtain ⟨i, hi, hz, hsz, hb⟩ := hT.info
  have hbb : by_ * n ≤ 128 * 1099511627776 := Nat.mul_le_mul hby hn
  refine wpList_make_full w hgd l c t hop base e i z 1 hT.ut hi hz hsz kl kc L C n hl hc hL hC (by rw [hb]; omega) (by unfold maxLen; omega) hbase ?_
  intro w' ho' hg
  have h1 : Own w' base e (.slice (some ⟨w.heap.size, 0, none⟩) n n) (List.replicate n z) := by
    have e1 : (madeCells z.cells (n * 1)).toList = List.replicate n z := by rw [hzc, Nat.mul_one, toList_madeCells_one]
    rw [e1] at ho'
    unfold Own
    rw [List.length_replicate]
    exact ho'
  have h2 : Below w.heap.size w w' := (Below.refl _ _).grown hg (Nat.le_refl _) (fun k hk => by cases hk)
  exact h w' h1 h2 h1.base_.2
/-- append of a literal, beside the bound of what has turned since an earlier world. -/
theorem wpList_app_lit {t e : TypeId} {z : Value} {by_ : Nat} (hgd : o.guard = none) (s x : Operand)
    (ho : o.op = .call { callee := .builtin .append, args := #[s, x], argTypes := #[t, t] }) (hT : SlT P t e z by_) (hby : by_ ≤ 128)
    {w0 : World} {base : Nat} {v : Value} {xs : List Value} {c : Nat} (hs : a.eval s = v) (hown : Own w base e v xs) (hb : Below base w0 w) (hbase : base ≤ w.heap.size) (news : List Value) (hx : a.eval x = .slice (some ⟨w.heap.size, 0, none⟩) news.length c)
    (h1 : ∀ u ∈ news, u.oneCell' = true) (hlen : xs.length + news.length ≤ 1099511627776)
    (h : ∀ v' w', Own w' base e v' (xs ++ news) → Below base w0 w' → base ≤ w'.heap.size → wpList P ops Q rest (a.put o.dst v') w') :
    wpList P ops Q (o :: rest) a (w.alloc (.cells news.toArray e)) :=
  wpList_app_new hgd s x ho hT hs hown hx rfl h1 hlen hby hbase fun v' w' h2 h3 _ => h v' w' h2 (hb.trans h3) (Nat.le_trans hbase h3.size)
/-- append of a slice that reads as a list, likewise. -/
theorem wpList_app_sl {t e : TypeId} {z : Value} {by_ : Nat} (hgd : o.guard = none) (s x : Operand)
    (ho : o.op = .call { callee := .builtin .append, args := #[s, x], argTypes := #[t, t] }) (hT : SlT P t e z by_) (hby : by_ ≤ 128)
    {w0 : World} {base : Nat} {v : Value} {xs news : List Value} {m c B : Nat} {A : Option Addr} (hs : a.eval s = v) (hown : Own w base e v xs) (hb : Below base w0 w) (hbase : base ≤ w.heap.size) (hx : a.eval x = .slice A m c) (hr : Rd w B A m news)
    (h1 : ∀ u ∈ news, u.oneCell' = true) (hlen : xs.length + m ≤ 1099511627776)
    (h : ∀ v' w', Own w' base e v' (xs ++ news) → Below base w0 w' → base ≤ w'.heap.size → wpList P ops Q rest (a.put o.dst v') w') :
    wpList P ops Q (o :: rest) a w :=
  wpList_app_rd hgd s x ho hT hs hown hx hr h1 hlen hby hbase fun v' w' h2 h3 _ => h v' w' h2 (hb.trans h3) (Nat.le_trans hbase h3.size)
/-- append of a string's bytes, likewise. -/
theorem wpList_app_str {t u e : TypeId} (hgd : o.guard = none) (s x : Operand)
    (ho : o.op = .call { callee := .builtin .append, args := #[s, x], argTypes := #[t, u] }) (hT : SlT P t e (.int .u8 0) 1) (hu : P.underlying u = some .string)
    {w0 : World} {base : Nat} {v : Value} {xs : List Value} (l : List UInt8) (hs : a.eval s = v) (hown : Own w base e v xs) (hb : Below base w0 w) (hbase : base ≤ w.heap.size) (hx : a.eval x = .string ⟨l.toArray⟩)
    (hlen : xs.length + l.length ≤ 1099511627776)
    (h : ∀ v' w', Own w' base e v' (xs ++ bcs l) → Below base w0 w' → base ≤ w'.heap.size → wpList P ops Q rest (a.put o.dst v') w') :
    wpList P ops Q (o :: rest) a w := by
  obtain ⟨i, hi, hz, hsz, hbb⟩ := hT.info
  have hsize : (⟨l.toArray⟩ : ByteArray).size = l.length := by simp [ByteArray.size]
  refine Lib.wpList_append_own_string w hgd s x t u ho base e i hT.ut hu hi hz hsz hbb v xs.length xs hs hown _ hx (by rw [hsize]; unfold maxLen; omega) (by rw [hsize]; omega) hbase ?_
  intro v' w' ho' hg _
  have hl : xs.length + l.length = (xs ++ bcs l).length := by simp [bcs_length]
  have hsc : Lib.strCells ⟨l.toArray⟩ = bcs l := by simp [Lib.strCells, bcs, bcell]
  rw [hsize, hsc, hl] at ho'
  have h3 := below_of_own hown hg hbase
  exact h v' w' ho' (hb.trans h3) (Nat.le_trans hbase h3.size)
end

section
variable {P : Program} {w : World} {ops : Array Oper} {o : Oper} {a : Act} {Q : Exit → Act → World → Prop} {K : Act → World → Prop} {E : Prop}
/-- It fits at an append of these operands alone. -/
theorem at_app {dst : Option Tmp} {ts : Array TypeId} {ty : TypeId} {pos : String} {af : Array Edge} {g : Option (Nat × Bool)} (s x : Operand)
    (h : if Region.wanted ⟨dst, .call ⟨.builtin .append, #[s, x], ts⟩, ty, pos, af, g⟩ (yielded ops a.tmps) = true then Oper.wp P ⟨dst, .call ⟨.builtin .append, #[s, x], ts⟩, ty, pos, af, g⟩ a w K Q else E) :
    if Region.wanted ⟨dst, .call ⟨.builtin .append, #[s, x], ts⟩, ty, pos, af, g⟩ (yielded ops a.tmps) = true then Oper.wp P ⟨dst, .call ⟨.builtin .append, #[s, x], ts⟩, ty, pos, af, g⟩ a w K Q else E := h
/-- append of a slice that reads as a list, at a step of a region that draws its order. -/
theorem step_app_rd {t e : TypeId} {z : Value} {by_ : Nat} (hgd : o.guard = none) (s x : Operand)
    (ho : o.op = .call { callee := .builtin .append, args := #[s, x], argTypes := #[t, t] }) (hT : SlT P t e z by_) (hby : by_ ≤ 128)
    {w0 : World} {base : Nat} {v : Value} {xs news : List Value} {m c : Nat} {A : Option Addr} (hs : a.eval s = v) (hown : Own w base e v xs) (hb : Below base w0 w) (hbase : base ≤ w.heap.size) (hx : a.eval x = .slice A m c) (hr : Rd w w.heap.size A m news)
    (h1 : ∀ u ∈ news, u.oneCell' = true) (hlen : xs.length + m ≤ 1099511627776)
    (h : ∀ v' w', Own w' base e v' (xs ++ news) → Below base w0 w' → w.grownBy w' v.ownBlock → base ≤ w'.heap.size → K (a.put o.dst v') w') :
    if Region.wanted o (yielded ops a.tmps) = true then Oper.wp P o a w K Q else E := by
  have hw : Region.wanted o (yielded ops a.tmps) = true := by simp [Region.wanted, hgd]
  rw [if_pos hw]
  obtain ⟨i, hi, hz, hsz, hbb'⟩ := hT.info
  have hbb : (xs.length + m) * by_ ≤ 140737488355328 := Nat.le_trans (Nat.mul_le_mul hlen hby) (by decide)
  rcases Nat.eq_zero_or_pos m with h0 | h0
  · subst h0
    have hn : news = [] := List.eq_nil_of_length_eq_zero hr.1
    subst hn
    have hrun : (Builtin.append_ #[t, t] o.type #[v, .slice A 0 c]).run P w = .ok v w := by
      rcases hown.2 with ⟨rfl, _⟩ | ⟨g, cap, cur, rfl, _, _, hnc, _⟩
      · cases A <;> simp [Builtin.append_, run_underlying hT.ut, sizeOf, typeInfo, hi, Builtin.lenOf, Builtin.firstCells, loadCells, loadCellsFrom]
      · cases A <;> simp [Builtin.append_, run_underlying hT.ut, sizeOf, typeInfo, hi, Builtin.lenOf, Builtin.firstCells, loadCells, loadCellsFrom, hnc, storeCells]
    unfold Oper.wp execOp
    simp only [ho, resolve, invoke, builtin, Sem.run_bind, Sem.run_pure, Result.andThen_ok, List.map_toArray, List.map_cons, List.map_nil, hs, hx, hrun]
    exact h v w (by simpa using hown) hb (World.grownBy.refl _ _) hbase
  · obtain ⟨b, of, rfl, _, hc⟩ := hr.2 h0
    refine wp_append_own w s x t ho base e i z 1 by_ hT.ut hi hz hsz hbb' hT.zc (by decide) v xs.length xs hs hown ⟨b, of, none⟩ m c news hx (by have := hr.1; omega) ?_ h1 (by unfold maxLen; omega) hbb hbase ?_
    · intro j u hu
      rw [Addr.add_lit]
      exact hc j u hu
    · intro v' w' ho' hg _
      have h3 := below_of_own hown hg hbase
      refine h v' w' ?_ (hb.trans h3) hg (Nat.le_trans hbase h3.size)
      have hl : xs.length + m = (xs ++ news).length := by simp [hr.1]
      rw [hl] at ho'
      exact ho'
end

section
variable {P : Program} {w : World} {ops : Array Oper} {o : Oper} {a : Act} {Q : Exit → Act → World → Prop} {K : Act → World → Prop} {E : Prop}
/-- append of a string's bytes, at a step of a region that draws its order. -/
theorem step_app_str {t u e : TypeId} (hgd : o.guard = none) (s x : Operand)
    (ho : o.op = .call { callee := .builtin .append, args := #[s, x], argTypes := #[t, u] }) (hT : SlT P t e (.int .u8 0) 1) (hu : P.underlying u = some .string)
    {w0 : World} {base : Nat} {v : Value} {xs : List Value} (l : List UInt8) (hs : a.eval s = v) (hown : Own w base e v xs) (hb : Below base w0 w) (hbase : base ≤ w.heap.size) (hx : a.eval x = .string ⟨l.toArray⟩)
    (hlen : xs.length + l.length ≤ 1099511627776)
    (h : ∀ v' w', Own w' base e v' (xs ++ bcs l) → Below base w0 w' → w.grownBy w' v.ownBlock → base ≤ w'.heap.size → K (a.put o.dst v') w') :
    if Region.wanted o (yielded ops a.tmps) = true then Oper.wp P o a w K Q else E := by
  have hw : Region.wanted o (yielded ops a.tmps) = true := by simp [Region.wanted, hgd]
  rw [if_pos hw]
  obtain ⟨i, hi, hz, hsz, hbb⟩ := hT.info
  have hsize : (⟨l.toArray⟩ : ByteArray).size = l.length := by simp [ByteArray.size]
  obtain ⟨v', w', hr, ho', hg, _⟩ := Lib.run_append_own_string (P := P) w base t u o.type e i hT.ut hu hi hz hsz hbb v xs.length xs hown ⟨l.toArray⟩ (by rw [hsize]; unfold maxLen; omega) (by rw [hsize]; omega) hbase
  unfold Oper.wp execOp
  simp only [ho, resolve, invoke, builtin, Sem.run_bind, Sem.run_pure, Result.andThen_ok, List.map_toArray, List.map_cons, List.map_nil, hs, hx, hr]
  have hl : xs.length + l.length = (xs ++ bcs l).length := by simp [bcs_length]
  have hsc : Lib.strCells ⟨l.toArray⟩ = bcs l := by simp [Lib.strCells, bcs, bcell]
  rw [hsize, hsc, hl] at ho'
  have h3 := below_of_own hown hg hbase
  exact h v' w' ho' (hb.trans h3) hg (Nat.le_trans hbase h3.size)
end

/-- One cell that is known, read as a slice of one element. -/
theorem Rd.one {w : World} {B b : Nat} {u : Value} (h : w.cell? ⟨b, 0, none⟩ = some u) (hb : b < B) : Rd w B (some ⟨b, 0, none⟩) 1 [u] :=
  ⟨rfl, fun _ => ⟨b, 0, rfl, hb, fun i v hv => by
    match i, hv with
    | 0, hv => simp at hv; subst hv; exact h⟩⟩
/-- A literal that has been laid reads as its cells. -/
theorem Rd.lit (w : World) (cs : List Value) (e : TypeId) : Rd (w.alloc (.cells cs.toArray e)) (w.alloc (.cells cs.toArray e)).heap.size (some ⟨w.heap.size, 0, none⟩) cs.length cs :=
  ⟨rfl, fun _ => ⟨_, _, rfl, by simp, fun i u hu => by rw [Nat.zero_add, World.cell?_alloc_new]; simpa using hu⟩⟩

/-- 'string(b)' of a slice that reads as bytes. -/
theorem run_str {P : Program} {w : World} {src dst e : TypeId} (hs : P.underlying src = some (.slice e)) (he : P.underlying e = some (.int .u8)) (hd : P.underlying dst = some .string)
    {B n c : Nat} {A : Option Addr} {l : List UInt8} (hr : Rd w B A n (bcs l)) : (convert src dst (.slice A n c)).run P w = .ok (.string ⟨l.toArray⟩) w := by
  rw [run_convert_bytes_string w src dst e A n c hs he hd]
  rcases Nat.eq_zero_or_pos n with h0 | h0
  · subst h0
    have hl : l = [] := List.eq_nil_of_length_eq_zero (by have := hr.1; rwa [bcs_length] at this)
    subst hl
    cases A with
    | none => rfl
    | some a => unfold Conv.bytesToString; simp [loadCells, loadCellsFrom, Sem.run_pure]; rfl
  · obtain ⟨b, o, rfl, _, hc⟩ := hr.2 h0
    have hn : l.length = n := by have := hr.1; rwa [bcs_length] at this
    have hload : (loadCells ⟨b, o, none⟩ n).run P w = .ok ((l.map fun c => (c.toNat : Int)).map (Value.int .u8)).toArray w := by
      have := run_loadCells_list (P := P) w ⟨b, o, none⟩ (bcs l) (fun j u hu => by rw [Addr.add_lit]; exact hc j u hu)
      rw [bcs_length, hn] at this
      rw [this]
      simp [bcs, bcell, Function.comp_def]
    rw [run_bytesToString w ⟨b, o, none⟩ n c _ hload]
    have hf : ∀ (l : List UInt8) (s : ByteArray), ((l.map fun c => (c.toNat : Int)).foldl (fun r n => r.push (UInt8.ofNat n.toNat)) s) = ⟨s.data ++ l.toArray⟩ := by
      intro l
      induction l with
      | nil => intro s; simp
      | cons c l ih =>
        intro s
        simp only [List.map_cons, List.foldl_cons, Int.toNat_natCast, UInt8.ofNat_toNat]
        rw [ih]
        congr 1
        simp [ByteArray.push]
    rw [hf]
    congr 3
    simp

/-- A number in so many bytes, the highest first. -/
def be : Nat → Nat → List UInt8
  | 0, _ => []
  | j + 1, n => UInt8.ofNat (n / 256 ^ j % 256) :: be j n
theorem be_length (j n : Nat) : (be j n).length = j := by induction j with | zero => rfl | succ j ih => simp [be, ih]
theorem bcell_ofNat (n : Nat) : bcell (UInt8.ofNat n) = .int .u8 ((n % 256 : Nat) : Int) := by simp [bcell, UInt8.toNat_ofNat']
theorem bcell_wrap (x : Int) (h : 0 ≤ x) : (.int .u8 (IntKind.u8.wrap x) : Value) = bcell (UInt8.ofNat x.toNat) := by
  rw [bcell_ofNat, IntKind.wrap_u8]
  congr 1
  omega

/-- Of what was there in w, nothing has turned in w' but in the blocks S. -/
structure Kb (S : List Nat) (w w' : World) : Prop where
  os : w'.os = w.os
  tape : w'.tape = w.tape
  output : w'.output = w.output
  size : w.heap.size ≤ w'.heap.size
  block : ∀ k, k < w.heap.size → k ∉ S → w'.heap[k]? = w.heap[k]?
section
variable {S S' : List Nat} {a w w' : World} {B : Nat}
theorem Kb.refl (S : List Nat) (w : World) : Kb S w w := ⟨rfl, rfl, rfl, Nat.le_refl _, fun _ _ _ => rfl⟩
theorem Kb.of_below (h : Below a.heap.size a w) : Kb S a w := ⟨h.os, h.tape, h.output, h.size, fun k hk _ => h.block k hk⟩
theorem Kb.drew (h : Kb S a w) : Kb S a w.drew := ⟨h.os, h.tape, h.output, h.size, h.block⟩
theorem Kb.drewN (h : Kb S a w) (n : Nat) : Kb S a (w.drewN n) := ⟨h.os, h.tape, h.output, h.size, h.block⟩
theorem Kb.alloc (h : Kb S a w) (o : Obj) : Kb S a (w.alloc o) :=
  ⟨h.os, h.tape, h.output, by have := h.size; simp; omega, fun k hk hn => (Below.heap_alloc w o k (Nat.lt_of_lt_of_le hk h.size)).trans (h.block k hk hn)⟩
theorem Kb.setCell (h : Kb S a w) {p : Addr} (hp : p.block ∈ S ∨ a.heap.size ≤ p.block) (u : Value) : Kb S a (w.setCell p u) :=
  ⟨h.os, h.tape, h.output, by have := h.size; simp; omega, fun k hk hn => (Below.heap_setCell w p u k (by rcases hp with hp | hp <;> (intro e; subst e; first | exact hn hp | omega))).trans (h.block k hk hn)⟩
theorem Kb.trans (h : Kb S a w) (k : Kb S' w w') (hS : ∀ b, b ∈ S' → b ∈ S ∨ a.heap.size ≤ b) : Kb S a w' :=
  ⟨k.os.trans h.os, k.tape.trans h.tape, k.output.trans h.output, Nat.le_trans h.size k.size,
    fun b hb hn => (k.block b (Nat.lt_of_lt_of_le hb h.size) (fun hin => by rcases hS b hin with h1 | h1 <;> first | exact hn h1 | omega)).trans (h.block b hb hn)⟩
theorem Kb.then_ (h : Kb S a w) (hb : Below B w w') (hB : a.heap.size ≤ B) : Kb S a w' :=
  ⟨hb.os.trans h.os, hb.tape.trans h.tape, hb.output.trans h.output, Nat.le_trans h.size hb.size, fun k hk hn => (hb.block k (by omega)).trans (h.block k hk hn)⟩
theorem Kb.more (h : Kb S a w) (hS : ∀ b, b ∈ S → b ∈ S') : Kb S' a w := ⟨h.os, h.tape, h.output, h.size, fun k hk hn => h.block k hk fun hm => hn (hS k hm)⟩
theorem Kb.below (h : Kb S a w) (hS : ∀ b, b ∈ S → B ≤ b) (hB : B ≤ a.heap.size) : Below B a w :=
  ⟨h.os, h.tape, h.output, h.size, fun k hk => h.block k (by omega) fun hm => by have := hS k hm; omega⟩
theorem Kb.cell (h : Kb S a w) {p : Addr} (hp : p.block < a.heap.size) (hn : p.block ∉ S) : w.cell? p = a.cell? p := World.cell?_of_block (h.block _ hp hn)
theorem Kb.frozen (h : Kb S a w) {p : Addr} (hp : p.block < a.heap.size) (hn : p.block ∉ S) : w.frozen? p = a.frozen? p := World.frozen?_of_block (h.block _ hp hn)
end

/-- Block b is known whole: the cells cs of type t, none of them frozen. -/
def Bk (w : World) (b : Nat) (t : TypeId) (cs : Array Value) : Prop := w.heap[b]? = some (.cells cs t (0, 0))
section
variable {w w' : World} {b : Nat} {t : TypeId} {cs : Array Value}
theorem Bk.lt (h : Bk w b t cs) : b < w.heap.size := (Array.getElem?_eq_some_iff.1 h).1
theorem Bk.cell (h : Bk w b t cs) (i : Nat) : w.cell? ⟨b, i, none⟩ = cs[i]? := cell_of_row w b i cs t (0, 0) h
theorem Bk.frz (h : Bk w b t cs) (i : Nat) : w.frozen? ⟨b, i, none⟩ = false := frozen_of_row w b i cs t h
theorem Bk.new_ (w : World) (t : TypeId) (cs : Array Value) : Bk (w.alloc (.cells cs t)) w.heap.size t cs := heap_alloc_new w _
theorem Bk.alloc (h : Bk w b t cs) (o : Obj) : Bk (w.alloc o) b t cs := (Below.heap_alloc w o b h.lt).trans h
theorem Bk.drew (h : Bk w b t cs) : Bk w.drew b t cs := h
theorem Bk.drewN (h : Bk w b t cs) (n : Nat) : Bk (w.drewN n) b t cs := h
theorem Bk.set_ (h : Bk w b t cs) (i : Nat) (u : Value) : Bk (w.setCell ⟨b, i, none⟩ u) b t (cs.setIfInBounds i u) := heap_setCell_same w b i cs t u h
theorem Bk.far (h : Bk w b t cs) {p : Addr} (hp : b ≠ p.block) (u : Value) : Bk (w.setCell p u) b t cs := (Below.heap_setCell w p u b hp).trans h
theorem Bk.below {B : Nat} (h : Bk w b t cs) (hb : Below B w w') (hB : b < B) : Bk w' b t cs := (hb.block b hB).trans h
theorem Bk.kb {S : List Nat} (h : Bk w b t cs) (hk : Kb S w w') (hS : b ∉ S) : Bk w' b t cs := (hk.block b h.lt hS).trans h
end

theorem SlT.elem_ {P : Program} {t e : TypeId} {z : Value} {by_ : Nat} (hT : SlT P t e z by_) : P.elem t = e := by simp [Program.elem, hT.ut]
/-- 's[k:]', whatever the capacity: where it lies, and what it reads as. -/
theorem run_cut {P : Program} {t e : TypeId} {z : Value} {by_ : Nat} (hT : SlT P t e z by_) {w : World} {B n c : Nat} {A : Option Addr} {xs : List Value} (hr : Rd w B A n xs) (hc : n ≤ c) {k : Nat} (hk : k ≤ n) (kl : IntKind) :
    ∃ A', (∀ W : World, (Instr.slice t (.slice A n c) (some (.int kl (k : Int))) none none).run P W = .ok (.slice A' (n - k) (c - k)) W) ∧ Rd w B A' (n - k) (xs.drop k) := by
  obtain ⟨i, hi, _, hsz, _⟩ := hT.info
  refine ⟨_, fun W => ?_, hr.cut hk hc⟩
  rw [run_slice_l (P := P) (w := W) t A n c (by rw [hT.elem_]; exact hT.ut) kl k (by omega) (by omega)]
  simp [sizeOf, typeInfo, hT.elem_, hi, hsz, sliced, Result.andThen]
/-- 's[j:k]', likewise. -/
theorem run_cut2 {P : Program} {t e : TypeId} {z : Value} {by_ : Nat} (hT : SlT P t e z by_) {w : World} {B n c : Nat} {A : Option Addr} {xs : List Value} (hr : Rd w B A n xs) (hc : n ≤ c) {j k : Nat} (hj : j ≤ k) (hk : k ≤ n) (kl kh : IntKind) :
    ∃ A', (∀ W : World, (Instr.slice t (.slice A n c) (some (.int kl (j : Int))) (some (.int kh (k : Int))) none).run P W = .ok (.slice A' (k - j) (c - j)) W) ∧ Rd w B A' (k - j) ((xs.take k).drop j) := by
  obtain ⟨i, hi, _, hsz, _⟩ := hT.info
  refine ⟨_, fun W => ?_, (hr.take_ hk).cut hj (Nat.le_trans hk hc)⟩
  rw [run_slice_lh (P := P) (w := W) t A n c (by rw [hT.elem_]; exact hT.ut) kl kh j k (by omega) (by omega) (by omega)]
  simp [sizeOf, typeInfo, hT.elem_, hi, hsz, sliced, Result.andThen]
/-- Three new blocks, one behind the other. -/
theorem Bk.new3 (w : World) (t1 : TypeId) (c1 : Array Value) (t2 : TypeId) (c2 : Array Value) (t3 : TypeId) (c3 : Array Value) :
    Bk (((w.alloc (.cells c1 t1)).alloc (.cells c2 t2)).alloc (.cells c3 t3)) w.heap.size t1 c1 ∧ Bk (((w.alloc (.cells c1 t1)).alloc (.cells c2 t2)).alloc (.cells c3 t3)) (w.heap.size + 1) t2 c2 ∧
    Bk (((w.alloc (.cells c1 t1)).alloc (.cells c2 t2)).alloc (.cells c3 t3)) (w.heap.size + 1 + 1) t3 c3 ∧ (((w.alloc (.cells c1 t1)).alloc (.cells c2 t2)).alloc (.cells c3 t3)).heap.size = w.heap.size + 1 + 1 + 1 ∧
    Below w.heap.size w (((w.alloc (.cells c1 t1)).alloc (.cells c2 t2)).alloc (.cells c3 t3)) := by
  refine ⟨((Bk.new_ w t1 c1).alloc _).alloc _, ?_, ?_, by simp, (((Below.refl _ _).alloc (Nat.le_refl _) _).alloc (by simp) _).alloc (by simp; omega) _⟩
  · have := (Bk.new_ (w.alloc (.cells c1 t1)) t2 c2).alloc (.cells c3 t3)
    rwa [World.size_alloc] at this
  · have := Bk.new_ ((w.alloc (.cells c1 t1)).alloc (.cells c2 t2)) t3 c3
    rwa [World.size_alloc, World.size_alloc] at this
end Go.Lec
