/- Words for memory, of wide elements: a slice whose elements take k cells each reads as a list of cells ('RdK'), owned rows of such, append laws. Nothing here speaks of the program. -/
import Derived.Test.YtedelkifadonjaaMemB
import Derived.Maps.AppendAt
namespace Go.Lec
open Go.RowKit

/-- What is known of a slice type whose elements take k cells. -/
structure SlK (P : Program) (t e : TypeId) (z : Value) (by_ k : Nat) : Prop where
  ut : P.underlying t = some (.slice e)
  info : ∃ i, P.info? e = some i ∧ i.zero = some z ∧ i.size = k ∧ i.bytes = by_
  zc : z.cells.size = k
  pos : 0 < k

/-- The slice '.slice A n c', of elements of k cells each, reads as the cells xs, which lie below block B. -/
def RdK (w : World) (B k : Nat) (A : Option Addr) (n : Nat) (xs : List Value) : Prop :=
  xs.length = n * k ∧ (0 < n → ∃ b o, A = some ⟨b, o, none⟩ ∧ b < B ∧ ∀ i u, xs[i]? = some u → w.cell? ⟨b, o + i, none⟩ = some u)

section
variable {w w' : World} {B B' n k : Nat} {A : Option Addr} {xs : List Value}
theorem RdK.nil_ : RdK w B k A 0 [] := ⟨by simp, fun h => absurd h (by omega)⟩
theorem RdK.more (h : RdK w B k A n xs) (hB : B ≤ B') : RdK w B' k A n xs :=
  ⟨h.1, fun hn => by obtain ⟨b, o, e, hb, hc⟩ := h.2 hn; exact ⟨b, o, e, by omega, hc⟩⟩
theorem RdK.keep (h : RdK w B k A n xs) (hk : ∀ p : Addr, p.block < B → w'.cell? p = w.cell? p) : RdK w' B k A n xs :=
  ⟨h.1, fun hn => by obtain ⟨b, o, e, hb, hc⟩ := h.2 hn; exact ⟨b, o, e, hb, fun i u hu => (hk _ hb).trans (hc i u hu)⟩⟩
theorem RdK.below (h : RdK w B k A n xs) (hb : Below B' w w') (hB : B ≤ B') : RdK w' B k A n xs := h.keep fun p hp => hb.cell (by omega)
theorem RdK.drew (h : RdK w B k A n xs) : RdK w.drew B k A n xs := h
theorem RdK.drewN (h : RdK w B k A n xs) (m : Nat) : RdK (w.drewN m) B k A n xs := h
theorem RdK.alloc (h : RdK w B k A n xs) (hB : B ≤ w.heap.size) (o : Obj) : RdK (w.alloc o) B k A n xs := h.keep fun p hp => World.cell?_alloc_lt w o p (by omega)
end

/-- The row that a slice value owns, of elements of k cells. -/
def OwnK (w : World) (B : Nat) (e : TypeId) (k : Nat) (v : Value) (n : Nat) (xs : List Value) : Prop := w.ownsRow B e k v n xs

section
variable {w w' : World} {B B' k n : Nat} {e : TypeId} {v : Value} {xs : List Value}
theorem OwnK.nil_ (w : World) (B : Nat) (e : TypeId) (k : Nat) : OwnK w B e k (.slice none 0 0) 0 [] := World.ownsRow_nil w B e k
theorem OwnK.shape (h : OwnK w B e k v n xs) : ∃ A c, v = .slice A n c ∧ n ≤ c := by
  rcases h.2 with ⟨rfl, hn⟩ | ⟨g, cap, cur, rfl, _, _, hc, _⟩
  · exact ⟨none, 0, by rw [hn], by omega⟩
  · exact ⟨_, cap, rfl, hc⟩
theorem OwnK.rd {A : Option Addr} {m c : Nat} (h : OwnK w B e k (.slice A m c) n xs) : RdK w w.heap.size k A n xs := by
  refine ⟨h.1, fun h0 => ?_⟩
  rcases h.2 with ⟨hv, hn⟩ | ⟨g, cap, cur, hv, hb, hh, hc, hm, hs, ht⟩
  · omega
  · simp only [Value.slice.injEq] at hv
    obtain ⟨rfl, rfl, rfl⟩ := hv
    refine ⟨g, 0, rfl, (Array.getElem?_eq_some_iff.1 hh).1, fun i u hu => ?_⟩
    rw [Nat.zero_add, cell_of_row w g i cur e (0, 0) hh]
    rw [← ht, List.getElem?_take] at hu
    split at hu
    · simpa using hu
    · cases hu
theorem OwnK.mono (h : OwnK w B e k v n xs) (hB : B' ≤ B) : OwnK w B' e k v n xs := by
  refine ⟨h.1, ?_⟩
  rcases h.2 with h2 | ⟨g, cap, cur, hv, hb, r⟩
  · exact .inl h2
  · exact .inr ⟨g, cap, cur, hv, by omega, r⟩
theorem OwnK.alloc (h : OwnK w B e k v n xs) (o : Obj) : OwnK (w.alloc o) B e k v n xs := World.ownsRow.alloc h o
theorem OwnK.drew (h : OwnK w B e k v n xs) : OwnK w.drew B e k v n xs := h
theorem OwnK.drewN (h : OwnK w B e k v n xs) (m : Nat) : OwnK (w.drewN m) B e k v n xs := h
/-- What is owned below block C stays owned where nothing below C has turned. -/
theorem OwnK.below {C : Nat} (h : OwnK w B e k v n xs) (hb : Below C w w') (hC : w.heap.size ≤ C) : OwnK w' B e k v n xs := by
  refine ⟨h.1, ?_⟩
  rcases h.2 with h2 | ⟨g, cap, cur, hv, hg, hh, r⟩
  · exact .inl h2
  · have := (Array.getElem?_eq_some_iff.1 hh).1
    exact .inr ⟨g, cap, cur, hv, hg, by rw [hb.block g (by omega)]; exact hh, r⟩
theorem OwnK.grown {row : Option Nat} (h : OwnK w B e k v n xs) (hg : w.grownBy w' row) (hr : ∀ g, row = some g → v.ownBlock ≠ some g) : OwnK w' B e k v n xs := by
  refine World.ownsRow.kept h hg ?_
  cases row with
  | none => cases hv : v.ownBlock <;> simp
  | some g => exact .inr (hr g rfl)
/-- A store elsewhere. -/
theorem OwnK.far (h : OwnK w B e k v n xs) {p : Addr} (hp : v.ownBlock ≠ some p.block) (u : Value) : OwnK (w.setCell p u) B e k v n xs := by
  refine ⟨h.1, ?_⟩
  rcases h.2 with h2 | ⟨g, cap, cur, rfl, hg, hh, r⟩
  · exact .inl h2
  · exact .inr ⟨g, cap, cur, rfl, hg, (Below.heap_setCell w p u g (fun e => hp (by simp [Value.ownBlock, e]))).trans hh, r⟩
theorem OwnK.lt (h : OwnK w B e k v n xs) : ∀ g, v.ownBlock = some g → B ≤ g ∧ g < w.heap.size := World.ownsRow.lt h
/-- A literal that has just been laid. -/
theorem OwnK.lit (w : World) (cs : List Value) (n : Nat) (hB : B ≤ w.heap.size) (hn : cs.length = n * k) (hm : n ≤ maxLen) : OwnK (w.alloc (.cells cs.toArray e)) B e k (.slice (some ⟨w.heap.size, 0, none⟩) n n) n cs := by
  have := World.ownsRow_lit (base := B) (e := e) (size := k) w cs.toArray n hB hm (by simpa using hn)
  simpa [OwnK] using this
end

section
variable {P : Program} {w : World} {ops : Array Oper} {rest : List Oper} {o : Oper} {a : Act} {Q : Exit → Act → World → Prop}
/-- append of new elements: a literal that the operation before has laid in a block of its own. -/
theorem wpList_appK_new {t e : TypeId} {z : Value} {by_ k : Nat} (hgd : o.guard = none) (s x : Operand)
    (ho : o.op = .call { callee := .builtin .append, args := #[s, x], argTypes := #[t, t] }) (hT : SlK P t e z by_ k) (hby : by_ ≤ 1024)
    {w0 : World} {base : Nat} {v : Value} {n : Nat} {xs news : List Value} {m c : Nat} (hs : a.eval s = v) (hown : OwnK w base e k v n xs) (hb : Below base w0 w) (hbase : base ≤ w.heap.size) (hx : a.eval x = .slice (some ⟨w.heap.size, 0, none⟩) m c) (hm : news.length = m * k)
    (h1 : ∀ u ∈ news, u.oneCell' = true) (hlen : n + m ≤ 137438953472)
    (h : ∀ v' w', OwnK w' base e k v' (n + m) (xs ++ news) → Below base w0 w' → w.grownBy w' v.ownBlock → (v'.ownBlock = v.ownBlock ∨ ∃ g, v'.ownBlock = some g ∧ w.heap.size ≤ g) → base ≤ w'.heap.size → wpList P ops Q rest (a.put o.dst v') w') :
    wpList P ops Q (o :: rest) a (w.alloc (.cells news.toArray e)) := by
  obtain ⟨i, hi, hz, hsz, hbb'⟩ := hT.info
  have hbb : (n + m) * by_ ≤ 140737488355328 := Nat.le_trans (Nat.mul_le_mul hlen hby) (by decide)
  refine wpList_append_own_at _ hgd s x t ho base e i z k by_ hT.ut hi hz hsz hbb' hT.zc hT.pos v n xs hs (World.ownsRow.alloc hown _) ⟨w.heap.size, 0, none⟩ m c news hx hm ?_ h1 (by unfold maxLen; omega) hbb (by simp; omega) ?_
  · intro j u hu
    rw [Addr.add_lit, Nat.zero_add, World.cell?_alloc_new]
    simpa using hu
  · intro v' w' ho' hg _ hat
    have hg' := grownBy_of_alloc hg
    have h3 : Below base w w' := (Below.refl base w).grown hg' hbase fun k hk => (World.ownsRow.lt hown k hk).1
    exact h v' w' ho' (hb.trans h3) hg' (hat.imp_right fun e => ⟨_, e, by simp⟩) (Nat.le_trans hbase h3.size)
/-- append of a slice that reads as a list. -/
theorem wpList_appK_sl {t e : TypeId} {z : Value} {by_ k : Nat} (hgd : o.guard = none) (s x : Operand)
    (ho : o.op = .call { callee := .builtin .append, args := #[s, x], argTypes := #[t, t] }) (hT : SlK P t e z by_ k) (hby : by_ ≤ 1024)
    {w0 : World} {base : Nat} {v : Value} {n : Nat} {xs news : List Value} {m c B : Nat} {A : Option Addr} (hs : a.eval s = v) (hown : OwnK w base e k v n xs) (hb : Below base w0 w) (hbase : base ≤ w.heap.size) (hx : a.eval x = .slice A m c) (hr : RdK w B k A m news)
    (h1 : ∀ u ∈ news, u.oneCell' = true) (hlen : n + m ≤ 137438953472)
    (h : ∀ v' w', OwnK w' base e k v' (n + m) (xs ++ news) → Below base w0 w' → w.grownBy w' v.ownBlock → base ≤ w'.heap.size → wpList P ops Q rest (a.put o.dst v') w') :
    wpList P ops Q (o :: rest) a w := by
  obtain ⟨i, hi, hz, hsz, hbb'⟩ := hT.info
  have hbb : (n + m) * by_ ≤ 140737488355328 := Nat.le_trans (Nat.mul_le_mul hlen hby) (by decide)
  rcases Nat.eq_zero_or_pos m with h0 | h0
  · subst h0
    have hn : news = [] := List.eq_nil_of_length_eq_zero (by simpa using hr.1)
    subst hn
    refine wpList_plain hgd fun K hK => ?_
    have hrun : (Builtin.append_ #[t, t] o.type #[v, .slice A 0 c]).run P w = .ok v w := by
      rcases hown.2 with ⟨rfl, _⟩ | ⟨g, cap, cur, rfl, _, _, hnc, _⟩
      · cases A <;> simp [Builtin.append_, run_underlying hT.ut, sizeOf, typeInfo, hi, Builtin.lenOf, Builtin.firstCells, loadCells, loadCellsFrom]
      · cases A <;> simp [Builtin.append_, run_underlying hT.ut, sizeOf, typeInfo, hi, Builtin.lenOf, Builtin.firstCells, loadCells, loadCellsFrom, hnc, storeCells]
    unfold Oper.wp execOp
    simp only [ho, resolve, invoke, builtin, Sem.run_bind, Sem.run_pure, Result.andThen_ok, List.map_toArray, List.map_cons, List.map_nil, hs, hx, hrun]
    exact hK _ _ (h v w (by simpa using hown) hb (World.grownBy.refl _ _) hbase)
  · obtain ⟨b, of, rfl, _, hc⟩ := hr.2 h0
    refine wpList_append_own _ hgd s x t ho base e i z k by_ hT.ut hi hz hsz hbb' hT.zc hT.pos v n xs hs hown ⟨b, of, none⟩ m c news hx hr.1 ?_ h1 (by unfold maxLen; omega) hbb hbase ?_
    · intro j u hu
      rw [Addr.add_lit]
      exact hc j u hu
    · intro v' w' ho' hg _
      have h3 : Below base w w' := (Below.refl base w).grown hg hbase fun k hk => (World.ownsRow.lt hown k hk).1
      exact h v' w' ho' (hb.trans h3) hg (Nat.le_trans hbase h3.size)
end

/-- Cells of the elements of a list, one behind another. -/
theorem flat_len {α : Type} {enc : α → List Value} {k : Nat} (hk : ∀ a, (enc a).length = k) : ∀ L : List α, (L.flatMap enc).length = L.length * k
  | [] => by simp
  | a :: L => by rw [List.flatMap_cons, List.length_append, hk, flat_len hk L, List.length_cons, Nat.add_mul, Nat.one_mul, Nat.add_comm]
theorem flat_get {α : Type} {enc : α → List Value} {k : Nat} (hk : ∀ a, (enc a).length = k) : ∀ (L : List α) (i j : Nat) (a : α), L[i]? = some a → j < k → (L.flatMap enc)[k * i + j]? = (enc a)[j]?
  | [], i, j, a, h, _ => by simp at h
  | x :: L, 0, j, a, h, hj => by
    simp only [List.getElem?_cons_zero, Option.some.injEq] at h
    subst h
    rw [List.flatMap_cons, Nat.mul_zero, Nat.zero_add, List.getElem?_append_left (by rw [hk]; exact hj)]
  | x :: L, i + 1, j, a, h, hj => by
    rw [List.getElem?_cons_succ] at h
    have e : k * (i + 1) + j = (enc x).length + (k * i + j) := by rw [hk, Nat.mul_add]; omega
    rw [List.flatMap_cons, e, List.getElem?_append_right (by omega), Nat.add_sub_cancel_left]
    exact flat_get hk L i j a h hj
end Go.Lec
