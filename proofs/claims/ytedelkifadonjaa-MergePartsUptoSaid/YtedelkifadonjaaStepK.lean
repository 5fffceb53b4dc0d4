/- append of elements of several cells, at a step of a region that draws its order. Nothing here speaks of the program. -/
import Derived.Test.YtedelkifadonjaaWide
import Derived.Deep.RegionHeld3
namespace Go.Lec
open Go.RowKit
section
variable {P : Program} {w : World} {ops : Array Oper} {o : Oper} {a : Act} {Q : Exit → Act → World → Prop} {K : Act → World → Prop} {E : Prop}
/-- append of elements of several cells, at a step of a region that draws its order. -/
theorem stepK_new {t e : TypeId} {z : Value} {by_ k : Nat} (hgd : o.guard = none) (s x : Operand)
    (ho : o.op = .call { callee := .builtin .append, args := #[s, x], argTypes := #[t, t] }) (hT : SlK P t e z by_ k) (hby : by_ ≤ 1024)
    {base : Nat} {v : Value} {n : Nat} {xs news : List Value} {m c b of : Nat} (hs : a.eval s = v) (hown : OwnK w base e k v n xs) (hbase : base ≤ w.heap.size) (hx : a.eval x = .slice (some ⟨b, of, none⟩) m c) (hm : news.length = m * k)
    (hc : ∀ (j : Nat) (u : Value), news[j]? = some u → w.cell? ⟨b, of + j, none⟩ = some u) (h1 : ∀ u ∈ news, u.oneCell' = true) (hlen : n + m ≤ 137438953472)
    (h : ∀ v' w', OwnK w' base e k v' (n + m) (xs ++ news) → Below base w w' → w.grownBy w' v.ownBlock → (v'.ownBlock = v.ownBlock ∨ ∃ g, v'.ownBlock = some g ∧ w.heap.size ≤ g) → K (a.put o.dst v') w') :
    if Region.wanted o (yielded ops a.tmps) = true then Oper.wp P o a w K Q else E := by
  have hw : Region.wanted o (yielded ops a.tmps) = true := by simp [Region.wanted, hgd]
  rw [if_pos hw]
  obtain ⟨i, hi, hz, hsz, hbb'⟩ := hT.info
  have hbb : (n + m) * by_ ≤ 140737488355328 := Nat.le_trans (Nat.mul_le_mul hlen hby) (by decide)
  obtain ⟨v', w', hrun, h2, h3, h4, h5⟩ := run_append_own_at (P := P) w base t o.type e i z k by_ hT.ut hi hz hsz hbb' hT.zc hT.pos v n xs hown ⟨b, of, none⟩ m c news hm (fun j u hu => by rw [Addr.add_lit]; exact hc j u hu) h1 (by unfold maxLen; omega) hbb hbase
  unfold Oper.wp execOp
  simp only [ho, resolve, invoke, builtin, Sem.run_bind, Sem.run_pure, Result.andThen_ok, List.map_toArray, List.map_cons, List.map_nil, hs, hx, hrun]
  exact h v' w' h2 ((Below.refl base w).grown h3 hbase fun k hk => (World.ownsRow.lt hown k hk).1) h3 (h5.imp_right fun e => ⟨_, e, Nat.le_refl _⟩)
/-- append of a slice that reads as a list of elements of several cells, at a step of a region that draws its order. -/
theorem stepK_sl {t e : TypeId} {z : Value} {by_ k : Nat} (hgd : o.guard = none) (s x : Operand)
    (ho : o.op = .call { callee := .builtin .append, args := #[s, x], argTypes := #[t, t] }) (hT : SlK P t e z by_ k) (hby : by_ ≤ 1024)
    {base : Nat} {v : Value} {n : Nat} {xs news : List Value} {m c : Nat} {A : Option Addr} (hs : a.eval s = v) (hown : OwnK w base e k v n xs) (hbase : base ≤ w.heap.size) (hx : a.eval x = .slice A m c) (hr : RdK w w.heap.size k A m news)
    (h1 : ∀ u ∈ news, u.oneCell' = true) (hlen : n + m ≤ 137438953472)
    (h : ∀ v' w', OwnK w' base e k v' (n + m) (xs ++ news) → Below base w w' → w.grownBy w' v.ownBlock → (v'.ownBlock = v.ownBlock ∨ ∃ g, v'.ownBlock = some g ∧ w.heap.size ≤ g) → K (a.put o.dst v') w') :
    if Region.wanted o (yielded ops a.tmps) = true then Oper.wp P o a w K Q else E := by
  rcases Nat.eq_zero_or_pos m with h0 | h0
  · have hw : Region.wanted o (yielded ops a.tmps) = true := by simp [Region.wanted, hgd]
    rw [if_pos hw]
    obtain ⟨i, hi, hz, hsz, hbb'⟩ := hT.info
    subst h0
    have hn : news = [] := List.eq_nil_of_length_eq_zero (by simpa using hr.1)
    subst hn
    have hrun : (Builtin.append_ #[t, t] o.type #[v, .slice A 0 c]).run P w = .ok v w := by
      rcases hown.2 with ⟨rfl, _⟩ | ⟨g, cap, cur, rfl, _, _, hnc, _⟩
      · cases A <;> simp [Builtin.append_, run_underlying hT.ut, sizeOf, typeInfo, hi, Builtin.lenOf, Builtin.firstCells, loadCells, loadCellsFrom]
      · cases A <;> simp [Builtin.append_, run_underlying hT.ut, sizeOf, typeInfo, hi, Builtin.lenOf, Builtin.firstCells, loadCells, loadCellsFrom, hnc, storeCells]
    unfold Oper.wp execOp
    simp only [ho, resolve, invoke, builtin, Sem.run_bind, Sem.run_pure, Result.andThen_ok, List.map_toArray, List.map_cons, List.map_nil, hs, hx, hrun]
    exact h v w (by simpa using hown) (Below.refl _ _) (World.grownBy.refl _ _) (.inl rfl)
  · obtain ⟨b, of, rfl, _, hc⟩ := hr.2 h0
    exact stepK_new hgd s x ho hT hby hs hown hbase hx hr.1 hc h1 hlen h
end
end Go.Lec
