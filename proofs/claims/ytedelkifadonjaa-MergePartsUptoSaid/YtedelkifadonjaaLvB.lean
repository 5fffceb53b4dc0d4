/- Layer 24: leaves: copies of bytes, comparisons, metas alike. -/
import Derived.Test.YtedelkifadonjaaLvA
import Derived.Test.YtedelkifadonjaaRows
import Derived.Test.YtedelkifadonjaaIkPlain
import Derived.Lib.SliceRun
import Derived.Lib.Bytealg
import Derived.Lib.BytesEntry
namespace Go.Lec
open Go.RowKit
/-- A slice of bytes, read by an entry of the model's. -/
theorem run_bytesOf {P : Program} {w : World} {B n c : Nat} {A : Option Addr} {l : List UInt8} (hr : Rd w B A n (bcs l)) : (Extern.Bytes.bytesOf (.slice A n c)).run P w = .ok ⟨l.toArray⟩ w := by
  have hn : l.length = n := by have := hr.1; rwa [bcs_length] at this
  rcases Nat.eq_zero_or_pos n with h0 | h0
  · subst h0
    obtain rfl : l = [] := List.eq_nil_of_length_eq_zero hn
    cases A with
    | none => rfl
    | some a => rfl
  · obtain ⟨b, o, rfl, _, hc⟩ := hr.2 h0
    have h := Lib.run_loadBytesX (P := P) (w := w) (l.map fun c => (c.toNat : Int)) ⟨b, o, none⟩ .empty (fun j x hj => by
      rw [List.getElem?_map] at hj
      cases hl : l[j]? with
      | none => rw [hl] at hj; cases hj
      | some c =>
        rw [hl] at hj
        simp only [Option.map_some, Option.some.injEq] at hj
        subst hj
        rw [Addr.add_lit]
        exact hc j _ (by simp [bcs, hl, bcell]))
    rw [List.length_map, hn] at h
    refine h.trans ?_
    congr 2
    simp [Lib.bytesOf, Function.comp_def]
section
variable {P : Program} {w : World} {ops : Array Oper} {rest : List Oper} {o : Oper} {a : Act} {Q : Exit → Act → World → Prop}
/-- append of a slice that reads as a list, however long the model lets it be. -/
theorem wpList_app_slB {t e : TypeId} {z : Value} {by_ : Nat} (hgd : o.guard = none) (s x : Operand)
    (ho : o.op = .call { callee := .builtin .append, args := #[s, x], argTypes := #[t, t] }) (hT : SlT P t e z by_)
    {w0 : World} {base : Nat} {v : Value} {xs news : List Value} {m c B : Nat} {A : Option Addr} (hs : a.eval s = v) (hown : Own w base e v xs) (hb : Below base w0 w) (hbase : base ≤ w.heap.size) (hx : a.eval x = .slice A m c) (hr : Rd w B A m news)
    (h1 : ∀ u ∈ news, u.oneCell' = true) (hbb : (xs.length + m) * by_ ≤ 140737488355328) (hml : xs.length + m ≤ maxLen)
    (h : ∀ v' w', Own w' base e v' (xs ++ news) → Below base w0 w' → base ≤ w'.heap.size → wpList P ops Q rest (a.put o.dst v') w') :
    wpList P ops Q (o :: rest) a w := by
  obtain ⟨i, hi, hz, hsz, hby⟩ := hT.info
  rcases Nat.eq_zero_or_pos m with h0 | h0
  · subst h0
    obtain rfl : news = [] := List.eq_nil_of_length_eq_zero hr.1
    refine wpList_plain hgd fun K hK => ?_
    have hrun : (Builtin.append_ #[t, t] o.type #[v, .slice A 0 c]).run P w = .ok v w := by
      rcases hown.2 with ⟨rfl, _⟩ | ⟨g, cap, cur, rfl, _, _, hnc, _⟩
      · cases A <;> simp [Builtin.append_, run_underlying hT.ut, sizeOf, typeInfo, hi, Builtin.lenOf, Builtin.firstCells, loadCells, loadCellsFrom]
      · cases A <;> simp [Builtin.append_, run_underlying hT.ut, sizeOf, typeInfo, hi, Builtin.lenOf, Builtin.firstCells, loadCells, loadCellsFrom, hnc, storeCells]
    unfold Oper.wp execOp
    simp only [ho, resolve, invoke, builtin, Sem.run_bind, Sem.run_pure, Result.andThen_ok, List.map_toArray, List.map_cons, List.map_nil, hs, hx, hrun]
    exact hK _ _ (h v w (by simpa using hown) hb hbase)
  · obtain ⟨b, of, rfl, _, hc⟩ := hr.2 h0
    refine wpList_append_own _ hgd s x t ho base e i z 1 by_ hT.ut hi hz hsz hby hT.zc (by decide) v xs.length xs hs hown ⟨b, of, none⟩ m c news hx (by have := hr.1; omega) ?_ h1 hml hbb hbase ?_
    · intro j u hu
      rw [Addr.add_lit]
      exact hc j u hu
    · intro v' w' ho' hg _
      have hl : xs.length + m = (xs ++ news).length := by simp [hr.1]
      rw [hl] at ho'
      have h3 := below_of_own hown hg hbase
      exact h v' w' ho' (hb.trans h3) (Nat.le_trans hbase h3.size)
end
theorem run_compare {P : Program} {w : World} {B B2 n c n2 c2 : Nat} {A A2 : Option Addr} {l l2 : List UInt8} (hr : Rd w B A n (bcs l)) (hr2 : Rd w B2 A2 n2 (bcs l2)) :
    (Extern.BytealgCompare.compare #[.slice A n c, .slice A2 n2 c2]).run P w = .ok (.int .i64 (Lib.compareBytes l l2)) w := by
  change Sem.run P (do pure (goInt (Extern.BytealgCompare.cmp (← Extern.Bytes.bytesOf (.slice A n c)) (← Extern.Bytes.bytesOf (.slice A2 n2 c2))))) w = _
  simp only [Sem.run_bind, run_bytesOf hr, run_bytesOf hr2, Sem.run_pure, Result.andThen]
  rw [Lib.cmp_eq]
  rfl
/-- Numbers compared. -/
def cmpI (x y : Int) : Int := if x < y then -1 else if y < x then 1 else 0
end Go.Lec
namespace Go.Proofs.Ytedelkifadonjaa
open Go.RowKit Go.Lec

theorem info5 : (Try.prog.info? 5).map (fun i => (i.zero, i.size, i.bytes)) = some (some (.int .u8 0), 1, 1) := by kernel_rfl
theorem slb : SlT Try.prog 23 5 (.int .u8 0) 1 := ⟨Try.underlying23, info_parts info5, rfl⟩

theorem c_bCompare (w : World) {B B2 : Nat} {A A2 : Option Addr} {n c n2 c2 : Nat} {l l2 : List UInt8} (hr : Rd w B A n (bcs l)) (hr2 : Rd w B2 A2 n2 (bcs l2)) :
    Calls Try.prog 38 #[.slice A n c, .slice A2 n2 c2] w fun e w' => e = .returned (.int .i64 (Lib.compareBytes l l2)) ∧ w' = w := by
  go_enter Try.func38, Try.ntmps38
  go_wp2
  rw [run_callFunc_extern Try.func57 (by kernel_rfl) (by kernel_rfl) (by kernel_rfl) (e := Extern.BytealgCompare.compare) (by kernel_rfl), run_compare hr hr2]
  simp only [Result.andThen]
  rw [Oper.upon_value]
  go_wp2
  go_ret
  exact ⟨rfl, rfl⟩

end Go.Proofs.Ytedelkifadonjaa
