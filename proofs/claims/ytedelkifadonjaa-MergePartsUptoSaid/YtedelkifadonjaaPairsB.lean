/- Appending to a slice without spare room: a new row. Nothing here speaks of the program. -/
import Derived.Test.YtedelkifadonjaaPairs
import Derived.Lib.AppendZeros
namespace Go.Lec
open Go.RowKit
section
variable {P : Program} {w : World} {ops : Array Oper} {rest : List Oper} {o : Oper} {a : Act} {Q : Exit → Act → World → Prop}
/-- append to 's[:n:n]': whatever it was, the row is a new one. -/
theorem wpList_appK_full {t e : TypeId} {z : Value} {by_ k : Nat} (hgd : o.guard = none) (s x : Operand)
    (ho : o.op = .call { callee := .builtin .append, args := #[s, x], argTypes := #[t, t] }) (hT : SlK P t e z by_ k) (hby : by_ ≤ 1024)
    {n : Nat} {olds news : List Value} {m c B B' : Nat} {A A' : Option Addr} (hs : a.eval s = .slice A n n) (hr0 : RdK w B k A n olds) (hx : a.eval x = .slice A' m c) (hr : RdK w B' k A' m news) (hm : 0 < m) (hlen : n + m ≤ 137438953472)
    (h : ∀ C w', OwnK w' w.heap.size e k (.slice (some ⟨w.heap.size, 0, none⟩) (n + m) C) (n + m) (olds ++ news) → Below w.heap.size w w' → w.heap.size < w'.heap.size → wpList P ops Q rest (a.put o.dst (.slice (some ⟨w.heap.size, 0, none⟩) (n + m) C)) w') :
    wpList P ops Q (o :: rest) a w := by
  obtain ⟨i, hi, hz, hsz, hbb'⟩ := hT.info
  have hbb : (n + m) * by_ ≤ 140737488355328 := Nat.le_trans (Nat.mul_le_mul hlen hby) (by decide)
  obtain ⟨b', of', rfl, _, hc'⟩ := hr.2 hm
  have hnews : ∀ j v, news[j]? = some v → w.cell? ((⟨b', of', none⟩ : Addr).add j) = some v := fun j v hv => by rw [Addr.add_lit]; exact hc' j v hv
  have hlo : olds.length = n * i.size := by rw [hsz]; exact hr0.1
  have hln : news.length = m * i.size := by rw [hsz]; exact hr.1
  have hC := grownCap_ge w (n + m) n e
  have hCm := grownCap_le_maxLen w (n + m) n e (by unfold maxLen; omega)
  have key : (Builtin.append_ #[t, t] o.type #[.slice A n n, .slice (some ⟨b', of', none⟩) m c]).run P w =
      .ok (.slice (some ⟨w.heap.size, 0, none⟩) (n + m) (grownCap w (n + m) n e))
        (w.drew.alloc (.cells (olds.toArray ++ news.toArray ++ Builtin.zeroCells z.cells (grownCap w (n + m) n e - (n + m))) e)) := by
    cases A with
    | some b =>
      refine run_append_grow (P := P) w t o.type e i z hT.ut hi hz b n n olds hlo (fun j v hv => ?_) ⟨b', of', none⟩ m c news hln hnews (by omega) (by omega) (by rw [hbb']; exact growslice_fits (by omega) hbb)
      by_cases h0 : 0 < n
      · obtain ⟨bb, oo, e1, _, hc0⟩ := hr0.2 h0
        cases e1
        rw [Addr.add_lit]
        exact hc0 j v hv
      · have : olds.length = 0 := by rw [hlo]; have : n = 0 := by omega
                                     rw [this, Nat.zero_mul]
        have hj := (List.getElem?_eq_some_iff.1 hv).1
        omega
    | none =>
      have h0 : n = 0 := by
        rcases Nat.eq_zero_or_pos n with h | h
        · exact h
        · obtain ⟨_, _, e1, _⟩ := hr0.2 h
          cases e1
      subst h0
      have ho0 : olds = [] := List.eq_nil_of_length_eq_zero (by rw [hlo, Nat.zero_mul])
      subst ho0
      have h1 := run_append_nil (P := P) w t o.type e i z hT.ut hi hz ⟨b', of', none⟩ m c news hln hnews hm (by omega) (by rw [hbb']; rw [Nat.zero_add] at hbb; omega)
      rw [Nat.zero_add, h1]
      simp
  refine Lib.wpList_append_run w hgd s x t t ho _ _ hs hx _ _ key ?_
  generalize grownCap w (n + m) n e = C at hC hCm
  refine h C _ ?_ ((Below.refl _ w).drew.alloc (Nat.le_refl _) _) (by simp)
  have hzs : (Builtin.zeroCells z.cells (C - (n + m))).size = (C - (n + m)) * k := by rw [size_zeroCells, hT.zc]
  refine ⟨by rw [List.length_append, hlo, hln, hsz, Nat.add_mul], .inr ⟨w.heap.size, C, _, rfl, Nat.le_refl _, heap_alloc_new w.drew _, hC, hCm, ?_, ?_⟩⟩
  · simp only [Array.size_append, List.size_toArray, hzs, hlo, hln, hsz]
    rw [← Nat.add_mul, ← Nat.add_mul]
    congr 1
    omega
  · rw [Array.toList_append, Array.toList_append, List.append_assoc]
    rw [← List.append_assoc, List.take_left' (by simp [hlo, hln, hsz, Nat.add_mul])]
end
end Go.Lec
