/- Layer 20: whether what was read is a block: plain words. Nothing here speaks of the program. -/
import Derived.Test.YtjcifmbbdofjiaaBlR
namespace Go.Lec
open Go.RowKit Go.Op
/-- Whether entry i is as it must be, with restarts at every so many. -/
def okAt (every : Nat) (l : List En) (ps : List Nat) (i : Nat) : Bool :=
  match l[i]? with
  | none => true
  | some x => if i % every = 0 then decide (x.has = 0) && decide (ps[i / every]? = some x.at_) else decide (x.has = x.may)
def isW (every : Nat) (l : List En) (ps : List Nat) : Bool := decide ((l.length + every - 1) / every = ps.length) && (List.range l.length).all (okAt every l ps)
/-- The last of the first k entries that stands at p; d, if none does. -/
def lastAt (l : List En) (p d : Nat) : Nat → Nat
  | 0 => d
  | k + 1 => if l[k]?.map En.at_ = some p then k else lastAt l p d k
def everyOf (l : List En) (ps : List Nat) : Nat := match ps[1]? with | some p => lastAt l p l.length l.length | none => l.length
def whole (l : List En) (ps : List Nat) : Bool :=
  if l.length = 0 ∨ ps.length = 0 then decide (l.length = 0 ∧ ps.length = 0) else decide (1 ≤ everyOf l ps) && decide (everyOf l ps ≤ 1024) && isW (everyOf l ps) l ps
theorem all_snoc (f : Nat → Bool) (k : Nat) : (List.range (k + 1)).all f = ((List.range k).all f && f k) := by
  rw [List.range_succ, List.all_append]; simp
theorem all_get {f : Nat → Bool} {n k : Nat} (h : k < n) (hf : f k = false) : (List.range n).all f = false := by
  rw [Bool.eq_false_iff]
  intro h2
  rw [List.all_eq_true] at h2
  have := h2 k (List.mem_range.2 h)
  rw [hf] at this
  cases this
theorem lastAt_le (l : List En) (p d : Nat) : ∀ k, lastAt l p d k ≤ max d k
  | 0 => by unfold lastAt; omega
  | k + 1 => by unfold lastAt; split; · omega
                · have := lastAt_le l p d k; omega
theorem rdEs_len : ∀ (f : Nat) (b : List UInt8) (s : Nat) (last : List UInt8) (acc l : List En), s ≤ b.length → acc.length ≤ s → rdEs f b s last acc = some l → l.length ≤ b.length
  | 0, b, s, last, acc, l, _, _, h => by cases h
  | f + 1, b, s, last, acc, l, hs, ha, h => by
    rw [rdEs] at h
    by_cases hlt : s < b.length
    · rw [if_pos hlt] at h
      cases e : rdE b s last acc.isEmpty with
      | none => rw [e] at h; cases h
      | some p =>
        obtain ⟨x, t⟩ := p
        rw [e] at h
        have ht : s + 1 ≤ t ∧ t ≤ b.length := by
          rw [rdE] at e
          cases e3 : rd3 b s with
          | none => rw [e3] at e; cases e
          | some q =>
            obtain ⟨h', r, v, t'⟩ := q
            have := rd3_le e3 hs
            rw [e3] at e
            simp only [] at e
            split at e
            · split at e
              · split at e
                · simp only [Option.some.injEq, Prod.mk.injEq] at e
                  omega
                · cases e
              · cases e
            · cases e
        exact rdEs_len f b t x.key (acc ++ [x]) l ht.2 (by simp; omega) h
    · rw [if_neg hlt] at h
      cases h
      omega
theorem unB_len {b : List UInt8} {l : List En} {ps : List Nat} (h : unB b = .ok (l, ps)) : l.length ≤ 1048576 ∧ ps.length ≤ 1048576 := by
  unfold unB at h
  split at h
  · cases h
  · split at h
    · cases h
    · split at h
      · cases h
      · cases e : rdAll (b.take (b.length - 4 - 4 * manyOf b)) with
        | none => rw [e] at h; cases h
        | some l' =>
          rw [e] at h
          simp only [Except.ok.injEq, Prod.mk.injEq] at h
          obtain ⟨rfl, rfl⟩ := h
          have := rdEs_len _ _ 0 [] [] l' (Nat.zero_le _) (Nat.le_refl _) e
          rw [List.length_take] at this
          constructor
          · omega
          · simp only [placesAt, List.length_map, List.length_range]; omega
theorem Rd.natAt {w : World} {B n : Nat} {A : Option Addr} {l : List Nat} (h : Rd w B A n (ncs l)) {k : Nat} (hk : k < n) : ∃ b o, A = some ⟨b, o, none⟩ ∧ b < B ∧ ∀ W : World, Below B w W → ∀ (j x : Nat), l[j]? = some x → W.cell? ⟨b, o + j, none⟩ = some (.int .i64 (x : Int)) := by
  obtain ⟨b, o, e, hb, hc⟩ := h.2 (by omega)
  exact ⟨b, o, e, hb, fun W hW j x hj => (hW.cell (p := ⟨b, o + j, none⟩) hb).trans (hc j _ (by simp [ncs, hj]))⟩
end Go.Lec
