/- Layer 20: how a block is read: plain words. Nothing here speaks of the program. -/
import Derived.Test.YtedelkifadonjaaCdPlain
import Derived.Lib.Bytealg
namespace Go.Lec
open Go.RowKit Go.Op
/-- How many bytes two texts have in common at their beginnings. -/
def com : List UInt8 → List UInt8 → Nat
  | a :: l, b :: m => if a = b then com l m + 1 else 0
  | _, _ => 0
theorem com_le1 : ∀ a b : List UInt8, com a b ≤ a.length
  | [], b => by unfold com; exact Nat.zero_le _
  | _ :: _, [] => by unfold com; exact Nat.zero_le _
  | a :: l, b :: m => by unfold com; split; · simpa using com_le1 l m
                         · exact Nat.zero_le _
theorem com_le2 : ∀ a b : List UInt8, com a b ≤ b.length
  | [], b => by unfold com; exact Nat.zero_le _
  | _ :: _, [] => by unfold com; exact Nat.zero_le _
  | a :: l, b :: m => by unfold com; split; · simpa using com_le2 l m
                         · exact Nat.zero_le _
theorem com_take : ∀ a b : List UInt8, a.take (com a b) = b.take (com a b)
  | [], b => by unfold com; simp
  | _ :: _, [] => by unfold com; simp
  | a :: l, b :: m => by
      unfold com; split
      · rename_i h; subst h; simp [com_take l m]
      · simp
theorem com_nil {a b : List UInt8} (h : a = [] ∨ b = []) : com a b = 0 := by
  rcases h with rfl | rfl
  · unfold com; rfl
  · cases a <;> (unfold com; rfl)
theorem com_on {l m : List UInt8} {k : Nat} (hk : k < l.length) (hm : k < m.length) (he : l[k] = m[k]) : com (l.drop k) (m.drop k) = com (l.drop (k + 1)) (m.drop (k + 1)) + 1 := by
  rw [List.drop_eq_getElem_cons hk, List.drop_eq_getElem_cons hm, com, if_pos he]
theorem com_off {l m : List UInt8} {k : Nat} (hk : k < l.length) (hm : k < m.length) (he : l[k] ≠ m[k]) : com (l.drop k) (m.drop k) = 0 := by
  rw [List.drop_eq_getElem_cons hk, List.drop_eq_getElem_cons hm, com, if_neg he]

/-! ### The order of texts -/
theorem cmp_neg : ∀ a b : List UInt8, Lib.compareBytes a b < 0 ↔ bytesLess a b = true
  | [], [] => by simp [Lib.compareBytes, bytesLess]
  | [], _ :: _ => by simp [Lib.compareBytes, bytesLess]
  | _ :: _, [] => by simp [Lib.compareBytes, bytesLess]
  | a :: l, b :: m => by
    rw [Lib.compareBytes, bytesLess]
    by_cases h : a < b
    · rw [if_pos h, decide_eq_true h]; simp
    · rw [if_neg h, decide_eq_false h]
      by_cases h2 : b < a
      · rw [if_pos h2]
        have : (a == b) = false := by
          rw [beq_eq_false_iff_ne]
          rintro rfl
          exact absurd h2 h
        rw [this]; simp
      · rw [if_neg h2]
        have : (a == b) = true := by
          rw [beq_iff_eq]
          exact UInt8.toNat_inj.1 (by rw [UInt8.lt_iff_toNat_lt] at h h2; omega)
        rw [this, cmp_neg l m]; simp
theorem cmp_neg_decide (a b : List UInt8) : decide (Lib.compareBytes a b < 0) = bytesLess a b := by
  by_cases h : bytesLess a b = true
  · rw [h, decide_eq_true ((cmp_neg a b).2 h)]
  · rw [decide_eq_false (fun h2 => h ((cmp_neg a b).1 h2))]; simpa using h

/-! ### What is read -/
/-- An entry as it is read: its place, key and value, how much of the key is in common with the one ahead, and could be. -/
structure En where
  at_ : Nat
  key : List UInt8
  val : List UInt8
  has : Nat
  may : Nat
/-- Three numbers from a place on, and the place behind them. -/
def rd3 (b : List UInt8) (s : Nat) : Option (Nat × Nat × Nat × Nat) :=
  match rdU (b.drop s) with
  | .error _ => none
  | .ok (h, k1) => match rdU (b.drop (s + k1)) with
    | .error _ => none
    | .ok (r, k2) => match rdU (b.drop (s + k1 + k2)) with
      | .error _ => none
      | .ok (v, k3) => some (h, r, v, s + k1 + k2 + k3)
/-- An entry from a place on, and the place behind it. -/
def rdE (b : List UInt8) (s : Nat) (last : List UInt8) (first : Bool) : Option (En × Nat) :=
  match rd3 b s with
  | none => none
  | some (h, r, v, t) =>
    if h ≤ last.length ∧ r ≤ 1048576 ∧ v ≤ 1048576 then
      if r + v ≤ b.length - t then
        if first || bytesLess last (last.take h ++ (b.drop t).take r) then
          some (⟨s, last.take h ++ (b.drop t).take r, (b.drop (t + r)).take v, h, com last (last.take h ++ (b.drop t).take r)⟩, t + r + v)
        else none
      else none
    else none
/-- All entries from a place on, behind those that were read. -/
def rdEs : Nat → List UInt8 → Nat → List UInt8 → List En → Option (List En)
  | 0, _, _, _, _ => none
  | f + 1, b, s, last, acc => if s < b.length then (match rdE b s last acc.isEmpty with | none => none | some (e, t) => rdEs f b t e.key (acc ++ [e])) else some acc
def rdAll (b : List UInt8) : Option (List En) := rdEs (b.length + 1) b 0 [] []
theorem rd3_le {b : List UInt8} {s h r v t : Nat} (e : rd3 b s = some (h, r, v, t)) (hs : s ≤ b.length) : s + 3 ≤ t ∧ t ≤ b.length := by
  unfold rd3 at e
  cases h1 : rdU (b.drop s) with
  | error _ => rw [h1] at e; simp at e
  | ok p =>
    obtain ⟨h', k1⟩ := p
    rw [h1] at e
    dsimp only at e
    have l1 := rdU_len h1
    rw [List.length_drop] at l1
    cases h2 : rdU (b.drop (s + k1)) with
    | error _ => rw [h2] at e; simp at e
    | ok p =>
      obtain ⟨r', k2⟩ := p
      rw [h2] at e
      dsimp only at e
      have l2 := rdU_len h2
      rw [List.length_drop] at l2
      cases h3 : rdU (b.drop (s + k1 + k2)) with
      | error _ => rw [h3] at e; simp at e
      | ok p =>
        obtain ⟨v', k3⟩ := p
        rw [h3] at e
        have l3 := rdU_len h3
        rw [List.length_drop] at l3
        simp only [Option.some.injEq, Prod.mk.injEq] at e
        omega
/-- The places at which restarts are said to stand. -/
def placesAt (b : List UInt8) (at_ n : Nat) : List Nat := (List.range n).map fun i => unle ((b.drop (at_ + 4 * i)).take 4)
/-- How many restarts there are said to be. -/
def manyOf (b : List UInt8) : Nat := unle ((b.drop (b.length - 4)).take 4)
/-- A block read: its entries and its restarts. -/
def unB (b : List UInt8) : Except Int (List En × List Nat) :=
  if 1048576 < b.length then .error 2
  else if b.length < 4 then .error 201
  else if (b.length - 4) / 4 < manyOf b then .error 201
  else match rdAll (b.take (b.length - 4 - 4 * manyOf b)) with
    | none => .error 201
    | some l => .ok (l, placesAt b (b.length - 4 - 4 * manyOf b) (manyOf b))
end Go.Lec
