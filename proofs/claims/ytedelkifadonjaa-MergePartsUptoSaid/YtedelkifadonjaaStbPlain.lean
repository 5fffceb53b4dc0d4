/- Layer 23: rows that are sorted, with equals as they stood: plain laws. Nothing here speaks of the program. -/
import Derived.Test.YtedelkifadonjaaSeesLaw
namespace Go.Lec
open Go.Op
section
variable {α : Type} {key : α → List UInt8}
/-- In order. -/
def SrtK (key : α → List UInt8) (l : List α) : Prop := l.Pairwise (fun a b => bytesLess (key b) (key a) = false)
/-- The same, and of one key as they stood. -/
def Stb (key : α → List UInt8) (l l' : List α) : Prop := ∀ k, l'.filter (fun x => key x == k) = l.filter (fun x => key x == k)
theorem Stb.refl (l : List α) : Stb key l l := fun _ => rfl
theorem Stb.trans {a b c : List α} (h : Stb key a b) (k : Stb key b c) : Stb key a c := fun q => (k q).trans (h q)
theorem Stb.app {a b a' b' : List α} (h : Stb key a a') (k : Stb key b b') : Stb key (a ++ b) (a' ++ b') := fun q => by rw [List.filter_append, List.filter_append, h q, k q]
theorem Stb.swap {u v : List α} (h : ∀ x ∈ u, ∀ y ∈ v, key x ≠ key y) : Stb key (u ++ v) (v ++ u) := by
  intro k
  rw [List.filter_append, List.filter_append]
  by_cases hu : u.filter (fun x => key x == k) = []
  · rw [hu, List.append_nil, List.nil_append]
  · obtain ⟨x, hx⟩ := List.exists_mem_of_ne_nil _ hu
    obtain ⟨hx1, hx2⟩ := List.mem_filter.1 hx
    have hv : v.filter (fun x => key x == k) = [] := by
      rw [List.filter_eq_nil_iff]
      intro y hy he
      exact h x hx1 y hy ((beq_iff_eq.1 hx2).trans (beq_iff_eq.1 he).symm)
    rw [hv, List.append_nil, List.nil_append]
theorem Stb.mem {l l' : List α} (h : Stb key l l') {x : α} : x ∈ l' ↔ x ∈ l := by
  have e := h (key x)
  have m : ∀ l : List α, x ∈ l.filter (fun y => key y == key x) ↔ x ∈ l := fun l => by rw [List.mem_filter]; simp
  rw [← m l', e, m l]
theorem Stb.perm {l l' : List α} (h : Stb key l l') : l'.Perm l := by
  classical
  rw [List.perm_iff_count]
  intro a
  have c : ∀ l : List α, (l.filter (fun y => key y == key a)).count a = l.count a := fun l => List.count_filter (by simp)
  rw [← c l', ← c l, h (key a)]
theorem Stb.length {l l' : List α} (h : Stb key l l') : l'.length = l.length := h.perm.length_eq
/-- Not below, either way round: by way of the order being whole. -/
theorem nless_trans {a b c : List UInt8} (h : bytesLess b a = false) (k : bytesLess c b = false) : bytesLess c a = false := by
  cases hc : bytesLess c a with
  | false => rfl
  | true =>
    rcases less_total a b with h1 | rfl | h1
    · rw [less_trans hc h1] at k; cases k
    · rw [hc] at k; cases k
    · rw [h1] at h; cases h
theorem less_asymm {a b : List UInt8} (h : bytesLess a b = true) : bytesLess b a = false := by
  cases hb : bytesLess b a with
  | false => rfl
  | true => have := less_trans h hb; rw [less_irr] at this; cases this
theorem less_nless {a b c : List UInt8} (h : bytesLess a b = true) (k : bytesLess c b = false) : bytesLess a c = true := by
  rcases less_total a c with h1 | rfl | h1
  · exact h1
  · rw [h] at k; cases k
  · rw [less_trans h1 h] at k; cases k
theorem nless_less {a b c : List UInt8} (h : bytesLess b a = false) (k : bytesLess b c = true) : bytesLess a c = true := by
  rcases less_total a c with h1 | rfl | h1
  · exact h1
  · rw [k] at h; cases h
  · rw [less_trans k h1] at h; cases h
theorem SrtK.app {l m : List α} (hl : SrtK key l) (hm : SrtK key m) (h : ∀ x ∈ l, ∀ y ∈ m, bytesLess (key y) (key x) = false) : SrtK key (l ++ m) := List.pairwise_append.2 ⟨hl, hm, fun x hx y hy => h x hx y hy⟩
theorem SrtK.left {l m : List α} (h : SrtK key (l ++ m)) : SrtK key l := (List.pairwise_append.1 h).1
theorem SrtK.right {l m : List α} (h : SrtK key (l ++ m)) : SrtK key m := (List.pairwise_append.1 h).2.1
theorem SrtK.across {l m : List α} (h : SrtK key (l ++ m)) : ∀ x ∈ l, ∀ y ∈ m, bytesLess (key y) (key x) = false := (List.pairwise_append.1 h).2.2
/-- Behind the last of a row that is in order nothing is less. -/
theorem SrtK.last {l : List α} (h : SrtK key l) {z : α} (hz : l.getLast? = some z) : ∀ x ∈ l, bytesLess (key z) (key x) = false := by
  intro x hx
  obtain ⟨l', rfl⟩ := List.getLast?_eq_some_iff.1 hz
  rcases List.mem_append.1 hx with h1 | h1
  · exact h.across x h1 z (List.mem_singleton.2 rfl)
  · rw [List.mem_singleton.1 h1]; exact less_irr _
theorem SrtK.head {l : List α} (h : SrtK key l) {z : α} (hz : l.head? = some z) : ∀ x ∈ l, bytesLess (key x) (key z) = false := by
  intro x hx
  cases l with
  | nil => cases hz
  | cons y l =>
    simp only [List.head?_cons, Option.some.injEq] at hz
    subst hz
    rcases List.mem_cons.1 hx with rfl | h1
    · exact less_irr _
    · exact (List.pairwise_cons.1 h).1 x h1
/-- Two rows in order, cut where they cross, and each half merged: the whole is merged. -/
theorem merge_cut {u1 v1 u2 v2 L R : List α} (h1 : SrtK key (u1 ++ v1)) (h2 : SrtK key (u2 ++ v2)) (hL : Stb key (u1 ++ u2) L) (hR : Stb key (v1 ++ v2) R) (sL : SrtK key L) (sR : SrtK key R)
    (ha : ∀ x ∈ u1, ∀ y ∈ v2, bytesLess (key y) (key x) = false) (hb : ∀ x ∈ u2, ∀ y ∈ v1, bytesLess (key x) (key y) = true) :
    Stb key (u1 ++ v1 ++ (u2 ++ v2)) (L ++ R) ∧ SrtK key (L ++ R) := by
  constructor
  · have s1 : Stb key (v1 ++ u2) (u2 ++ v1) := Stb.swap fun x hx y hy e => by have := hb y hy x hx; rw [e, less_irr] at this; cases this
    have s2 : Stb key (u1 ++ v1 ++ (u2 ++ v2)) (u1 ++ u2 ++ (v1 ++ v2)) := by
      have := ((Stb.refl (key := key) u1).app s1).app (Stb.refl (key := key) v2)
      simpa only [List.append_assoc] using this
    exact s2.trans (hL.app hR)
  · refine sL.app sR fun x hx y hy => ?_
    rcases List.mem_append.1 (hL.mem.1 hx) with hx | hx <;> rcases List.mem_append.1 (hR.mem.1 hy) with hy | hy
    · exact h1.across x hx y hy
    · exact ha x hx y hy
    · exact less_asymm (hb x hx y hy)
    · exact h2.across x hx y hy
/-- What the search for the crossing finds is enough. -/
theorem cross_left {u1 v1 u2 v2 : List α} (h1 : SrtK key (u1 ++ v1)) (h2 : SrtK key (u2 ++ v2)) (h : ∀ z y, u1.getLast? = some z → v2.head? = some y → bytesLess (key y) (key z) = false) : ∀ x ∈ u1, ∀ y ∈ v2, bytesLess (key y) (key x) = false := by
  intro x hx y hy
  obtain ⟨z, hz⟩ : ∃ z, u1.getLast? = some z := by
    cases hu : u1.getLast? with
    | some z => exact ⟨z, rfl⟩
    | none => rw [List.getLast?_eq_none_iff] at hu; subst hu; cases hx
  obtain ⟨q, hq⟩ : ∃ q, v2.head? = some q := by
    cases v2 with
    | nil => cases hy
    | cons q _ => exact ⟨q, rfl⟩
  exact nless_trans (nless_trans (h1.left.last hz x hx) (h z q hz hq)) (h2.right.head hq y hy)
theorem cross_right {u1 v1 u2 v2 : List α} (h1 : SrtK key (u1 ++ v1)) (h2 : SrtK key (u2 ++ v2)) (h : ∀ z y, u2.getLast? = some z → v1.head? = some y → bytesLess (key z) (key y) = true) : ∀ x ∈ u2, ∀ y ∈ v1, bytesLess (key x) (key y) = true := by
  intro x hx y hy
  obtain ⟨z, hz⟩ : ∃ z, u2.getLast? = some z := by
    cases hu : u2.getLast? with
    | some z => exact ⟨z, rfl⟩
    | none => rw [List.getLast?_eq_none_iff] at hu; subst hu; cases hx
  obtain ⟨q, hq⟩ : ∃ q, v1.head? = some q := by
    cases v1 with
    | nil => cases hy
    | cons q _ => exact ⟨q, rfl⟩
  exact less_nless (nless_less (h2.left.last hz x hx) (h z q hz hq)) (h1.right.head hq y hy)
/-- One is put among those in order: all ahead are less, all behind are not (it stood ahead of them). -/
theorem put_left {x : α} {u v : List α} (h : SrtK key (u ++ v)) (hu : ∀ z, u.getLast? = some z → bytesLess (key z) (key x) = true) (hv : ∀ y, v.head? = some y → bytesLess (key y) (key x) = false) :
    Stb key (x :: (u ++ v)) (u ++ x :: v) ∧ SrtK key (u ++ x :: v) := by
  have hu' : ∀ z ∈ u, bytesLess (key z) (key x) = true := by
    intro z hz
    cases hl : u.getLast? with
    | none => rw [List.getLast?_eq_none_iff] at hl; subst hl; cases hz
    | some q => exact nless_less (h.left.last hl z hz) (hu q hl)
  have hv' : ∀ y ∈ v, bytesLess (key y) (key x) = false := by
    intro y hy
    cases v with
    | nil => cases hy
    | cons q _ => exact nless_trans (hv q rfl) (h.right.head rfl y hy)
  constructor
  · have s : Stb key ([x] ++ u) (u ++ [x]) := Stb.swap fun a ha b hb e => by
      rw [List.mem_singleton] at ha; subst ha
      have := hu' b hb; rw [e, less_irr] at this; cases this
    have := s.app (Stb.refl (key := key) v)
    simpa only [List.append_assoc, List.singleton_append, List.cons_append, List.nil_append] using this
  · refine h.left.app (List.pairwise_cons.2 ⟨hv', h.right⟩) fun a ha b hb => ?_
    rcases List.mem_cons.1 hb with rfl | hb
    · exact less_asymm (hu' a ha)
    · exact h.across a ha b hb
/-- One is put among those in order: no one ahead is more, all behind are (it stood behind them). -/
theorem put_right {x : α} {u v : List α} (h : SrtK key (u ++ v)) (hu : ∀ z, u.getLast? = some z → bytesLess (key x) (key z) = false) (hv : ∀ y, v.head? = some y → bytesLess (key x) (key y) = true) :
    Stb key (u ++ v ++ [x]) (u ++ x :: v) ∧ SrtK key (u ++ x :: v) := by
  have hu' : ∀ z ∈ u, bytesLess (key x) (key z) = false := by
    intro z hz
    cases hl : u.getLast? with
    | none => rw [List.getLast?_eq_none_iff] at hl; subst hl; cases hz
    | some q => exact nless_trans (h.left.last hl z hz) (hu q hl)
  have hv' : ∀ y ∈ v, bytesLess (key x) (key y) = true := by
    intro y hy
    cases v with
    | nil => cases hy
    | cons q _ => exact less_nless (hv q rfl) (h.right.head rfl y hy)
  constructor
  · have s : Stb key (v ++ [x]) ([x] ++ v) := Stb.swap fun a ha b hb e => by
      rw [List.mem_singleton] at hb; subst hb
      have := hv' a ha; rw [e, less_irr] at this; cases this
    have := (Stb.refl (key := key) u).app s
    simpa only [List.append_assoc, List.singleton_append, List.cons_append, List.nil_append] using this
  · refine h.left.app (List.pairwise_cons.2 ⟨fun y hy => less_asymm (hv' y hy), h.right⟩) fun a ha b hb => ?_
    rcases List.mem_cons.1 hb with rfl | hb
    · exact hu' a ha
    · exact h.across a ha b hb
end
end Go.Lec
