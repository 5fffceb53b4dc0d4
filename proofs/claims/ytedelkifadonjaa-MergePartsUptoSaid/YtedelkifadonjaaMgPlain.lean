/- Layer 23: several lists become one: plain laws. Nothing here speaks of the program. -/
import Derived.Test.YtedelkifadonjaaStbPlain
namespace Go.Lec
open Go.Op
/-- The first pair of a key. -/
def firstK (l : List PairB) (k : List UInt8) : Option PairB := l.find? fun p => p.1 == k
theorem firstK_mem {l : List PairB} {k : List UInt8} {p : PairB} (h : firstK l k = some p) : p ∈ l ∧ p.1 = k := ⟨List.mem_of_find?_eq_some h, by have := List.find?_some h; simpa using this⟩
theorem firstK_none {l : List PairB} {k : List UInt8} (h : firstK l k = none) : ∀ p ∈ l, p.1 ≠ k := by
  intro p hp e
  have := List.find?_eq_none.1 h p hp
  simp [e] at this
theorem firstK_app (l m : List PairB) (k : List UInt8) : firstK (l ++ m) k = (firstK l k).or (firstK m k) := List.find?_append
/-- In order, just the first pairs of all keys. -/
structure AllOf (l out : List PairB) : Prop where
  srt : Srt out
  mem : ∀ p, p ∈ out ↔ firstK l p.1 = some p
theorem srt_ext : ∀ {a b : List PairB}, Srt a → Srt b → (∀ p, p ∈ a ↔ p ∈ b) → a = b
  | [], [], _, _, _ => rfl
  | [], y :: b, _, _, h => absurd ((h y).2 List.mem_cons_self) (by simp)
  | x :: a, [], _, _, h => absurd ((h x).1 List.mem_cons_self) (by simp)
  | x :: a, y :: b, ha, hb, h => by
    obtain ⟨a1, a2⟩ := List.pairwise_cons.1 ha
    obtain ⟨b1, b2⟩ := List.pairwise_cons.1 hb
    have hxy : x = y := by
      rcases List.mem_cons.1 ((h x).1 List.mem_cons_self) with e | h1
      · exact e
      · rcases List.mem_cons.1 ((h y).2 List.mem_cons_self) with e | h2
        · exact e.symm
        · have := less_trans (b1 x h1) (a1 y h2); rw [less_irr] at this; cases this
    subst hxy
    have : a = b := srt_ext a2 b2 fun p => by
      constructor
      · intro hp
        rcases List.mem_cons.1 ((h p).1 (List.mem_cons_of_mem _ hp)) with rfl | h1
        · have := a1 p hp; rw [less_irr] at this; cases this
        · exact h1
      · intro hp
        rcases List.mem_cons.1 ((h p).2 (List.mem_cons_of_mem _ hp)) with rfl | h1
        · have := b1 p hp; rw [less_irr] at this; cases this
        · exact h1
    rw [this]
theorem AllOf.uniq {l a b : List PairB} (ha : AllOf l a) (hb : AllOf l b) : a = b := srt_ext ha.srt hb.srt fun p => (ha.mem p).trans (hb.mem p).symm
theorem putIn_mem {out : List PairB} (h : Srt out) (p q : PairB) : q ∈ putIn out p ↔ q ∈ out ∨ ((∀ r ∈ out, r.1 ≠ p.1) ∧ q = p) := by
  have hs := putIn_srt h p
  unfold putIn at *
  split
  · rename_i hc
    constructor
    · exact .inl
    · rintro (h1 | ⟨h1, rfl⟩)
      · exact h1
      · have hk := slot_le out q.1 out.length
        have hlt : slot out q.1 out.length - 1 < out.length := by omega
        have h2 := hc.2
        rw [List.getD_eq_getElem?_getD, List.getElem?_eq_getElem hlt] at h2
        exact absurd h2 (h1 _ (List.getElem_mem hlt))
  · rename_i hc
    rw [if_neg hc] at hs
    generalize slot out p.1 out.length = k at *
    have hno : ∀ r ∈ out, r.1 ≠ p.1 := by
      intro r hr e
      rw [← List.take_append_drop k out] at hr
      obtain ⟨s1, s2, s3⟩ := List.pairwise_append.1 hs
      rcases List.mem_append.1 hr with hr | hr
      · have := s3 r hr p List.mem_cons_self; rw [e, less_irr] at this; cases this
      · have := (List.pairwise_cons.1 s2).1 r hr; rw [e, less_irr] at this; cases this
    have hm : q ∈ out ↔ q ∈ out.take k ∨ q ∈ out.drop k := by rw [← List.mem_append, List.take_append_drop]
    rw [List.mem_append, List.mem_cons, hm]
    constructor
    · rintro (h1 | rfl | h1)
      · exact .inl (.inl h1)
      · exact .inr ⟨hno, rfl⟩
      · exact .inl (.inr h1)
    · rintro ((h1 | h1) | ⟨_, rfl⟩)
      · exact .inl h1
      · exact .inr (.inr h1)
      · exact .inr (.inl rfl)
theorem AllOf.put {l out : List PairB} (h : AllOf l out) (p : PairB) : AllOf (l ++ [p]) (putIn out p) := by
  refine ⟨putIn_srt h.srt p, fun q => ?_⟩
  rw [putIn_mem h.srt, firstK_app]
  have hp : firstK [p] q.1 = if p.1 = q.1 then some p else none := by
    unfold firstK
    by_cases e : p.1 = q.1
    · simp [e]
    · simp [e]
  rw [hp]
  constructor
  · rintro (h1 | ⟨h1, rfl⟩)
    · rw [(h.mem q).1 h1]; rfl
    · have hn : firstK l q.1 = none := by
        cases hf : firstK l q.1 with
        | none => rfl
        | some r =>
          have hr := firstK_mem hf
          have : r ∈ out := (h.mem r).2 (by rw [hr.2]; exact hf)
          exact absurd hr.2 (h1 r this)
      rw [hn, if_pos rfl]; rfl
  · intro h1
    cases hf : firstK l q.1 with
    | some r =>
      rw [hf] at h1
      have : r = q := by simpa using h1
      subst this
      exact .inl ((h.mem r).2 hf)
    | none =>
      rw [hf] at h1
      by_cases e : p.1 = q.1
      · rw [if_pos e] at h1
        have : p = q := by simpa using h1
        subst this
        refine .inr ⟨fun r hr er => ?_, rfl⟩
        have := (h.mem r).1 hr
        rw [er, hf] at this
        cases this
      · rw [if_neg e] at h1; cases h1
theorem allL_all (l : List PairB) : AllOf l (allL l) := by
  suffices ∀ (l seen out : List PairB), AllOf seen out → AllOf (seen ++ l) (l.foldl putIn out) from
    this l [] [] ⟨List.Pairwise.nil, fun p => by simp [firstK]⟩
  intro l
  induction l with
  | nil => intro seen out h; rw [List.append_nil]; exact h
  | cons p l ih =>
    intro seen out h
    have := ih _ _ (h.put p)
    rwa [List.append_assoc] at this
theorem AllOf.eq {l out : List PairB} (h : AllOf l out) : out = allL l := h.uniq (allL_all l)
/-- Of each key the first that stands. -/
def cptF : PairB → List PairB → List PairB
  | _, [] => []
  | x, y :: l => if y.1 = x.1 then cptF y l else y :: cptF y l
def cpt : List PairB → List PairB
  | [] => []
  | x :: l => x :: cptF x l
theorem cptF_law : ∀ (l : List PairB) (x : PairB), SrtK Prod.fst (x :: l) → Srt (cptF x l) ∧ ∀ q, q ∈ cptF x l ↔ (bytesLess x.1 q.1 = true ∧ firstK l q.1 = some q)
  | [], x, _ => ⟨List.Pairwise.nil, fun q => by simp [cptF, firstK]⟩
  | y :: l, x, h => by
    obtain ⟨h1, h2⟩ := List.pairwise_cons.1 h
    obtain ⟨i1, i2⟩ := cptF_law l y h2
    have hyx := h1 y List.mem_cons_self
    rw [cptF]
    split
    · rename_i e
      refine ⟨i1, fun q => ?_⟩
      rw [i2 q, e]
      constructor
      · rintro ⟨g1, g2⟩
        refine ⟨g1, ?_⟩
        have : firstK (y :: l) q.1 = firstK l q.1 := by
          unfold firstK
          rw [List.find?_cons]
          have : (y.1 == q.1) = false := by rw [beq_eq_false_iff_ne, e]; intro e2; rw [e2, less_irr] at g1; cases g1
          rw [this]
        rw [this]; exact g2
      · rintro ⟨g1, g2⟩
        refine ⟨g1, ?_⟩
        unfold firstK at g2
        rw [List.find?_cons] at g2
        have : (y.1 == q.1) = false := by rw [beq_eq_false_iff_ne, e]; intro e2; rw [e2, less_irr] at g1; cases g1
        rw [this] at g2
        exact g2
    · rename_i hne
      have hxy : bytesLess x.1 y.1 = true := by
        rcases less_total x.1 y.1 with g | g | g
        · exact g
        · exact absurd g.symm hne
        · rw [g] at hyx; cases hyx
      refine ⟨List.pairwise_cons.2 ⟨fun q hq => ((i2 q).1 hq).1, i1⟩, fun q => ?_⟩
      rw [List.mem_cons, i2 q]
      constructor
      · rintro (rfl | ⟨g1, g2⟩)
        · exact ⟨hxy, by unfold firstK; rw [List.find?_cons]; simp⟩
        · refine ⟨less_trans hxy g1, ?_⟩
          unfold firstK
          rw [List.find?_cons]
          have : (y.1 == q.1) = false := by rw [beq_eq_false_iff_ne]; intro e2; rw [e2, less_irr] at g1; cases g1
          rw [this]; exact g2
      · rintro ⟨g1, g2⟩
        unfold firstK at g2
        rw [List.find?_cons] at g2
        by_cases e : y.1 = q.1
        · rw [show (y.1 == q.1) = true by simp [e]] at g2
          exact .inl (by simpa using g2.symm)
        · rw [beq_eq_false_iff_ne.2 e] at g2
          have hm := List.mem_of_find?_eq_some g2
          have hqy := (List.pairwise_cons.1 h2).1 q hm
          refine .inr ⟨?_, g2⟩
          rcases less_total y.1 q.1 with g | g | g
          · exact g
          · exact absurd g e
          · rw [g] at hqy; cases hqy
theorem cpt_all {s : List PairB} (h : SrtK Prod.fst s) : AllOf s (cpt s) := by
  cases s with
  | nil => exact ⟨List.Pairwise.nil, fun p => by simp [cpt, firstK]⟩
  | cons x l =>
    obtain ⟨i1, i2⟩ := cptF_law l x h
    obtain ⟨h1, h2⟩ := List.pairwise_cons.1 h
    refine ⟨List.pairwise_cons.2 ⟨fun q hq => ((i2 q).1 hq).1, i1⟩, fun q => ?_⟩
    show q ∈ x :: cptF x l ↔ _
    rw [List.mem_cons, i2 q]
    unfold firstK
    rw [List.find?_cons]
    by_cases e : x.1 = q.1
    · rw [show (x.1 == q.1) = true by simp [e]]
      constructor
      · rintro (rfl | ⟨g1, _⟩)
        · rfl
        · rw [e, less_irr] at g1; cases g1
      · intro g; exact .inl (by simpa using g.symm)
    · rw [beq_eq_false_iff_ne.2 e]
      constructor
      · rintro (rfl | ⟨_, g2⟩)
        · exact absurd rfl e
        · exact g2
      · intro g
        have hqx := h1 q (List.mem_of_find?_eq_some g)
        refine .inr ⟨?_, g⟩
        rcases less_total x.1 q.1 with g' | g' | g'
        · exact g'
        · exact absurd g' e
        · rw [g'] at hqx; cases hqx
theorem AllOf.stb {l s out : List PairB} (h : AllOf s out) (hs : Stb Prod.fst l s) : AllOf l out := by
  refine ⟨h.srt, fun p => ?_⟩
  have e : firstK s p.1 = firstK l p.1 := by
    unfold firstK
    rw [← List.head?_filter, ← List.head?_filter, hs p.1]
  rw [h.mem p, e]
/-- Sorted with equals as they stood, and of equals the first kept. -/
theorem list_law {l s : List PairB} (h : SrtK Prod.fst s) (hs : Stb Prod.fst l s) : cpt s = allL l := ((cpt_all h).stb hs).eq
/-! ### Several lists, side by side -/
/-- How many are below. -/
def posD (D : List UInt8 → Bool) (l : List PairB) : Nat := (l.takeWhile fun p => D p.1).length
/-- What is less than what is below is below. -/
def Down (D : List UInt8 → Bool) : Prop := ∀ a b, D b = true → bytesLess a b = true → D a = true
theorem posD_le (D : List UInt8 → Bool) (l : List PairB) : posD D l ≤ l.length := (List.takeWhile_prefix _).length_le
theorem posD_at {D : List UInt8 → Bool} : ∀ {l : List PairB} (h : posD D l < l.length), D (l[posD D l]).1 = false
  | [], h => absurd h (by simp)
  | x :: l, h => by
    by_cases e : D x.1 = true
    · have hp : posD D (x :: l) = posD D l + 1 := by simp [posD, List.takeWhile_cons, e]
      simp only [hp] at h ⊢
      rw [List.getElem_cons_succ]
      exact posD_at (l := l) (by simpa using h)
    · have hp : posD D (x :: l) = 0 := by simp [posD, List.takeWhile_cons, e]
      simp only [hp]
      simpa using e
theorem posD_lt {D : List UInt8 → Bool} : ∀ {l : List PairB} {i : Nat} (h : i < l.length), i < posD D l → D (l[i]).1 = true
  | [], _, h, _ => absurd h (by simp)
  | x :: l, i, h, hi => by
    by_cases e : D x.1 = true
    · have hp : posD D (x :: l) = posD D l + 1 := by simp [posD, List.takeWhile_cons, e]
      cases i with
      | zero => exact e
      | succ i => exact posD_lt (l := l) (i := i) (by simpa using h) (by omega)
    · have hp : posD D (x :: l) = 0 := by simp [posD, List.takeWhile_cons, e]
      omega
theorem posD_ge {D : List UInt8 → Bool} (hD : Down D) {l : List PairB} (hs : Srt l) {i : Nat} (h : i < l.length) (hi : D (l[i]).1 = false) : posD D l ≤ i := by
  rcases Nat.lt_or_ge i (posD D l) with h1 | h1
  · rw [posD_lt h h1] at hi; cases hi
  · exact h1
theorem posD_of {D : List UInt8 → Bool} {l : List PairB} {k : Nat} (hk : k ≤ l.length) (h1 : ∀ i (h : i < l.length), i < k → D (l[i]).1 = true) (h2 : ∀ h : k < l.length, D (l[k]).1 = false) : posD D l = k := by
  rcases Nat.lt_trichotomy (posD D l) k with h | h | h
  · have := posD_at (D := D) (l := l) (by omega)
    rw [h1 _ (by omega) h] at this; cases this
  · exact h
  · have hl := posD_le D l
    have := posD_lt (D := D) (l := l) (i := k) (by omega) h
    rw [h2 (by omega)] at this; cases this
/-- The heads of several lists: the least, of equals the first. -/
def bestF : List (Option PairB) → Nat → Option (Nat × PairB) → Option (Nat × PairB)
  | [], _, acc => acc
  | none :: t, i, acc => bestF t (i + 1) acc
  | some p :: t, i, none => bestF t (i + 1) (some (i, p))
  | some p :: t, i, some (j, q) => if bytesLess p.1 q.1 then bestF t (i + 1) (some (i, p)) else bestF t (i + 1) (some (j, q))
/-- What the search knows of the first n. -/
def BestOk (hd : List (Option PairB)) (n : Nat) : Option (Nat × PairB) → Prop
  | none => ∀ j, j < n → hd[j]? = some none
  | some (i, p) => i < n ∧ hd[i]? = some (some p) ∧ ∀ j q, j < n → hd[j]? = some (some q) → bytesLess q.1 p.1 = false ∧ (j < i → q.1 ≠ p.1)
theorem bestF_ok (hd : List (Option PairB)) : ∀ (t : List (Option PairB)) (n : Nat) (acc : Option (Nat × PairB)), hd.drop n = t → n ≤ hd.length → BestOk hd n acc → BestOk hd hd.length (bestF t n acc)
  | [], n, acc, ht, hn, h => by
    have : n = hd.length := by have := congrArg List.length ht; simp at this; omega
    subst this
    exact h
  | x :: t, n, acc, ht, hn, h => by
    have hlt : n < hd.length := by have := congrArg List.length ht; simp at this; omega
    have hx : hd[n]? = some x := by
      have : (hd.drop n)[0]? = some x := by rw [ht]; rfl
      rwa [List.getElem?_drop, Nat.add_zero] at this
    have ht' : hd.drop (n + 1) = t := by rw [← List.drop_drop, ht]; rfl
    have go := fun acc h => bestF_ok hd t (n + 1) acc ht' hlt h
    cases x with
    | none =>
      rw [bestF]
      refine go acc ?_
      cases acc with
      | none =>
        intro j hj
        rcases Nat.lt_or_ge j n with h1 | h1
        · exact h j h1
        · obtain rfl : j = n := by omega
          exact hx
      | some a =>
        obtain ⟨i, p⟩ := a
        refine ⟨by have := h.1; omega, h.2.1, fun j q hj hq => ?_⟩
        rcases Nat.lt_or_ge j n with h1 | h1
        · exact h.2.2 j q h1 hq
        · obtain rfl : j = n := by omega
          rw [hx] at hq; cases hq
    | some p =>
      cases acc with
      | none =>
        rw [bestF]
        refine go _ ⟨by omega, hx, fun j q hj hq => ?_⟩
        rcases Nat.lt_or_ge j n with h1 | h1
        · rw [h j h1] at hq; cases hq
        · obtain rfl : j = n := by omega
          rw [hx] at hq
          have : p = q := by simpa using hq
          subst this
          exact ⟨less_irr _, fun h => absurd h (Nat.lt_irrefl _)⟩
      | some a =>
        obtain ⟨i, r⟩ := a
        rw [bestF]
        obtain ⟨h1, h2, h3⟩ := h
        split
        · rename_i hl
          refine go _ ⟨by omega, hx, fun j q hj hq => ?_⟩
          rcases Nat.lt_or_ge j n with g1 | g1
          · obtain ⟨k1, k2⟩ := h3 j q g1 hq
            have hpq := less_nless hl k1
            exact ⟨less_asymm hpq, fun _ e => by rw [e, less_irr] at hpq; cases hpq⟩
          · obtain rfl : j = n := by omega
            rw [hx] at hq
            have : p = q := by simpa using hq
            subst this
            exact ⟨less_irr _, fun h => absurd h (Nat.lt_irrefl _)⟩
        · rename_i hl
          refine go _ ⟨by omega, h2, fun j q hj hq => ?_⟩
          rcases Nat.lt_or_ge j n with g1 | g1
          · exact h3 j q g1 hq
          · obtain rfl : j = n := by omega
            rw [hx] at hq
            have : p = q := by simpa using hq
            subst this
            exact ⟨by simpa using hl, fun h => absurd h (by omega)⟩
theorem best_ok (hd : List (Option PairB)) : BestOk hd hd.length (bestF hd 0 none) := bestF_ok hd hd 0 none rfl (Nat.zero_le _) (fun j hj => absurd hj (by omega))
theorem srt_key {l : List PairB} (h : Srt l) {p q : PairB} (hp : p ∈ l) (hq : q ∈ l) (e : p.1 = q.1) : p = q := by
  obtain ⟨i, hi, rfl⟩ := List.getElem_of_mem hp
  obtain ⟨j, hj, rfl⟩ := List.getElem_of_mem hq
  rcases Nat.lt_trichotomy i j with g | g | g
  · have := List.pairwise_iff_getElem.1 h i j hi hj g; rw [e, less_irr] at this; cases this
  · subst g; rfl
  · have := List.pairwise_iff_getElem.1 h j i hj hi g; rw [e, less_irr] at this; cases this
theorem srt_le {l : List PairB} (h : Srt l) {i j : Nat} (hi : i < l.length) (hj : j < l.length) (hij : i ≤ j) : bytesLess (l[j]).1 (l[i]).1 = false := by
  rcases Nat.lt_or_eq_of_le hij with g | g
  · exact less_asymm (List.pairwise_iff_getElem.1 h i j hi hj g)
  · subst g; exact less_irr _
def headsD (D : List UInt8 → Bool) (ls : List (List PairB)) : List (Option PairB) := ls.map fun l => l[posD D l]?
/-- The least of the heads is where all of them stand. -/
theorem best_all {ls : List (List PairB)} {all : List PairB} {D : List UInt8 → Bool} (hD : Down D) (ha : AllOf ls.flatten all) (hs : ∀ l ∈ ls, Srt l) :
    (∀ i p, bestF (headsD D ls) 0 none = some (i, p) → all[posD D all]? = some p) ∧ (bestF (headsD D ls) 0 none = none → posD D all = all.length) := by
  have hb := best_ok (headsD D ls)
  have hlen : (headsD D ls).length = ls.length := by simp [headsD]
  -- an element that is not below has a head that is not above it
  have hhead : ∀ (j : Nat) (hj : j < ls.length) (q : PairB), q ∈ ls[j] → D q.1 = false → ∃ q0, (headsD D ls)[j]? = some (some q0) ∧ bytesLess q.1 q0.1 = false := by
    intro j hj q hq hd
    obtain ⟨t, ht, rfl⟩ := List.getElem_of_mem hq
    have hsj := hs _ (List.getElem_mem hj)
    have hle := posD_ge hD hsj ht hd
    have hlt : posD D ls[j] < (ls[j]).length := by omega
    refine ⟨(ls[j])[posD D ls[j]], ?_, srt_le hsj hlt ht hle⟩
    unfold headsD
    rw [List.getElem?_map, List.getElem?_eq_getElem hj]
    show some ((ls[j])[posD D ls[j]]?) = _
    rw [List.getElem?_eq_getElem hlt]
  constructor
  · intro i p hbi
    rw [hbi] at hb
    obtain ⟨h1, h2, h3⟩ := hb
    rw [hlen] at h1 h3
    have hpi : p ∈ ls[i] ∧ D p.1 = false := by
      unfold headsD at h2
      rw [List.getElem?_map, List.getElem?_eq_getElem h1] at h2
      have h2' : (ls[i])[posD D ls[i]]? = some p := by simpa using h2
      obtain ⟨hl, e⟩ := List.getElem?_eq_some_iff.1 h2'
      rw [← e]
      exact ⟨List.getElem_mem hl, posD_at hl⟩
    have hsi := hs _ (List.getElem_mem h1)
    have hfirst : firstK ls.flatten p.1 = some p := by
      have hsplit : ls = ls.take i ++ (ls[i] :: ls.drop (i + 1)) := by rw [← List.drop_eq_getElem_cons h1, List.take_append_drop]
      rw [hsplit, List.flatten_append, List.flatten_cons, firstK_app, firstK_app]
      have hn : firstK (ls.take i).flatten p.1 = none := by
        cases hf : firstK (ls.take i).flatten p.1 with
        | none => rfl
        | some q =>
          obtain ⟨hq, he⟩ := firstK_mem hf
          obtain ⟨l, hl, hql⟩ := List.mem_flatten.1 hq
          obtain ⟨j, hj, rfl⟩ := List.getElem_of_mem hl
          rw [List.length_take] at hj
          rw [List.getElem_take] at hql
          have hjl : j < ls.length := by omega
          obtain ⟨q0, g1, g2⟩ := hhead j hjl q hql (by rw [he]; exact hpi.2)
          obtain ⟨k1, k2⟩ := h3 j q0 hjl g1
          rw [he] at g2
          rcases less_total q0.1 p.1 with g | g | g
          · rw [g] at k1; cases k1
          · exact absurd g (k2 (by omega))
          · rw [g] at g2; cases g2
      have hi : firstK ls[i] p.1 = some p := by
        cases hf : firstK ls[i] p.1 with
        | none => exact absurd rfl (firstK_none hf p hpi.1)
        | some q =>
          obtain ⟨hq, he⟩ := firstK_mem hf
          rw [srt_key hsi hq hpi.1 he]
      rw [hn, hi]
      rfl
    have hpa : p ∈ all := (ha.mem p).2 hfirst
    obtain ⟨t, ht, hte⟩ := List.getElem_of_mem hpa
    have hle := posD_ge hD ha.srt ht (by rw [hte]; exact hpi.2)
    have hlt : posD D all < all.length := by omega
    rw [List.getElem?_eq_getElem hlt]
    have hq := posD_at hlt
    have hqm : all[posD D all] ∈ all := List.getElem_mem hlt
    have hqf := firstK_mem ((ha.mem _).1 hqm)
    obtain ⟨l, hl, hql⟩ := List.mem_flatten.1 hqf.1
    obtain ⟨j, hj, rfl⟩ := List.getElem_of_mem hl
    obtain ⟨q0, g1, g2⟩ := hhead j hj _ hql hq
    obtain ⟨k1, _⟩ := h3 j q0 hj g1
    have h4 := nless_trans k1 g2
    have h5 := srt_le ha.srt hlt ht hle
    rw [hte] at h5
    have he : (all[posD D all]).1 = p.1 := by
      rcases less_total (all[posD D all]).1 p.1 with g | g | g
      · rw [g] at h4; cases h4
      · exact g
      · rw [g] at h5; cases h5
    rw [srt_key ha.srt hqm hpa he]
  · intro hbn
    rw [hbn] at hb
    rw [hlen] at hb
    rcases Nat.lt_or_eq_of_le (posD_le D all) with hlt | h
    · have hq := posD_at hlt
      have hqf := firstK_mem ((ha.mem _).1 (List.getElem_mem hlt))
      obtain ⟨l, hl, hql⟩ := List.mem_flatten.1 hqf.1
      obtain ⟨j, hj, rfl⟩ := List.getElem_of_mem hl
      obtain ⟨q0, g1, _⟩ := hhead j hj _ hql hq
      rw [hb j hj] at g1
      cases g1
    · exact h
/-- One step on: below is now also the key where they stood. -/
def upD (k : List UInt8) : List UInt8 → Bool := fun x => !(bytesLess k x)
theorem upD_down (k : List UInt8) : Down (upD k) := by
  intro a b hb ha
  unfold upD at *
  simp only [Bool.not_eq_true'] at *
  cases h : bytesLess k a with
  | false => rfl
  | true => rw [less_trans h ha] at hb; cases hb
theorem up_list {D : List UInt8 → Bool} (hD : Down D) {l : List PairB} (hs : Srt l) {k : List UInt8} (hk : D k = false) (hmin : ∀ h : posD D l < l.length, bytesLess (l[posD D l]).1 k = false) :
    posD (upD k) l = if h : posD D l < l.length then (if (l[posD D l]).1 = k then posD D l + 1 else posD D l) else posD D l := by
  have hle := posD_le D l
  have hbelow : ∀ i (h : i < l.length), i < posD D l → upD k (l[i]).1 = true := by
    intro i h hi
    unfold upD
    simp only [Bool.not_eq_true']
    cases hc : bytesLess k (l[i]).1 with
    | false => rfl
    | true => rw [hD _ _ (posD_lt h hi) hc] at hk; cases hk
  split
  · rename_i hlt
    split
    · rename_i he
      refine posD_of (by omega) (fun i h hi => ?_) (fun h => ?_)
      · rcases Nat.lt_or_ge i (posD D l) with g | g
        · exact hbelow i h g
        · obtain rfl : i = posD D l := by omega
          rw [he]; unfold upD; rw [less_irr]; rfl
      · have := List.pairwise_iff_getElem.1 hs (posD D l) (posD D l + 1) hlt h (by omega)
        rw [he] at this
        unfold upD; rw [this]; rfl
    · rename_i he
      refine posD_of hle hbelow (fun h => ?_)
      have := hmin h
      unfold upD
      rcases less_total k (l[posD D l]).1 with g | g | g
      · rw [g]; rfl
      · exact absurd g.symm he
      · rw [g] at this; cases this
  · rename_i hlt
    exact posD_of hle hbelow (fun h => absurd h hlt)
end Go.Lec
