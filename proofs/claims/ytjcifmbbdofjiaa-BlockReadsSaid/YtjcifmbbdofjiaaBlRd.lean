/- Layer 20: what is read as a block was built so: plain words. -/
import Derived.Test.YtjcifmbbdofjiaaBlLaw
namespace Go.Lec
open Go.RowKit Go.Op
theorem rd3_inv {b : List UInt8} {s h r v t : Nat} (e : rd3 b s = some (h, r, v, t)) : ∃ rest, b.drop s = uvar h ++ (uvar r ++ (uvar v ++ rest)) ∧ t = s + (uvar h).length + (uvar r).length + (uvar v).length ∧ b.drop t = rest := by
  unfold rd3 at e
  cases h1 : rdU (b.drop s) with
  | error _ => rw [h1] at e; simp at e
  | ok p =>
    obtain ⟨h', k1⟩ := p
    rw [h1] at e
    dsimp only at e
    cases h2 : rdU (b.drop (s + k1)) with
    | error _ => rw [h2] at e; simp at e
    | ok p =>
      obtain ⟨r', k2⟩ := p
      rw [h2] at e
      dsimp only at e
      cases h3 : rdU (b.drop (s + k1 + k2)) with
      | error _ => rw [h3] at e; simp at e
      | ok p =>
        obtain ⟨v', k3⟩ := p
        rw [h3] at e
        simp only [Option.some.injEq, Prod.mk.injEq] at e
        obtain ⟨rfl, rfl, rfl, rfl⟩ := e
        obtain ⟨_, l1, t1⟩ := rdU_inv h1
        obtain ⟨_, l2, t2⟩ := rdU_inv h2
        obtain ⟨_, l3, t3⟩ := rdU_inv h3
        have d1 : b.drop s = uvar h' ++ b.drop (s + k1) := by rw [← List.drop_drop, ← t1, List.take_append_drop]
        have d2 : b.drop (s + k1) = uvar r' ++ b.drop (s + k1 + k2) := by rw [← List.drop_drop (i := k2), ← t2, List.take_append_drop]
        have d3 : b.drop (s + k1 + k2) = uvar v' ++ b.drop (s + k1 + k2 + k3) := by rw [← List.drop_drop (i := k3), ← t3, List.take_append_drop]
        exact ⟨_, by rw [d1, d2, d3], by rw [l1, l2, l3], rfl⟩
/-- An entry read, taken apart. -/
theorem rdE_inv {b : List UInt8} {s t : Nat} {last : List UInt8} {first : Bool} {x : En} (e : rdE b s last first = some (x, t)) :
    x.at_ = s ∧ x.has ≤ last.length ∧ x.may = com last x.key ∧ (first = true ∨ bytesLess last x.key = true) ∧ x.key.take x.has = last.take x.has ∧ x.has ≤ x.key.length ∧
    b.drop s = (uvar x.has ++ (uvar (x.key.length - x.has) ++ (uvar x.val.length ++ (x.key.drop x.has ++ x.val)))) ++ b.drop t ∧
    t = s + (uvar x.has ++ (uvar (x.key.length - x.has) ++ (uvar x.val.length ++ (x.key.drop x.has ++ x.val)))).length := by
  rw [rdE] at e
  cases h3 : rd3 b s with
  | none => rw [h3] at e; cases e
  | some q =>
    obtain ⟨h, r, v, t'⟩ := q
    rw [h3] at e
    simp only [] at e
    split at e
    · rename_i c1
      split at e
      · rename_i c2
        split at e
        · rename_i c3
          simp only [Option.some.injEq, Prod.mk.injEq] at e
          obtain ⟨rfl, rfl⟩ := e
          obtain ⟨rest, d1, d2, d3⟩ := rd3_inv h3
          have hl : (last.take h).length = h := by rw [List.length_take]; omega
          have hr : ((b.drop t').take r).length = r := by rw [List.length_take, List.length_drop]; omega
          have hv : ((b.drop (t' + r)).take v).length = v := by rw [List.length_take, List.length_drop]; omega
          have k1 : (last.take h ++ (b.drop t').take r).length - h = r := by rw [List.length_append, hl, hr]; omega
          have k2 : (last.take h ++ (b.drop t').take r).drop h = (b.drop t').take r := List.drop_left' hl
          have k3 : (last.take h ++ (b.drop t').take r).take h = last.take h := List.take_left' hl
          have d4 : rest = (b.drop t').take r ++ ((b.drop (t' + r)).take v ++ b.drop (t' + r + v)) := by
            rw [← d3]
            conv => lhs; rw [← List.take_append_drop r (b.drop t')]
            rw [List.drop_drop]
            conv => lhs; rw [← List.take_append_drop v (b.drop (t' + r))]
            rw [List.drop_drop]
          refine ⟨rfl, c1.1, rfl, ?_, k3, by dsimp only; rw [List.length_append, hl]; omega, ?_, ?_⟩
          · rw [Bool.or_eq_true] at c3
            exact c3
          · dsimp only
            rw [k1, k2, hv, d1, d4]
            simp only [List.append_assoc]
          · dsimp only
            rw [k1, k2, hv]
            simp only [List.length_append, hr, hv]
            omega
        · cases e
      · cases e
    · cases e
theorem rdEs_pre : ∀ (f : Nat) (b : List UInt8) (s : Nat) (last : List UInt8) (acc L : List En), rdEs f b s last acc = some L → ∃ more, L = acc ++ more
  | 0, _, _, _, _, _, h => by cases h
  | f + 1, b, s, last, acc, L, h => by
    rw [rdEs] at h
    split at h
    · cases e : rdE b s last acc.isEmpty with
      | none => rw [e] at h; cases h
      | some p =>
        obtain ⟨x, t⟩ := p
        rw [e] at h
        simp only [] at h
        obtain ⟨more, hm⟩ := rdEs_pre f b t x.key (acc ++ [x]) L h
        exact ⟨[x] ++ more, by rw [hm, List.append_assoc]⟩
    · cases h
      exact ⟨[], by rw [List.append_nil]⟩
theorem keyAt_pr {L : List En} {k : Nat} {x : En} (h : L[k]? = some x) : keyAt (L.map En.pr) k = x.key := keyAt_of (p := x.pr) (by rw [List.getElem?_map, h]; rfl)
theorem valAt_pr {L : List En} {k : Nat} {x : En} (h : L[k]? = some x) : valAt (L.map En.pr) k = x.val := valAt_of (p := x.pr) (by rw [List.getElem?_map, h]; rfl)
/-- Entries that were read stand as a block with this distance would lay them, if each tells as much in common as it would. -/
theorem rdEs_body (b : List UInt8) (L : List En) (e : Nat) (hs : ∀ i x, L[i]? = some x → x.has = sameAt (L.map En.pr) e i) : ∀ (f : Nat) (s : Nat) (last : List UInt8) (acc : List En), rdEs f b s last acc = some L → b.take s = bodyTo (L.map En.pr) e acc.length → s ≤ b.length →
    last = lastK (L.map En.pr) acc.length → b = bodyTo (L.map En.pr) e L.length ∧ (∀ i x, acc.length ≤ i → L[i]? = some x → x.at_ = (bodyTo (L.map En.pr) e i).length ∧ x.may = com (lastK (L.map En.pr) i) x.key ∧ (0 < i → bytesLess (lastK (L.map En.pr) i) x.key = true))
  | 0, _, _, _, h, _, _, _ => by cases h
  | f + 1, s, last, acc, h, hb, hsl, hla => by
    rw [rdEs] at h
    by_cases hlt : s < b.length
    · rw [if_pos hlt] at h
      cases he : rdE b s last acc.isEmpty with
      | none => rw [he] at h; cases h
      | some p =>
        obtain ⟨x, t⟩ := p
        rw [he] at h
        simp only [] at h
        obtain ⟨more, hm⟩ := rdEs_pre f b t x.key (acc ++ [x]) L h
        have hx : L[acc.length]? = some x := by rw [hm, List.append_assoc, List.getElem?_append_right (Nat.le_refl _), Nat.sub_self]; rfl
        obtain ⟨i1, i2, i3, i4, i5, i6, i7, i8⟩ := rdE_inv he
        have hsm := hs _ _ hx
        have hent : uvar x.has ++ (uvar (x.key.length - x.has) ++ (uvar x.val.length ++ (x.key.drop x.has ++ x.val))) = entAt (L.map En.pr) e acc.length := by
          have := entAt_eq (L.map En.pr) e acc.length []
          rw [List.append_nil, List.append_nil, keyAt_pr hx, valAt_pr hx, ← hsm] at this
          exact this.symm
        rw [hent] at i7 i8
        have htl : t ≤ b.length := by
          have := congrArg List.length i7
          rw [List.length_drop, List.length_append, List.length_drop] at this
          omega
        have hbt : b.take t = bodyTo (L.map En.pr) e (acc.length + 1) := by
          have h1 : b.take t = b.take s ++ (b.drop s).take (t - s) := by
            conv => lhs; rw [show t = s + (t - s) by omega, List.take_add]
          rw [h1, hb, bodyTo, i7, show t - s = (entAt (L.map En.pr) e acc.length).length by omega, List.take_left]
        have hr := rdEs_body b L e hs f t x.key (acc ++ [x]) h (by rw [List.length_append]; exact hbt) htl (by rw [List.length_append, lastK, if_neg (by simp)]; simp [keyAt_pr hx])
        refine ⟨hr.1, fun i y hi hy => ?_⟩
        rcases Nat.eq_or_lt_of_le hi with h1 | h1
        · subst h1
          rw [hx] at hy
          cases hy
          refine ⟨?_, by rw [i3, hla], fun h0 => ?_⟩
          · have := congrArg List.length hb
            rw [List.length_take] at this
            rw [i1]; omega
          · rw [← hla]
            rcases i4 with h2 | h2
            · cases hac : acc with
              | nil => rw [hac] at h0; simp at h0
              | cons _ _ => rw [hac] at h2; simp at h2
            · exact h2
        · exact hr.2 i y (by rw [List.length_append]; exact h1) hy
    · rw [if_neg hlt] at h
      cases h
      have : s = b.length := by omega
      rw [this, List.take_length] at hb
      refine ⟨hb, fun i y hi hy => ?_⟩
      have := (List.getElem?_eq_some_iff.1 hy).1
      omega
theorem rdEs_may (L : List En) : ∀ (f : Nat) (b : List UInt8) (s : Nat) (last : List UInt8) (acc : List En), rdEs f b s last acc = some L → last = lastK (L.map En.pr) acc.length →
    ∀ i x, acc.length ≤ i → L[i]? = some x → x.may = com (lastK (L.map En.pr) i) x.key ∧ (0 < i → bytesLess (lastK (L.map En.pr) i) x.key = true)
  | 0, _, _, _, _, h, _ => by cases h
  | f + 1, b, s, last, acc, h, hla => by
    rw [rdEs] at h
    by_cases hlt : s < b.length
    · rw [if_pos hlt] at h
      cases he : rdE b s last acc.isEmpty with
      | none => rw [he] at h; cases h
      | some p =>
        obtain ⟨x, t⟩ := p
        rw [he] at h
        simp only [] at h
        obtain ⟨more, hm⟩ := rdEs_pre f b t x.key (acc ++ [x]) L h
        have hx : L[acc.length]? = some x := by rw [hm, List.append_assoc, List.getElem?_append_right (Nat.le_refl _), Nat.sub_self]; rfl
        obtain ⟨_, _, i3, i4, _, _, _, _⟩ := rdE_inv he
        have hr := rdEs_may L f b t x.key (acc ++ [x]) h (by rw [List.length_append, lastK, if_neg (by simp)]; simp [keyAt_pr hx])
        intro i y hi hy
        rcases Nat.eq_or_lt_of_le hi with h1 | h1
        · subst h1
          rw [hx] at hy
          cases hy
          refine ⟨by rw [i3, hla], fun h0 => ?_⟩
          rw [← hla]
          rcases i4 with h2 | h2
          · cases hac : acc with
            | nil => rw [hac] at h0; simp at h0
            | cons _ _ => rw [hac] at h2; simp at h2
          · exact h2
        · exact hr i y (by rw [List.length_append]; exact h1) hy
    · rw [if_neg hlt] at h
      cases h
      intro i y hi hy
      have := (List.getElem?_eq_some_iff.1 hy).1
      omega
theorem chunks : ∀ (m : Nat) (X : List UInt8), X.length = 4 * m → X = ((List.range m).map fun i => unle ((X.drop (4 * i)).take 4)).flatMap (le 4)
  | 0, X, h => by
    have : X = [] := List.eq_nil_of_length_eq_zero (by omega)
    subst this; rfl
  | m + 1, X, h => by
    have h1 := chunks m (X.drop 4) (by rw [List.length_drop]; omega)
    have h2 : le 4 (unle (X.take 4)) = X.take 4 := by
      have := le_unle (X.take 4)
      rwa [show (X.take 4).length = 4 by rw [List.length_take]; omega] at this
    rw [List.range_succ_eq_map, List.map_cons, List.flatMap_cons, List.map_map, Nat.mul_zero, List.drop_zero, h2]
    conv => lhs; rw [← List.take_append_drop 4 X]
    congr 1
    conv => lhs; rw [h1]
    congr 1
    apply List.map_congr_left
    intro i _
    simp only [Function.comp, List.drop_drop]
    rw [show 4 + 4 * i = 4 * Nat.succ i by omega]
theorem ck_split {b : List UInt8} {L : List En} {ps : List Nat} (h : ckB b = .ok (L, ps)) : b.length ≤ 1048576 ∧ 4 ≤ b.length ∧ manyOf b ≤ (b.length - 4) / 4 ∧ rdAll (b.take (b.length - 4 - 4 * manyOf b)) = some L ∧ ps = placesAt b (b.length - 4 - 4 * manyOf b) (manyOf b) ∧ whole L ps = true := by
  rw [ckB] at h
  cases hu : unB b with
  | error e => rw [hu] at h; cases h
  | ok q =>
    obtain ⟨L', ps'⟩ := q
    rw [hu] at h
    simp only [] at h
    split at h
    · rename_i hw
      simp only [Except.ok.injEq, Prod.mk.injEq] at h
      obtain ⟨rfl, rfl⟩ := h
      unfold unB at hu
      split at hu
      · cases hu
      · split at hu
        · cases hu
        · split at hu
          · cases hu
          · cases hr : rdAll (b.take (b.length - 4 - 4 * manyOf b)) with
            | none => rw [hr] at hu; cases hu
            | some l =>
              rw [hr] at hu
              simp only [Except.ok.injEq, Prod.mk.injEq] at hu
              obtain ⟨rfl, rfl⟩ := hu
              exact ⟨by omega, by omega, by omega, rfl, rfl, hw⟩
    · cases h
theorem tail_of {b : List UInt8} (h4 : 4 ≤ b.length) (hm : manyOf b ≤ (b.length - 4) / 4) : b.drop (b.length - 4 - 4 * manyOf b) = (placesAt b (b.length - 4 - 4 * manyOf b) (manyOf b) ++ [manyOf b]).flatMap (le 4) := by
  have h1 := chunks (manyOf b + 1) (b.drop (b.length - 4 - 4 * manyOf b)) (by rw [List.length_drop]; omega)
  conv => lhs; rw [h1]
  congr 1
  rw [List.range_succ, List.map_append, placesAt]
  congr 1
  · apply List.map_congr_left
    intro i _
    rw [List.drop_drop]
  · simp only [List.map_cons, List.map_nil, List.drop_drop]
    rw [show b.length - 4 - 4 * manyOf b + 4 * manyOf b = b.length - 4 by omega]
    rfl
/-- What is read as a block was built so. -/
theorem ck_inv {b : List UInt8} {L : List En} {ps : List Nat} (h : ckB b = .ok (L, ps)) : ∃ e, 1 ≤ e ∧ e ≤ 1024 ∧ (L.length = 0 → e = 1) ∧ (0 < L.length → e ≤ L.length) ∧ risen (L.map En.pr) ∧ bld (L.map En.pr) e = b ∧ (L.length + e - 1) / e = manyOf b ∧ ps = plTo (L.map En.pr) e L.length := by
  obtain ⟨h1, h2, h3, h4, h5, h6⟩ := ck_split h
  have ht := tail_of h2 h3
  have hpl : ps.length = manyOf b := by rw [h5]; simp [placesAt]
  rw [← h5] at ht
  have hbd := List.take_append_drop (b.length - 4 - 4 * manyOf b) b
  have hmy := rdEs_may L _ _ 0 [] [] h4 rfl
  have hri : risen (L.map En.pr) := by
    intro i p q hp hq
    rw [List.getElem?_map] at hp hq
    cases hx : L[i]? with
    | none => rw [hx] at hp; cases hp
    | some x =>
      cases hy : L[i + 1]? with
      | none => rw [hy] at hq; cases hq
      | some y =>
        rw [hx] at hp
        rw [hy] at hq
        cases hp
        cases hq
        have := (hmy (i + 1) y (Nat.zero_le _) hy).2 (by omega)
        rw [lastK, if_neg (by omega), Nat.add_sub_cancel, keyAt_pr hx] at this
        exact this
  by_cases h0 : L.length = 0 ∨ ps.length = 0
  · rw [whole, if_pos h0, decide_eq_true_iff] at h6
    have hL : L = [] := List.eq_nil_of_length_eq_zero h6.1
    have hP : ps = [] := List.eq_nil_of_length_eq_zero h6.2
    subst hL hP
    obtain ⟨hb1, _⟩ := rdEs_body _ [] 1 (fun i x hx => by cases hx) _ 0 [] [] h4 rfl (Nat.zero_le _) rfl
    have hb2 : b.take (b.length - 4 - 4 * manyOf b) = [] := hb1
    rw [hb2, ht, ← hpl] at hbd
    refine ⟨1, by omega, by omega, fun _ => rfl, fun h => absurd h (Nat.lt_irrefl _), hri, hbd, ?_, rfl⟩
    rw [← hpl]; rfl
  · rw [whole, if_neg h0, Bool.and_eq_true, Bool.and_eq_true, decide_eq_true_iff, decide_eq_true_iff] at h6
    obtain ⟨⟨e1, e2⟩, hw⟩ := h6
    have hn : 0 < L.length := by omega
    have heL : everyOf L ps ≤ L.length := by
      unfold everyOf
      split
      · have := lastAt_le L (by assumption) L.length L.length; omega
      · exact Nat.le_refl _
    generalize everyOf L ps = e at e1 e2 hw heL
    rw [isW, Bool.and_eq_true, decide_eq_true_iff, List.all_eq_true] at hw
    obtain ⟨hc, hall⟩ := hw
    have hok : ∀ i x, L[i]? = some x → (i % e = 0 → x.has = 0 ∧ ps[i / e]? = some x.at_) ∧ (¬ i % e = 0 → x.has = x.may) := by
      intro i x hx
      have h7 := hall i (List.mem_range.2 (List.getElem?_eq_some_iff.1 hx).1)
      rw [okAt, hx] at h7
      simp only [] at h7
      split at h7
      · rename_i h8
        rw [Bool.and_eq_true, decide_eq_true_iff, decide_eq_true_iff] at h7
        exact ⟨fun _ => h7, fun h => absurd h8 h⟩
      · rename_i h8
        exact ⟨fun h => absurd h h8, fun _ => of_decide_eq_true h7⟩
    have hs : ∀ i x, L[i]? = some x → x.has = sameAt (L.map En.pr) e i := by
      intro i x hx
      by_cases h8 : i % e = 0
      · rw [((hok i x hx).1 h8).1, sameAt, if_pos h8]
      · rw [(hok i x hx).2 h8, same_may _ _ _ h8, (hmy i x (Nat.zero_le _) hx).1, keyAt_pr hx]
    obtain ⟨hb1, hb2⟩ := rdEs_body _ L e hs _ 0 [] [] h4 rfl (Nat.zero_le _) rfl
    have hps : ps = plTo (L.map En.pr) e L.length := by
      obtain ⟨g1, g2⟩ := plTo_get (L.map En.pr) e1 L.length
      apply List.ext_getElem?
      intro j
      rcases Nat.lt_or_ge j ps.length with hj | hj
      · rw [← hc] at hj
        rw [g2 j hj]
        have hi := row_lt e1 hj
        have hx : L[j * e]? = some L[j * e] := List.getElem?_eq_getElem hi
        have h9 := ((hok _ _ hx).1 (Nat.mul_mod_left j e)).2
        rw [Nat.mul_div_cancel j (by omega)] at h9
        rw [h9, (hb2 _ _ (Nat.zero_le _) hx).1]
      · rw [List.getElem?_eq_none hj, List.getElem?_eq_none (by rw [g1, hc]; exact hj)]
    refine ⟨e, e1, e2, fun h => by omega, fun _ => heL, hri, ?_, by rw [hc, hpl], hps⟩
    rw [bld, List.length_map, ← hb1, ← hps, hpl, ← ht]
    exact hbd

/-! ### As the reference reads them -/
def rfEs : Nat → List UInt8 → Nat → List UInt8 → List Pl → Option (List Pl)
  | 0, _, _, _, _ => none
  | f + 1, b, s, last, acc => if s < b.length then (match rd3 b s with
    | none => none
    | some (h, r, v, t) => if h ≤ last.length ∧ r ≤ b.length - t ∧ v ≤ b.length - t - r then rfEs f b (t + r + v) (last.take h ++ (b.drop t).take r) (acc ++ [(last.take h ++ (b.drop t).take r, (b.drop (t + r)).take v)]) else none) else some acc
def rfAll (b : List UInt8) : Option (List Pl) := rfEs (b.length + 1) b 0 [] []
theorem rfEs_of : ∀ (f : Nat) (b : List UInt8) (s : Nat) (last : List UInt8) (acc L : List En), rdEs f b s last acc = some L → rfEs f b s last (acc.map En.pr) = some (L.map En.pr)
  | 0, _, _, _, _, _, h => by cases h
  | f + 1, b, s, last, acc, L, h => by
    rw [rdEs] at h
    rw [rfEs]
    split at h
    · rename_i hlt
      rw [if_pos hlt]
      cases he : rdE b s last acc.isEmpty with
      | none => rw [he] at h; cases h
      | some p =>
        obtain ⟨x, t⟩ := p
        rw [he] at h
        simp only [] at h
        rw [rdE] at he
        cases h3 : rd3 b s with
        | none => rw [h3] at he; cases he
        | some q =>
          obtain ⟨h', r, v, t'⟩ := q
          rw [h3] at he
          simp only [] at he ⊢
          split at he
          · rename_i c1
            split at he
            · rename_i c2
              split at he
              · simp only [Option.some.injEq, Prod.mk.injEq] at he
                obtain ⟨rfl, rfl⟩ := he
                rw [if_pos ⟨c1.1, by omega, by omega⟩]
                have := rfEs_of f b _ _ _ L h
                rw [List.map_append] at this
                exact this
              · cases he
            · cases he
          · cases he
    · rename_i hlt
      rw [if_neg hlt]
      cases h; rfl
/-- Sizes of what the reference reads. -/
theorem rfEs_sizes : ∀ (f : Nat) (b : List UInt8) (s : Nat) (last : List UInt8) (acc l : List Pl), rfEs f b s last acc = some l → s ≤ b.length → last.length ≤ s → 3 * acc.length ≤ s → (∀ p ∈ acc, p.1.length ≤ b.length ∧ p.2.length ≤ b.length) → 3 * l.length ≤ b.length ∧ ∀ p ∈ l, p.1.length ≤ b.length ∧ p.2.length ≤ b.length
  | 0, _, _, _, _, _, h, _, _, _, _ => by cases h
  | f + 1, b, s, last, acc, l, h, hs, hl, ha, hp => by
    rw [rfEs] at h
    split at h
    · cases h3 : rd3 b s with
      | none => rw [h3] at h; cases h
      | some q =>
        obtain ⟨h', r, v, t⟩ := q
        rw [h3] at h
        simp only [] at h
        have ht := rd3_le h3 hs
        split at h
        · rename_i c
          have hk : (last.take h' ++ (b.drop t).take r).length ≤ t + r := by rw [List.length_append, List.length_take, List.length_take, List.length_drop]; omega
          refine rfEs_sizes f b (t + r + v) _ _ l h (by omega) (by omega) (by rw [List.length_append]; simp only [List.length_singleton]; omega) (fun p hpm => ?_)
          rcases List.mem_append.1 hpm with h1 | h1
          · exact hp p h1
          · rw [List.mem_singleton] at h1
            subst h1
            refine ⟨by dsimp only; omega, ?_⟩
            dsimp only
            rw [List.length_take, List.length_drop]; omega
        · cases h
    · cases h
      exact ⟨by omega, hp⟩
theorem tot_le_of : ∀ (l : List Pl) (M : Nat), (∀ p ∈ l, p.1.length ≤ M ∧ p.2.length ≤ M) → tot l ≤ l.length * (2 * M + 1)
  | [], M, _ => by simp [tot]
  | p :: l, M, h => by
    have h1 := tot_le_of l M (fun q hq => h q (List.mem_cons_of_mem _ hq))
    have h2 := h p List.mem_cons_self
    rw [tot, List.length_cons, Nat.add_mul, Nat.one_mul]
    omega
theorem rfAll_tot {b : List UInt8} {l : List Pl} (h : rfAll b = some l) (hb : b.length ≤ 4000) : tot l ≤ 16777216 ∧ l.length ≤ 1334 := by
  obtain ⟨h1, h2⟩ := rfEs_sizes _ b 0 [] [] l h (Nat.zero_le _) (Nat.le_refl _) (Nat.le_refl _) (fun p hp => by cases hp)
  have h3 := tot_le_of l 4000 (fun p hp => ⟨by have := (h2 p hp).1; omega, by have := (h2 p hp).2; omega⟩)
  have h4 : l.length ≤ 1334 := by omega
  have h5 := Nat.mul_le_mul_right (2 * 4000 + 1) h4
  exact ⟨by omega, h4⟩
theorem ckB_201 {b : List UInt8} {err : Int} (h : ckB b = .error err) (hb : b.length ≤ 1048576) : err = 201 := by
  rw [ckB] at h
  cases hu : unB b with
  | error e =>
    rw [hu] at h
    cases h
    unfold unB at hu
    rw [if_neg (by omega)] at hu
    split at hu
    · cases hu; rfl
    · split at hu
      · cases hu; rfl
      · split at hu
        · cases hu; rfl
        · cases hu
  | ok q =>
    rw [hu] at h
    simp only [] at h
    split at h
    · cases h
    · cases h; rfl
/-- A distance that makes the block of the pairs. -/
def goodE (b : List UInt8) (l : List Pl) (e : Nat) : Prop := (l.length + e - 1) / e = manyOf b ∧ risen l ∧ bld l e = b
/-- Where none does, it is no block. -/
theorem ck_none {b : List UInt8} {l : List Pl} (hb : b.length ≤ 1048576) (hl : rfAll (b.take (b.length - 4 - 4 * manyOf b)) = some l) (hno : ∀ e, 1 ≤ e → e ≤ 1024 → (l.length = 0 → e = 1) → (0 < l.length → e ≤ l.length) → ¬ goodE b l e) : ckB b = .error 201 := by
  cases hc : ckB b with
  | error err => rw [ckB_201 hc hb]
  | ok q =>
    obtain ⟨L, ps⟩ := q
    obtain ⟨e, e1, e2, e3, e4, e5, e6, e7, _⟩ := ck_inv hc
    obtain ⟨_, _, _, h4, _, _⟩ := ck_split hc
    have h5 : rfAll (b.take (b.length - 4 - 4 * manyOf b)) = some (L.map En.pr) := rfEs_of _ _ _ _ [] L h4
    rw [h5] at hl
    cases hl
    rw [List.length_map] at hno
    exact absurd ⟨by rw [List.length_map]; exact e7, e5, e6⟩ (hno e e1 e2 e3 e4)
theorem ck_rfnone {b : List UInt8} (hb : b.length ≤ 1048576) (h : rfAll (b.take (b.length - 4 - 4 * manyOf b)) = none) : ckB b = .error 201 := by
  cases hc : ckB b with
  | error err => rw [ckB_201 hc hb]
  | ok q =>
    obtain ⟨L, ps⟩ := q
    obtain ⟨_, _, _, h4, _, _⟩ := ck_split hc
    have h5 : rfAll (b.take (b.length - 4 - 4 * manyOf b)) = some (L.map En.pr) := rfEs_of _ _ _ _ [] L h4
    rw [h5] at h
    cases h
end Go.Lec
