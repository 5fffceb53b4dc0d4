/- Layer 20: a block that was built is read as it was: plain words. -/
import Derived.Test.YtjcifmbbdofjiaaBlW
namespace Go.Lec
open Go.RowKit Go.Op
theorem uvar_len4 {n : Nat} (h : n ≤ 16777216) : (uvar n).length ≤ 4 := uvar_len 3 n (by omega)
theorem entAt_len4 {l : List (List UInt8 × List UInt8)} {every i : Nat} {p : List UInt8 × List UInt8} (h : l[i]? = some p) (hf : tot l ≤ 16777216) : (entAt l every i).length ≤ 12 + p.1.length + p.2.length := by
  have h1 := sameAt_le (every := every) h
  have h2 := tot_get h
  have u1 := uvar_len4 (n := sameAt l every i) (by omega)
  have u2 := uvar_len4 (n := p.1.length - sameAt l every i) (by omega)
  have u3 := uvar_len4 (n := p.2.length) (by omega)
  simp only [entAt, numsAt, getD_of h, List.flatMap_cons, List.flatMap_nil, List.length_append, List.length_nil, List.length_drop]
  omega
theorem bodyTo_len4 {l : List (List UInt8 × List UInt8)} {every : Nat} (hf : tot l ≤ 16777216) : ∀ k, k ≤ l.length → (bodyTo l every k).length ≤ 12 * tot (l.take k)
  | 0, _ => by simp [bodyTo]
  | k + 1, hk => by
    have hp : l[k]? = some l[k] := List.getElem?_eq_getElem (by omega)
    have h1 := bodyTo_len4 (every := every) hf k (by omega)
    have h2 := entAt_len4 (every := every) hp hf
    have h3 := tot_take hp
    rw [bodyTo, List.length_append]
    omega
theorem bodyTo_big {l : List (List UInt8 × List UInt8)} {every k : Nat} (hf : tot l ≤ 16777216) (hk : k ≤ l.length) : (bodyTo l every k).length ≤ 201326592 := by
  have h1 := bodyTo_len4 (every := every) hf k hk
  have h2 := tot_take_le l k
  omega
theorem plTo_big {l : List (List UInt8 × List UInt8)} {every : Nat} (hf : tot l ≤ 16777216) : ∀ k, k ≤ l.length → ∀ x ∈ plTo l every k, x ≤ 201326592
  | 0, _, x, hx => by cases hx
  | k + 1, hk, x, hx => by
    rw [plTo] at hx
    split at hx
    · rcases List.mem_append.1 hx with h | h
      · exact plTo_big hf k (by omega) x h
      · rw [List.mem_singleton] at h; rw [h]; exact bodyTo_big hf (by omega)
    · exact plTo_big hf k (by omega) x hx
abbrev Pl := List UInt8 × List UInt8
def keyAt (l : List Pl) (i : Nat) : List UInt8 := (l.getD i ([], [])).1
def valAt (l : List Pl) (i : Nat) : List UInt8 := (l.getD i ([], [])).2
/-- The key ahead of pair k. -/
def lastK (l : List Pl) (k : Nat) : List UInt8 := if k = 0 then [] else keyAt l (k - 1)
/-- Pair i, as it is read. -/
def enB (l : List Pl) (every i : Nat) : En := ⟨(bodyTo l every i).length, keyAt l i, valAt l i, sameAt l every i, com (lastK l i) (keyAt l i)⟩
def ens (l : List Pl) (every : Nat) : List En := (List.range l.length).map (enB l every)
theorem ens_len (l : List Pl) (every : Nat) : (ens l every).length = l.length := by simp [ens]
theorem ens_get {l : List Pl} {every i : Nat} (h : i < l.length) : (ens l every)[i]? = some (enB l every i) := by simp [ens, h]
theorem keyAt_of {l : List Pl} {i : Nat} {p : Pl} (h : l[i]? = some p) : keyAt l i = p.1 := by rw [keyAt, getD_of h]
theorem valAt_of {l : List Pl} {i : Nat} {p : Pl} (h : l[i]? = some p) : valAt l i = p.2 := by rw [valAt, getD_of h]
theorem drop_app {α : Type} {l : List α} {a t : List α} {s : Nat} (h : l.drop s = a ++ t) : l.drop (s + a.length) = t := by
  rw [← List.drop_drop, h, List.drop_left]
/-- Three numbers that stand there. -/
theorem rd3_of {b t : List UInt8} {s a c v : Nat} (h : b.drop s = uvar a ++ (uvar c ++ (uvar v ++ t))) (ha : a < 18446744073709551616) (hc : c < 18446744073709551616) (hv : v < 18446744073709551616) :
    rd3 b s = some (a, c, v, s + (uvar a).length + (uvar c).length + (uvar v).length) ∧ b.drop (s + (uvar a).length + (uvar c).length + (uvar v).length) = t := by
  have h1 := drop_app h
  have h2 := drop_app h1
  have h3 := drop_app h2
  refine ⟨?_, h3⟩
  rw [rd3, h, rdU_uvar _ _ ha]
  simp only []
  rw [h1, rdU_uvar _ _ hc]
  simp only []
  rw [h2, rdU_uvar _ _ hv]
theorem same_le_last (l : List Pl) (every i : Nat) : sameAt l every i ≤ (lastK l i).length := by
  rw [sameAt]
  split
  · exact Nat.zero_le _
  · rename_i h
    rw [lastK, if_neg (fun e => h (by rw [e, Nat.zero_mod]))]
    exact com_le1 _ _
theorem same_take (l : List Pl) (every i : Nat) : (lastK l i).take (sameAt l every i) = (keyAt l i).take (sameAt l every i) := by
  rw [sameAt]
  split
  · simp
  · rename_i h
    rw [lastK, if_neg (fun e => h (by rw [e, Nat.zero_mod]))]
    exact com_take _ _
theorem bodyTo_split (l : List Pl) (every k : Nat) : ∀ n, k < n → ∃ r, bodyTo l every n = bodyTo l every k ++ (entAt l every k ++ r)
  | 0, h => absurd h (by omega)
  | n + 1, h => by
    rcases Nat.lt_or_ge k n with h1 | h1
    · obtain ⟨r, e⟩ := bodyTo_split l every k n h1
      exact ⟨r ++ entAt l every n, by rw [bodyTo, e]; simp only [List.append_assoc]⟩
    · obtain rfl : k = n := by omega
      exact ⟨[], by rw [bodyTo, List.append_nil]⟩
theorem entAt_eq (l : List Pl) (every i : Nat) (r : List UInt8) : entAt l every i ++ r = uvar (sameAt l every i) ++ (uvar ((keyAt l i).length - sameAt l every i) ++ (uvar (valAt l i).length ++ ((keyAt l i).drop (sameAt l every i) ++ (valAt l i ++ r)))) := by
  simp only [entAt, numsAt, List.flatMap_cons, List.flatMap_nil, List.append_nil, List.append_assoc, keyAt, valAt]
/-- An entry that stands there. -/
theorem rdE_of {l : List Pl} {every i n : Nat} (hi : i < l.length) (hn : i < n) (hr : risen l) (hf : tot l ≤ 16777216) (hb : (bodyTo l every n).length ≤ 1048576) (first : Bool) (hfi : first = decide (i = 0)) :
    rdE (bodyTo l every n) (bodyTo l every i).length (lastK l i) first = some (enB l every i, (bodyTo l every (i + 1)).length) := by
  obtain ⟨r, hs⟩ := bodyTo_split l every i n hn
  have hd : (bodyTo l every n).drop (bodyTo l every i).length = entAt l every i ++ r := by rw [hs, List.drop_left]
  rw [entAt_eq] at hd
  have hp : l[i]? = some l[i] := List.getElem?_eq_getElem hi
  have hk := keyAt_of hp
  have hv := valAt_of hp
  have hg := tot_get hp
  rw [← hk, ← hv] at hg
  have hsk : sameAt l every i ≤ (keyAt l i).length := by rw [hk]; exact sameAt_le hp
  obtain ⟨h3, ht⟩ := rd3_of hd (by omega) (by omega) (by omega)
  have hlen := congrArg List.length hs
  rw [List.length_append, List.length_append] at hlen
  have hel := congrArg List.length (entAt_eq l every i [])
  simp only [List.append_nil, List.length_append, List.length_drop] at hel
  have hkey : (lastK l i).take (sameAt l every i) ++ (keyAt l i).drop (sameAt l every i) = keyAt l i := by rw [same_take, List.take_append_drop]
  have hless : (first || bytesLess (lastK l i) (keyAt l i)) = true := by
    rcases Nat.eq_zero_or_pos i with h0 | h0
    · rw [hfi, decide_eq_true h0]; rfl
    · have : bytesLess (lastK l i) (keyAt l i) = true := by
        rw [lastK, if_neg (by omega), hk]
        have hp0 : l[i - 1]? = some l[i - 1] := List.getElem?_eq_getElem (by omega)
        rw [keyAt_of hp0]
        exact hr (i - 1) _ _ hp0 (by rw [Nat.sub_add_cancel h0]; exact hp)
      rw [this, Bool.or_true]
  rw [rdE, h3]
  simp only []
  generalize hT : (bodyTo l every i).length + (uvar (sameAt l every i)).length + (uvar ((keyAt l i).length - sameAt l every i)).length + (uvar (valAt l i).length).length = T at ht ⊢
  have htk : ((bodyTo l every n).drop T).take ((keyAt l i).length - sameAt l every i) = (keyAt l i).drop (sameAt l every i) := by
    rw [ht]
    exact List.take_left' (by rw [List.length_drop])
  have htv : ((bodyTo l every n).drop (T + ((keyAt l i).length - sameAt l every i))).take (valAt l i).length = valAt l i := by
    rw [← List.drop_drop, ht, List.drop_left' (by rw [List.length_drop])]
    exact List.take_left' rfl
  rw [if_pos ⟨same_le_last l every i, by omega, by omega⟩, if_pos (by omega), htk, hkey, if_pos hless, htv]
  have : T + ((keyAt l i).length - sameAt l every i) + (valAt l i).length = (bodyTo l every (i + 1)).length := by
    rw [bodyTo, List.length_append]
    omega
  rw [this]
  rfl
theorem rdEs_of {l : List Pl} {every : Nat} (hr : risen l) (hf : tot l ≤ 16777216) (hb : (bodyTo l every l.length).length ≤ 1048576) : ∀ (d f k : Nat), k ≤ l.length → l.length - k = d → d < f →
    rdEs f (bodyTo l every l.length) (bodyTo l every k).length (lastK l k) ((List.range k).map (enB l every)) = some (ens l every)
  | d, 0, k, _, _, h => absurd h (by omega)
  | d, f + 1, k, hk, hd, hfd => by
    rw [rdEs]
    rcases Nat.lt_or_ge k l.length with hlt | hge
    · have hs := bodyTo_split l every k l.length hlt
      obtain ⟨r, hs⟩ := hs
      have hlen := congrArg List.length hs
      rw [List.length_append, List.length_append] at hlen
      have hel := congrArg List.length (entAt_eq l every k [])
      simp only [List.append_nil, List.length_append, List.length_drop] at hel
      have hup := uvar_pos (sameAt l every k)
      rw [if_pos (by omega), rdE_of hlt hlt hr hf hb _ (by cases k <;> simp)]
      simp only []
      have e1 : (enB l every k).key = lastK l (k + 1) := by rw [lastK, if_neg (by omega)]; rfl
      have e2 : (List.range k).map (enB l every) ++ [enB l every k] = (List.range (k + 1)).map (enB l every) := by rw [List.range_succ, List.map_append]; rfl
      rw [e1, e2]
      exact rdEs_of hr hf hb (d - 1) f (k + 1) hlt (by omega) (by omega)
    · obtain rfl : k = l.length := by omega
      rw [if_neg (Nat.lt_irrefl _)]
      rfl
theorem bodyTo_ge (l : List Pl) (every : Nat) : ∀ k, k ≤ (bodyTo l every k).length
  | 0 => Nat.zero_le _
  | k + 1 => by
    have h := bodyTo_ge l every k
    have hel := congrArg List.length (entAt_eq l every k [])
    simp only [List.append_nil, List.length_append, List.length_drop] at hel
    have hup := uvar_pos (sameAt l every k)
    rw [bodyTo, List.length_append]
    omega
theorem rdAll_of {l : List Pl} {every : Nat} (hr : risen l) (hf : tot l ≤ 16777216) (hb : (bodyTo l every l.length).length ≤ 1048576) : rdAll (bodyTo l every l.length) = some (ens l every) := by
  have h := rdEs_of (every := every) hr hf hb l.length ((bodyTo l every l.length).length + 1) 0 (Nat.zero_le _) rfl (by have := bodyTo_ge l every l.length; omega)
  exact h
theorem flat_le_get : ∀ (L : List Nat) (i x : Nat), L[i]? = some x → ((L.flatMap (le 4)).drop (4 * i)).take 4 = le 4 x
  | [], i, x, h => by cases h
  | y :: L, 0, x, h => by
    cases h
    rw [List.flatMap_cons, Nat.mul_zero, List.drop_zero]
    exact List.take_left' (le_length 4 _)
  | y :: L, i + 1, x, h => by
    rw [List.flatMap_cons, show 4 * (i + 1) = 4 + 4 * i by omega, ← List.drop_drop, List.drop_left' (le_length 4 y)]
    exact flat_le_get L i x h
theorem bld_len (l : List Pl) (every : Nat) : (bld l every).length = (bodyTo l every l.length).length + 4 * ((plTo l every l.length).length + 1) := by
  rw [bld, List.length_append, flat_le_len, List.length_append]; rfl
theorem bld_num (l : List Pl) (every i x : Nat) (h : (plTo l every l.length ++ [(plTo l every l.length).length])[i]? = some x) (hx : x < 4294967296) : unle (((bld l every).drop ((bodyTo l every l.length).length + 4 * i)).take 4) = x := by
  rw [bld, ← List.drop_drop, List.drop_left, flat_le_get _ i x h, unle_le 4 x (by simpa using hx)]
theorem placesAt_of {l : List Pl} {every : Nat} (hf : tot l ≤ 16777216) : placesAt (bld l every) (bodyTo l every l.length).length (plTo l every l.length).length = plTo l every l.length := by
  apply List.ext_getElem?
  intro i
  rw [placesAt, List.getElem?_map]
  rcases Nat.lt_or_ge i (plTo l every l.length).length with h | h
  · rw [List.getElem?_range h, List.getElem?_eq_getElem h]
    simp only [Option.map_some]
    congr 1
    refine bld_num l every i _ ?_ ?_
    · rw [List.getElem?_append_left h, List.getElem?_eq_getElem h]
    · have := plTo_big hf l.length (Nat.le_refl _) _ (List.getElem_mem h); omega
  · rw [List.getElem?_eq_none (by simpa using h), List.getElem?_eq_none h]; rfl
theorem unB_bld {l : List Pl} {every : Nat} (hr : risen l) (hf : tot l ≤ 16777216) (hb : (bld l every).length ≤ 1048576) : unB (bld l every) = .ok (ens l every, plTo l every l.length) := by
  have h1 := bld_len l every
  have h2 : (bodyTo l every l.length).length ≤ 1048576 := by omega
  have h3 := plTo_len l every l.length
  have h4 := tot_len l
  have hm : manyOf (bld l every) = (plTo l every l.length).length := by
    rw [manyOf, show (bld l every).length - 4 = (bodyTo l every l.length).length + 4 * (plTo l every l.length).length by omega]
    refine bld_num l every _ _ ?_ (by omega)
    rw [List.getElem?_append_right (Nat.le_refl _), Nat.sub_self]; rfl
  rw [unB, if_neg (by omega), if_neg (by omega), hm, if_neg (by omega), show (bld l every).length - 4 - 4 * (plTo l every l.length).length = (bodyTo l every l.length).length by omega]
  have ht : (bld l every).take (bodyTo l every l.length).length = bodyTo l every l.length := by rw [bld, List.take_left]
  rw [ht, rdAll_of hr hf h2]
  simp only []
  rw [placesAt_of hf]
end Go.Lec
/- Layer 20: a block that was built is whole; what an iterator of it finds, and how often it looks: plain words. -/
namespace Go.Lec
open Go.RowKit Go.Op
theorem bodyTo_lt (l : List Pl) (every : Nat) {i j : Nat} (h : i < j) : (bodyTo l every i).length < (bodyTo l every j).length := by
  obtain ⟨r, hs⟩ := bodyTo_split l every i j h
  have hlen := congrArg List.length hs
  rw [List.length_append, List.length_append] at hlen
  have hel := congrArg List.length (entAt_eq l every i [])
  simp only [List.append_nil, List.length_append, List.length_drop] at hel
  have hup := uvar_pos (sameAt l every i)
  omega
theorem ceil_mul {q e : Nat} (he : 1 ≤ e) : (q * e + e - 1) / e = q := by
  refine Nat.div_eq_of_lt_le ?_ ?_
  · omega
  · rw [Nat.add_mul]; omega
theorem ceil_rem {q e r : Nat} (h1 : 1 ≤ r) (h2 : r < e) : (q * e + r + e - 1) / e = q + 1 := by
  refine Nat.div_eq_of_lt_le ?_ ?_
  · rw [Nat.add_mul]; omega
  · rw [Nat.add_mul, Nat.add_mul]; omega
theorem ceil_one {n e : Nat} (h1 : 1 ≤ n) (h2 : n ≤ e) : (n + e - 1) / e = 1 := by
  refine Nat.div_eq_of_lt_le ?_ ?_
  · omega
  · omega
/-- How many restarts there are, and where they stand. -/
theorem plTo_get (l : List Pl) {e : Nat} (he : 1 ≤ e) : ∀ n, (plTo l e n).length = (n + e - 1) / e ∧ ∀ j, j < (n + e - 1) / e → (plTo l e n)[j]? = some (bodyTo l e (j * e)).length
  | 0 => by
    have : (0 + e - 1) / e = 0 := Nat.div_eq_of_lt (by omega)
    rw [this]
    exact ⟨rfl, fun j h => absurd h (by omega)⟩
  | n + 1 => by
    obtain ⟨h1, h2⟩ := plTo_get l he n
    have hn := Nat.div_add_mod n e
    rw [Nat.mul_comm] at hn
    by_cases h0 : n % e = 0
    · have e1 : (n + e - 1) / e = n / e := by
        have := ceil_mul (q := n / e) he
        rw [show n / e * e + e - 1 = n + e - 1 by omega] at this
        exact this
      have e2 : (n + 1 + e - 1) / e = n / e + 1 := by
        have h3 := ceil_mul (q := n / e + 1) he
        rw [Nat.add_mul, Nat.one_mul] at h3
        rcases Nat.eq_or_lt_of_le he with h4 | h4
        · rw [← h4] at h3 hn ⊢; simp at h3 hn ⊢
        · have h3 := ceil_rem (q := n / e) (r := 1) (Nat.le_refl _) h4
          rw [show n / e * e + 1 + e - 1 = n + 1 + e - 1 by omega] at h3
          exact h3
      rw [e2, plTo, if_pos h0]
      rw [e1] at h1 h2
      refine ⟨by rw [List.length_append, h1]; rfl, fun j hj => ?_⟩
      rcases Nat.lt_or_ge j (n / e) with h3 | h3
      · rw [List.getElem?_append_left (by omega)]; exact h2 j h3
      · obtain rfl : j = n / e := by omega
        rw [List.getElem?_append_right (by omega), h1, Nat.sub_self, show n / e * e = n by omega]; rfl
    · have hm := Nat.mod_lt n (show 0 < e by omega)
      have e1 : (n + e - 1) / e = n / e + 1 := by
        have := ceil_rem (q := n / e) (r := n % e) (e := e) (by omega) hm
        rw [show n / e * e + n % e + e - 1 = n + e - 1 by omega] at this
        exact this
      have e2 : (n + 1 + e - 1) / e = n / e + 1 := by
        rcases Nat.lt_or_ge (n % e + 1) e with h4 | h4
        · have := ceil_rem (q := n / e) (r := n % e + 1) (e := e) (by omega) h4
          rw [show n / e * e + (n % e + 1) + e - 1 = n + 1 + e - 1 by omega] at this
          exact this
        · have := ceil_mul (q := n / e + 1) he
          rw [Nat.add_mul, Nat.one_mul, show n / e * e + e + e - 1 = n + 1 + e - 1 by omega] at this
          exact this
      rw [e2, plTo, if_neg h0]
      rw [e1] at h1 h2
      exact ⟨h1, h2⟩
theorem row_in {n e j : Nat} (he : 1 ≤ e) (h : j * e < n) : j < (n + e - 1) / e := by
  rw [Nat.lt_iff_add_one_le, Nat.le_div_iff_mul_le (by omega), Nat.add_mul]
  omega
theorem plTo_at (l : List Pl) {e n j : Nat} (he : 1 ≤ e) (h : j * e < n) : (plTo l e n)[j]? = some (bodyTo l e (j * e)).length := (plTo_get l he n).2 j (row_in he h)
theorem plTo_off (l : List Pl) {e n j : Nat} (he : 1 ≤ e) (h : ¬ j * e < n) : (plTo l e n)[j]? = none := by
  refine List.getElem?_eq_none ?_
  rw [(plTo_get l he n).1]
  rcases Nat.lt_or_ge j ((n + e - 1) / e) with h1 | h1
  · exact absurd (row_lt he h1) h
  · exact h1
theorem lastAt_of (l : List Pl) (e d : Nat) : ∀ k, k ≤ l.length → lastAt (ens l e) (bodyTo l e e).length d k = if e < k then e else d
  | 0, _ => by rw [lastAt, if_neg (by omega)]
  | k + 1, h => by
    rw [lastAt, ens_get (show k < l.length by omega), lastAt_of l e d k (by omega)]
    simp only [Option.map_some, Option.some.injEq, enB]
    rcases Nat.lt_trichotomy k e with h1 | h1 | h1
    · rw [if_neg (fun h => by have := bodyTo_lt l e h1; omega), if_neg (by omega), if_neg (by omega)]
    · subst h1
      rw [if_pos rfl, if_pos (by omega)]
    · rw [if_neg (fun h => by have := bodyTo_lt l e h1; omega), if_pos h1, if_pos (by omega)]
theorem same_may (l : List Pl) (e i : Nat) (h : ¬ i % e = 0) : sameAt l e i = com (lastK l i) (keyAt l i) := by
  rw [sameAt, if_neg h, lastK, if_neg (fun h0 => h (by rw [h0, Nat.zero_mod]))]; rfl
theorem isW_own (l : List Pl) {e : Nat} (he : 1 ≤ e) : isW e (ens l e) (plTo l e l.length) = true := by
  rw [isW, ens_len, (plTo_get l he l.length).1, decide_eq_true rfl, Bool.true_and, List.all_eq_true]
  intro i hi
  rw [List.mem_range] at hi
  rw [okAt, ens_get hi]
  simp only []
  by_cases h0 : i % e = 0
  · have h1 : i / e * e = i := by have := Nat.div_add_mod i e; rw [Nat.mul_comm] at this; omega
    rw [if_pos h0, plTo_at l he (by rw [h1]; exact hi), h1]
    simp [enB, sameAt, h0]
  · rw [if_neg h0]
    exact decide_eq_true (same_may l e i h0)
theorem isW_one (l : List Pl) {e : Nat} (h1 : 1 ≤ l.length) (h2 : l.length ≤ e) : isW l.length (ens l e) (plTo l e l.length) = true := by
  rw [isW, ens_len, (plTo_get l (by omega) l.length).1, ceil_one h1 h2, ceil_one h1 (Nat.le_refl _), decide_eq_true rfl, Bool.true_and, List.all_eq_true]
  intro i hi
  rw [List.mem_range] at hi
  rw [okAt, ens_get hi]
  simp only []
  rw [Nat.mod_eq_of_lt hi]
  by_cases h0 : i = 0
  · subst h0
    rw [if_pos rfl, Nat.zero_div, plTo_at l (show 1 ≤ e by omega) (by omega), Nat.zero_mul]
    simp [enB, sameAt, bodyTo]
  · rw [if_neg h0]
    exact decide_eq_true (same_may l e i (by rw [Nat.mod_eq_of_lt (by omega)]; exact h0))
theorem everyOf_of (l : List Pl) {e : Nat} (he : 1 ≤ e) : everyOf (ens l e) (plTo l e l.length) = if e < l.length then e else l.length := by
  rw [everyOf, ens_len]
  by_cases h : e < l.length
  · have h1 := plTo_at l (j := 1) he (n := l.length) (by omega)
    rw [Nat.one_mul] at h1
    rw [h1]
    simp only []
    rw [lastAt_of l e l.length l.length (Nat.le_refl _), if_pos h]
  · rw [plTo_off l he (by omega), if_neg h]
theorem whole_of (l : List Pl) {e : Nat} (he : 1 ≤ e) (he2 : e ≤ 1024) : whole (ens l e) (plTo l e l.length) = true := by
  rw [whole, ens_len]
  rcases Nat.eq_zero_or_pos l.length with h0 | h0
  · rw [if_pos (.inl h0), h0]
    exact decide_eq_true ⟨rfl, rfl⟩
  · have hp : (plTo l e l.length).length ≠ 0 := by
      have := row_in (n := l.length) (j := 0) he (by omega)
      rw [(plTo_get l he l.length).1]; omega
    rw [if_neg (by omega), everyOf_of l he]
    by_cases h : e < l.length
    · rw [if_pos h, decide_eq_true he, decide_eq_true he2, isW_own l he]; rfl
    · rw [if_neg h, decide_eq_true (show 1 ≤ l.length from h0), decide_eq_true (show l.length ≤ 1024 by omega), isW_one l h0 (by omega)]; rfl
theorem ck_bldG {l : List Pl} {every : Nat} (hr : risen l) (hf : tot l ≤ 16777216) (hb : (bld l every).length ≤ 1048576) (he : 1 ≤ every) (he2 : every ≤ 1024) : ckB (bld l every) = .ok (ens l every, plTo l every l.length) := by
  rw [ckB, unB_bld hr hf hb]
  simp only []
  rw [if_pos (whole_of l he he2)]
theorem ck_bld {l : List Pl} {every : Nat} (hr : risen l) (hf : tot l ≤ 4000) (he : 1 ≤ every) (he2 : every ≤ 1024) : ckB (bld l every) = .ok (ens l every, plTo l every l.length) := by
  have h1 := bld_len l every
  have h2 := bodyTo_small (every := every) hf (Nat.le_refl l.length)
  have h3 := plTo_len l every l.length
  have h4 := tot_len l
  exact ck_bldG hr (by omega) (by omega) he he2
theorem ens_pr (l : List Pl) (every : Nat) : (ens l every).map En.pr = l := by
  apply List.ext_getElem?
  intro i
  rw [List.getElem?_map]
  rcases Nat.lt_or_ge i l.length with h | h
  · rw [ens_get h, List.getElem?_eq_getElem h]
    simp [enB, En.pr, keyAt_of (List.getElem?_eq_getElem h), valAt_of (List.getElem?_eq_getElem h)]
  · rw [List.getElem?_eq_none (by rw [ens_len]; exact h), List.getElem?_eq_none h]; rfl

/-! ### The iterator -/
/-- How many pairs an iterator takes between restarts. -/
def evB (n e : Nat) : Nat := if e < n then e else if n = 0 then 1 else n
theorem evB_pos {n e : Nat} (he : 1 ≤ e) : 1 ≤ evB n e := by rw [evB]; split <;> (try split) <;> omega
theorem evB_le {n e : Nat} (he : 1 ≤ e) : evB n e ≤ e := by rw [evB]; split <;> (try split) <;> omega
theorem atGe_of {l : List Pl} {e k : Nat} (p : Nat) (h : k < l.length) : atGe (ens l e) p k = decide (p ≤ (bodyTo l e k).length) := by rw [atGe, ens_get h]; rfl
theorem evOf_of (l : List Pl) {e : Nat} (he : 1 ≤ e) : evOf (ens l e) (plTo l e l.length) = evB l.length e := by
  rw [evOf, evB, ens_len]
  by_cases h : e < l.length
  · have h1 := plTo_at l (j := 1) he (n := l.length) (by omega)
    rw [Nat.one_mul] at h1
    rw [h1, if_pos h]
    simp only []
    have hm : ∀ a b, a ≤ b → atGe (ens l e) (bodyTo l e e).length a = true → atGe (ens l e) (bodyTo l e e).length b = true := by
      intro a b hab ha
      rcases Nat.lt_or_ge b l.length with hb | hb
      · rw [atGe_of _ (by omega), decide_eq_true_iff] at ha
        rw [atGe_of _ hb, decide_eq_true_iff]
        rcases Nat.eq_or_lt_of_le hab with rfl | h2
        · exact ha
        · have := bodyTo_lt l e h2; omega
      · rw [atGe, List.getElem?_eq_none (by rw [ens_len]; exact hb)]
    obtain ⟨f1, f2⟩ := srchF_found (atGe (ens l e) (bodyTo l e e).length) hm l.length 0 l.length 0 (by omega) (Nat.zero_le _) (fun k hk => absurd hk (by omega))
    generalize (srchF (atGe (ens l e) (bodyTo l e e).length) l.length 0 l.length 0).1 = R at f1 f2
    rcases Nat.lt_trichotomy R e with h2 | h2 | h2
    · have h3 := f2 (by omega)
      rw [atGe_of _ (by omega), decide_eq_true_iff] at h3
      have := bodyTo_lt l e h2
      omega
    · exact h2
    · have h3 := f1 e h2
      rw [atGe_of _ h, decide_eq_false_iff_not] at h3
      omega
  · rw [plTo_off l he (by omega), if_neg h]
    simp only []
    rcases Nat.eq_zero_or_pos l.length with h0 | h0
    · rw [h0, if_neg (by simp [plTo]), if_pos rfl]
    · rw [(plTo_get l he l.length).1, ceil_one h0 (by omega), if_pos (by omega), Nat.add_sub_cancel, Nat.div_one, if_neg (by omega)]
/-- The first entry whose key is not ahead of a key: what a search finds. -/
theorem scanF_found (l : List En) (key : List UInt8) : ∀ (f a b c : Nat), b - a ≤ f → a ≤ b → (∀ k, k < a → geAt l key k = false) → (scanF l key f a b c).1 ≤ b ∧ (∀ k, k < (scanF l key f a b c).1 → geAt l key k = false) ∧ ((scanF l key f a b c).1 < b → geAt l key (scanF l key f a b c).1 = true)
  | 0, a, b, c, hf, h, hl => ⟨h, hl, fun h1 => absurd h1 (by rw [scanF]; omega)⟩
  | f + 1, a, b, c, hf, h, hl => by
    rw [scanF]
    by_cases hlt : a < b
    · rw [if_pos hlt]
      cases hg : geAt l key a
      · rw [if_neg (by simp)]
        exact scanF_found l key f (a + 1) b (c + 1) (by omega) (by omega) (fun k hk => by
          rcases Nat.lt_or_ge k a with h1 | h1
          · exact hl k h1
          · obtain rfl : k = a := by omega
            exact hg)
      · rw [if_pos rfl]
        exact ⟨h, hl, fun _ => hg⟩
    · rw [if_neg hlt]
      exact ⟨h, hl, fun h1 => absurd h1 hlt⟩
theorem findF_found (l : List En) (ev : Nat) (key : List UInt8) (he : 1 ≤ ev) (hm : ∀ a b, a ≤ b → geAt l key a = true → geAt l key b = true) :
    (∀ k, k < (findF l ev key).1 → geAt l key k = false) ∧ ((findF l ev key).1 < l.length → geAt l key (findF l ev key).1 = true) := by
  obtain ⟨m, hmm⟩ : ∃ m, m = (l.length + ev - 1) / ev := ⟨_, rfl⟩
  have hm' : ∀ a b, a ≤ b → (fun k => geAt l key (k * ev)) a = true → (fun k => geAt l key (k * ev)) b = true := fun a b hab h => hm _ _ (Nat.mul_le_mul_right _ hab) h
  obtain ⟨f1, f2⟩ := srchF_found (fun k => geAt l key (k * ev)) hm' m 0 m 0 (by omega) (Nat.zero_le _) (fun k hk => absurd hk (by omega))
  have f3 := srchF_le (fun k => geAt l key (k * ev)) m 0 m 0 (Nat.zero_le _)
  rw [findF, ← hmm]
  generalize srchF (fun k => geAt l key (k * ev)) m 0 m 0 = R at f1 f2 f3 ⊢
  by_cases h0 : R.1 = 0
  · rw [if_pos h0]
    refine ⟨fun k hk => absurd hk (by simp), fun h => ?_⟩
    have := f2 (by rw [h0, hmm]; exact row_in he (by simpa using h))
    rw [h0] at this
    simpa using this
  · rw [if_neg h0]
    have h1 := row_lt (n := l.length) (k := R.1 - 1) he (by rw [← hmm]; omega)
    have h2 : (R.1 - 1) * ev + ev = R.1 * ev := by rw [← Nat.succ_mul]; congr 1; omega
    have h3 : geAt l key ((R.1 - 1) * ev) = false := f1 (R.1 - 1) (by omega)
    have h4 : ∀ k, k < (R.1 - 1) * ev + 1 → geAt l key k = false := by
      intro k hk
      cases hg : geAt l key k
      · rfl
      · have := hm k ((R.1 - 1) * ev) (by omega) hg
        rw [h3] at this
        cases this
    obtain ⟨g1, g2, g3⟩ := scanF_found l key l.length ((R.1 - 1) * ev + 1) (min l.length (R.1 * ev)) R.2 (by omega) (by omega) h4
    generalize scanF l key l.length ((R.1 - 1) * ev + 1) (min l.length (R.1 * ev)) R.2 = S at g1 g2 g3 ⊢
    refine ⟨g2, fun h => ?_⟩
    rcases Nat.lt_or_ge S.1 (min l.length (R.1 * ev)) with h5 | h5
    · exact g3 h5
    · have h6 : S.1 = R.1 * ev := by omega
      rw [h6]
      exact f2 (by rw [hmm]; exact row_in he (by omega))
/-- How many bits a number has. -/
def bitsN : Nat → Nat → Nat
  | 0, _ => 0
  | f + 1, n => if 0 < n then bitsN f (n / 2) + 1 else 0
theorem bitsN_mono : ∀ (f a b : Nat), a ≤ b → bitsN f a ≤ bitsN f b
  | 0, a, b, h => Nat.le_refl _
  | f + 1, a, b, h => by
    rw [bitsN, bitsN]
    by_cases ha : 0 < a
    · rw [if_pos ha, if_pos (by omega)]
      have := bitsN_mono f (a / 2) (b / 2) (Nat.div_le_div_right h)
      omega
    · rw [if_neg ha]; exact Nat.zero_le _
theorem srchF_bits (p : Nat → Bool) : ∀ (f i j c : Nat), i ≤ j → (srchF p f i j c).2 ≤ c + bitsN f (j - i)
  | 0, i, j, c, h => Nat.le_refl _
  | f + 1, i, j, c, h => by
    rw [srchF, bitsN]
    by_cases hlt : i < j
    · rw [if_pos hlt, if_pos (show 0 < j - i by omega)]
      split
      · have h1 := srchF_bits p f i ((i + j) / 2) (c + 1) (by omega)
        have h2 := bitsN_mono f ((i + j) / 2 - i) ((j - i) / 2) (by omega)
        omega
      · have h1 := srchF_bits p f ((i + j) / 2 + 1) j (c + 1) (by omega)
        have h2 := bitsN_mono f (j - ((i + j) / 2 + 1)) ((j - i) / 2) (by omega)
        omega
    · rw [if_neg hlt]; exact Nat.le_add_right _ _
theorem scanF_cnt2 (l : List En) (key : List UInt8) : ∀ (f a b c : Nat), a ≤ b → (scanF l key f a b c).2 ≤ c + (b - a)
  | 0, a, b, c, h => by rw [scanF]; exact Nat.le_add_right _ _
  | f + 1, a, b, c, h => by
    rw [scanF]
    split
    · split
      · show c + 1 ≤ _; omega
      · have := scanF_cnt2 l key f (a + 1) b (c + 1) (by omega); omega
    · exact Nat.le_add_right _ _
theorem findF_bits (l : List En) (ev : Nat) (key : List UInt8) (he : 1 ≤ ev) : (findF l ev key).2 ≤ bitsN ((l.length + ev - 1) / ev) ((l.length + ev - 1) / ev) + (ev - 1) := by
  obtain ⟨m, hmm⟩ : ∃ m, m = (l.length + ev - 1) / ev := ⟨_, rfl⟩
  have h1 := srchF_bits (fun k => geAt l key (k * ev)) m 0 m 0 (Nat.zero_le _)
  have f3 := srchF_le (fun k => geAt l key (k * ev)) m 0 m 0 (Nat.zero_le _)
  rw [findF, ← hmm]
  generalize srchF (fun k => geAt l key (k * ev)) m 0 m 0 = R at h1 f3 ⊢
  rw [Nat.sub_zero, Nat.zero_add] at h1
  split
  · show R.2 ≤ _; omega
  · rename_i h0
    have h2 := row_lt (n := l.length) (k := R.1 - 1) he (by rw [← hmm]; omega)
    have h3 : (R.1 - 1) * ev + ev = R.1 * ev := by rw [← Nat.succ_mul]; congr 1; omega
    have h4 := scanF_cnt2 l key l.length ((R.1 - 1) * ev + 1) (min l.length (R.1 * ev)) R.2 (by omega)
    omega
theorem less_trans : ∀ {a b c : List UInt8}, bytesLess a b = true → bytesLess b c = true → bytesLess a c = true
  | _, [], _, h, _ => by simp [bytesLess] at h
  | _, _ :: _, [], _, h => by simp [bytesLess] at h
  | [], _ :: _, _ :: _, _, _ => rfl
  | a :: x, b :: y, c :: z, h1, h2 => by
    simp only [bytesLess, Bool.or_eq_true, Bool.and_eq_true, decide_eq_true_eq, beq_iff_eq] at h1 h2 ⊢
    rcases h1 with h1 | ⟨rfl, h1⟩
    · rcases h2 with h2 | ⟨rfl, _⟩
      · left
        have := UInt8.lt_iff_toNat_lt.1 h1
        have := UInt8.lt_iff_toNat_lt.1 h2
        exact UInt8.lt_iff_toNat_lt.2 (by omega)
      · exact .inl h1
    · rcases h2 with h2 | ⟨rfl, h2⟩
      · exact .inl h2
      · exact .inr ⟨rfl, less_trans h1 h2⟩
theorem key_lt {l : List Pl} (hr : risen l) (i : Nat) : ∀ j, i < j → j < l.length → bytesLess (keyAt l i) (keyAt l j) = true
  | 0, h, _ => absurd h (by omega)
  | j + 1, h, hj => by
    have p0 : l[j]? = some l[j] := List.getElem?_eq_getElem (by omega)
    have p1 : l[j + 1]? = some l[j + 1] := List.getElem?_eq_getElem hj
    have h1 := hr j _ _ p0 p1
    rw [← keyAt_of p0, ← keyAt_of p1] at h1
    rcases Nat.lt_or_ge i j with h2 | h2
    · exact less_trans (key_lt hr i j h2 (by omega)) h1
    · obtain rfl : i = j := by omega
      exact h1
theorem geAt_of {l : List Pl} {e k : Nat} (key : List UInt8) (h : k < l.length) : geAt (ens l e) key k = !(bytesLess (keyAt l k) key) := by rw [geAt, ens_get h]; rfl
theorem geAt_mono {l : List Pl} {e : Nat} (hr : risen l) (key : List UInt8) (a b : Nat) (hab : a ≤ b) (h : geAt (ens l e) key a = true) : geAt (ens l e) key b = true := by
  rcases Nat.lt_or_ge b l.length with hb | hb
  · rw [geAt_of key (by omega)] at h
    rw [geAt_of key hb]
    rcases Nat.eq_or_lt_of_le hab with rfl | h2
    · exact h
    · cases hg : bytesLess (keyAt l b) key
      · rfl
      · rw [less_trans (key_lt hr a b h2 hb) hg] at h
        cases h
  · rw [geAt, List.getElem?_eq_none (by rw [ens_len]; exact hb)]
/-- The first pair whose key is not ahead of a key; as many as there are: none. -/
def findL (l : List Pl) (key : List UInt8) : Nat := (l.takeWhile fun p => bytesLess p.1 key).length
theorem findL_le (l : List Pl) (key : List UInt8) : findL l key ≤ l.length := (List.takeWhile_sublist _).length_le
theorem findL_of : ∀ (l : List Pl) (key : List UInt8) (s : Nat), s ≤ l.length → (∀ j p, j < s → l[j]? = some p → bytesLess p.1 key = true) → (∀ p, l[s]? = some p → bytesLess p.1 key = false) → findL l key = s
  | [], key, s, h, _, _ => by
    simp only [List.length_nil, Nat.le_zero] at h
    subst h; rfl
  | q :: l, key, 0, h, _, h2 => by
    rw [findL, List.takeWhile_cons, h2 q rfl]; rfl
  | q :: l, key, s + 1, h, h1, h2 => by
    have h3 := h1 0 q (by omega) rfl
    have h4 := findL_of l key s (by simpa using h) (fun j p hj hp => h1 (j + 1) p (by omega) hp) (fun p hp => h2 p hp)
    rw [findL] at h4
    rw [findL, List.takeWhile_cons, h3, if_pos rfl, List.length_cons, h4]
theorem find_of {l : List Pl} {e : Nat} (hr : risen l) (key : List UInt8) (ev : Nat) (he : 1 ≤ ev) : (findF (ens l e) ev key).1 = findL l key := by
  obtain ⟨h1, h2⟩ := findF_found (ens l e) ev key he (geAt_mono hr key)
  have h3 := findF_le (ens l e) ev key he
  rw [ens_len] at h2 h3
  refine (findL_of l key _ h3 (fun j p hj hp => ?_) (fun p hp => ?_)).symm
  · have h4 := h1 j hj
    have hjl := (List.getElem?_eq_some_iff.1 hp).1
    rw [geAt_of key hjl, keyAt_of hp] at h4
    simpa using h4
  · have hjl := (List.getElem?_eq_some_iff.1 hp).1
    have h4 := h2 hjl
    rw [geAt_of key hjl, keyAt_of hp] at h4
    simpa using h4
/-- An iterator looks no more often than promised. -/
theorem look_of {l : List Pl} {e : Nat} (key : List UInt8) (he : 1 ≤ e) : (findF (ens l e) (evB l.length e) key).2 ≤ bitsN ((l.length + e - 1) / e) ((l.length + e - 1) / e) + e := by
  have h1 := findF_bits (ens l e) (evB l.length e) key (evB_pos he)
  rw [ens_len] at h1
  have h2 := evB_le (n := l.length) he
  by_cases h : e < l.length
  · have h3 : evB l.length e = e := by rw [evB, if_pos h]
    rw [h3] at h1 ⊢
    omega
  · rcases Nat.eq_zero_or_pos l.length with h0 | h0
    · have h3 : evB l.length e = 1 := by rw [evB, if_neg h, if_pos h0]
      rw [h3, h0] at h1
      rw [h3]
      simp [bitsN] at h1
      omega
    · have h3 : evB l.length e = l.length := by rw [evB, if_neg h, if_neg (by omega)]
      rw [h3, ceil_one h0 (Nat.le_refl _)] at h1
      rw [h3, ceil_one h0 (show l.length ≤ e by omega)]
      omega
end Go.Lec
