/- Layers 16, 24: keys in order stand group by group, the newest first: the plain law. Nothing here speaks of the program. -/
import Derived.Test.YtedelkifadonjaaIkPlain
import Derived.Test.YtedelkifadonjaaSeesPlain
namespace Go.Lec
open Go.Op
theorem key_shape {l : List UInt8} {K : Key} (h : dec l = .ok K) : ∃ r, l = be 2 K.ep ++ (escT K.srt ++ (be 6 (281474976710655 - K.sq).toNat ++ r)) ∧ K.ep < 65536 ∧ 0 ≤ K.sq ∧ K.sq ≤ 281474976710655 := by
  unfold dec at h
  split at h
  · cases h
  · rename_i hl2
    split at h
    · cases h
    · rename_i s k hu
      split at h
      · cases h
      · rename_i hr6
        split at h
        · cases h
        · rename_i x t hx
          split at h
          · cases h
          · split at h
            · cases h
            · cases h
              generalize hr : (l.drop 2).drop k = r at *
              have h2 : (l.take 2).length = 2 := by rw [List.length_take]; omega
              have hn2 := num_lt (l.take 2)
              rw [h2] at hn2
              have hb2 := be_num (l.take 2)
              rw [h2] at hb2
              have h6 : (r.take 6).length = 6 := by rw [List.length_take]; omega
              have hn6 := num_lt (r.take 6)
              rw [h6] at hn6
              have hb6 := be_num (r.take 6)
              rw [h6] at hb6
              simp only [Nat.reducePow] at hn2 hn6
              refine ⟨x :: t, ?_, by dsimp only; omega, by dsimp only; omega, by dsimp only; omega⟩
              dsimp only
              rw [hb2, show (281474976710655 - (281474976710655 - ((num (r.take 6) : Nat) : Int))).toNat = num (r.take 6) from by omega, hb6, ← escT_unesc hu, ← hx, List.take_append_drop, ← hr, List.take_append_drop, List.take_append_drop]
theorem less_irr : ∀ l : List UInt8, bytesLess l l = false
  | [] => rfl
  | a :: l => by simp [bytesLess, less_irr l]
/-- What lies between two that begin alike begins so. -/
theorem between : ∀ (P a b c : List UInt8), bytesLess (P ++ a) b = true → bytesLess b (P ++ c) = true → ∃ b', b = P ++ b'
  | [], _, b, _, _, _ => ⟨b, rfl⟩
  | p :: P, a, b, c, h1, h2 => by
    cases b with
    | nil => simp [bytesLess] at h1
    | cons y b =>
      simp only [List.cons_append, bytesLess, Bool.or_eq_true, Bool.and_eq_true, decide_eq_true_eq, beq_iff_eq] at h1 h2
      have hy : p = y := by
        rcases h1 with h1 | ⟨h1, _⟩
        · rcases h2 with h2 | ⟨h2, _⟩
          · exact absurd h2 (by have := UInt8.lt_iff_toNat_lt.1 h1; intro h; have := UInt8.lt_iff_toNat_lt.1 h; omega)
          · exact h2.symm
        · exact h1
      subst hy
      have g1 : bytesLess (P ++ a) b = true := by
        rcases h1 with h1 | ⟨_, h1⟩
        · exact absurd h1 (by intro h; have := UInt8.lt_iff_toNat_lt.1 h; omega)
        · exact h1
      have g2 : bytesLess b (P ++ c) = true := by
        rcases h2 with h2 | ⟨_, h2⟩
        · exact absurd h2 (by intro h; have := UInt8.lt_iff_toNat_lt.1 h; omega)
        · exact h2
      obtain ⟨b', rfl⟩ := between P a b c g1 g2
      exact ⟨b', rfl⟩
theorem less_pre : ∀ (P a b : List UInt8), bytesLess (P ++ a) (P ++ b) = bytesLess a b
  | [], _, _ => rfl
  | p :: P, a, b => by simp [bytesLess, less_pre P a b]
theorem byte_lt2 {x y : Nat} (hx : x < 256) (hy : y < 256) : (UInt8.ofNat x < UInt8.ofNat y) ↔ x < y := by
  rw [UInt8.lt_iff_toNat_lt, UInt8.toNat_ofNat', UInt8.toNat_ofNat']
  omega
theorem byte_eq2 {x y : Nat} (hx : x < 256) (hy : y < 256) : (UInt8.ofNat x = UInt8.ofNat y) ↔ x = y := by
  constructor
  · intro h
    have := congrArg UInt8.toNat h
    rw [UInt8.toNat_ofNat', UInt8.toNat_ofNat'] at this
    omega
  · rintro rfl; rfl

theorem mod_step (a P : Nat) : a % (P * 256) = a % P + P * (a / P % 256) := Nat.mod_mul

/-- Numbers of one width compare as their bytes do. -/
theorem less_be : ∀ (k a b : Nat) (r r' : List UInt8), bytesLess (be k a ++ r) (be k b ++ r') = if a % 256 ^ k = b % 256 ^ k then bytesLess r r' else decide (a % 256 ^ k < b % 256 ^ k)
  | 0, a, b, r, r' => by simp [be, Nat.mod_one]
  | k + 1, a, b, r, r' => by
    show (decide (UInt8.ofNat (a / 256 ^ k % 256) < UInt8.ofNat (b / 256 ^ k % 256)) || (UInt8.ofNat (a / 256 ^ k % 256) == UInt8.ofNat (b / 256 ^ k % 256) && bytesLess (be k a ++ r) (be k b ++ r'))) = _
    rw [less_be k a b r r']
    have hP : 0 < 256 ^ k := Nat.pow_pos (by decide)
    have ha : a % 256 ^ (k + 1) = a % 256 ^ k + 256 ^ k * (a / 256 ^ k % 256) := by rw [Nat.pow_succ]; exact mod_step a _
    have hb : b % 256 ^ (k + 1) = b % 256 ^ k + 256 ^ k * (b / 256 ^ k % 256) := by rw [Nat.pow_succ]; exact mod_step b _
    rw [ha, hb]
    have h1 := Nat.mod_lt a hP
    have h2 := Nat.mod_lt b hP
    have h3 : a / 256 ^ k % 256 < 256 := Nat.mod_lt _ (by decide)
    have h4 : b / 256 ^ k % 256 < 256 := Nat.mod_lt _ (by decide)
    have e1 := byte_lt2 h3 h4
    have e2 := byte_eq2 h3 h4
    generalize a / 256 ^ k % 256 = x at *
    generalize b / 256 ^ k % 256 = y at *
    generalize a % 256 ^ k = u at *
    generalize b % 256 ^ k = v at *
    generalize 256 ^ k = P at *
    clear ha hb
    rcases Nat.lt_trichotomy x y with hxy | hxy | hxy
    · have hm : P * (x + 1) ≤ P * y := Nat.mul_le_mul_left P hxy
      rw [Nat.mul_succ] at hm
      rw [decide_eq_true (e1.2 hxy)]
      simp only [Bool.true_or]
      rw [if_neg (by omega)]
      exact (decide_eq_true (by omega)).symm
    · subst hxy
      have : ¬ (UInt8.ofNat x < UInt8.ofNat x) := fun h => Nat.lt_irrefl _ (e1.1 h)
      rw [decide_eq_false this]
      simp
    · have hm : P * (y + 1) ≤ P * x := Nat.mul_le_mul_left P hxy
      rw [Nat.mul_succ] at hm
      have n1 : ¬ (UInt8.ofNat x < UInt8.ofNat y) := fun h => by have := e1.1 h; omega
      have n2 : (UInt8.ofNat x == UInt8.ofNat y) = false := by
        rw [beq_eq_false_iff_ne]
        intro h
        have := e2.1 h
        omega
      rw [decide_eq_false n1, n2]
      simp only [Bool.false_and, Bool.or_self]
      rw [if_neg (by omega)]
      exact (decide_eq_false (by omega)).symm

theorem pow6 : 256 ^ 6 = 281474976710656 := by decide
/-- Keys of one group: the newest first. -/
theorem group_order {a b : List UInt8} {K M : Key} (ha : dec a = .ok K) (hb : dec b = .ok M) (he : K.ep = M.ep) (hs : K.srt = M.srt) (hl : bytesLess a b = true) : M.sq ≤ K.sq := by
  obtain ⟨r, ea, _, h0, h1⟩ := key_shape ha
  obtain ⟨r', eb, _, g0, g1⟩ := key_shape hb
  rw [ea, eb, he, hs, less_pre, less_pre, less_be, pow6, Nat.mod_eq_of_lt (by omega), Nat.mod_eq_of_lt (by omega)] at hl
  split at hl
  · omega
  · have := of_decide_eq_true hl; omega
theorem be2_inj {x y : Nat} (hx : x < 65536) (hy : y < 65536) (h : be 2 x = be 2 y) : x = y := by
  have h1 := num_be 2 x
  have h2 := num_be 2 y
  rw [h] at h1
  omega
/-- What stands between two keys of a group is of that group, if it is a key. -/
theorem group_between {a b c : List UInt8} {K M N : Key} (ha : dec a = .ok K) (hb : dec b = .ok M) (hc : dec c = .ok N) (he : K.ep = N.ep) (hs : K.srt = N.srt) (h1 : bytesLess a b = true) (h2 : bytesLess b c = true) : M.ep = K.ep ∧ M.srt = K.srt := by
  obtain ⟨r, ea, k1, _, _⟩ := key_shape ha
  obtain ⟨s, eb, k2, _, _⟩ := key_shape hb
  obtain ⟨t, ec, _, _, _⟩ := key_shape hc
  rw [ea, ← List.append_assoc] at h1
  rw [ec, ← he, ← hs, ← List.append_assoc] at h2
  obtain ⟨b', hb'⟩ := between _ _ _ _ h1 h2
  rw [List.append_assoc] at hb'
  rw [eb] at hb'
  have e2 : be 2 M.ep = be 2 K.ep := by
    have := congrArg (List.take 2) hb'
    rwa [List.take_left' (by simp [be_length]), List.take_left' (by simp [be_length])] at this
  have e3 := congrArg (List.drop 2) hb'
  rw [List.drop_left' (by simp [be_length]), List.drop_left' (by simp [be_length])] at e3
  have u1 := unesc_escT M.srt (be 6 (281474976710655 - M.sq).toNat ++ s)
  have u2 := unesc_escT K.srt b'
  rw [e3, u2] at u1
  simp only [Option.some.injEq, Prod.mk.injEq] at u1
  exact ⟨be2_inj k2 k1 e2, u1.1.symm⟩
/-- Entries in order: those that are keys, with their groups. -/
structure Kv where
  key : List UInt8
  K : Key
  val : List UInt8
  ok : dec key = .ok K
def Kv.it (dead : List Int) (x : Kv) : Sees.It (Nat × List UInt8) Kv := ⟨(x.K.ep, x.K.srt), x.K.sq, decide (x.K.kd = 1), dead.contains (x.K.ep : Int), x⟩
theorem ord_of (dead : List Int) : ∀ (D R : List Kv), (∀ y ∈ R, ∀ x ∈ D, bytesLess y.key x.key = true) → R.Pairwise (fun a b => bytesLess b.key a.key = true) → D.Pairwise (fun a b => bytesLess a.key b.key = true) →
    Sees.Ord (R.map fun y => (y.K.ep, y.K.srt)) (R.head?.map (Kv.it dead)) (D.map (Kv.it dead))
  | [], _, _, _, _ => trivial
  | x :: D, R, hRD, hR, hD => by
    rw [List.pairwise_cons] at hD
    refine ⟨fun hm => ?_, fun p hp hg => ?_, ?_⟩
    · obtain ⟨y, hy, hyg⟩ := List.mem_map.1 hm
      cases R with
      | nil => cases hy
      | cons p R =>
        refine ⟨_, rfl, ?_⟩
        rcases List.mem_cons.1 hy with rfl | hy'
        · exact hyg
        · rw [List.pairwise_cons] at hR
          have hyp := hR.1 y hy'
          have hpx := hRD p List.mem_cons_self x List.mem_cons_self
          simp only [Kv.it, Prod.mk.injEq] at hyg
          obtain ⟨g1, g2⟩ := group_between y.ok p.ok x.ok hyg.1 hyg.2 hyp hpx
          show (p.K.ep, p.K.srt) = (x.K.ep, x.K.srt)
          rw [g1, g2, hyg.1, hyg.2]
    · cases R with
      | nil => cases hp
      | cons q R =>
        simp only [List.head?_cons, Option.map_some, Option.some.injEq] at hp
        subst hp
        have hqx := hRD q List.mem_cons_self x List.mem_cons_self
        simp only [Kv.it, Prod.mk.injEq] at hg
        exact ⟨group_order q.ok x.ok hg.1 hg.2 hqx, by show dead.contains (x.K.ep : Int) = dead.contains (q.K.ep : Int); rw [hg.1]⟩
    · exact ord_of dead D (x :: R) (fun y hy z hz => by
        rcases List.mem_cons.1 hy with rfl | hy
        · exact hD.1 z hz
        · exact hRD y hy z (List.mem_cons_of_mem _ hz)) (List.pairwise_cons.2 ⟨fun y hy => hRD y hy x List.mem_cons_self, hR⟩) hD.2
/-- What is seen behind a compaction, of keys in order. -/
theorem sees_kv (dead : List Int) (floor s : Int) (hs : floor ≤ s) (bottom : Bool) (D : List Kv) (hD : D.Pairwise (fun a b => bytesLess a.key b.key = true)) :
    Sees.view s none (Sees.keep floor bottom none false (D.map (Kv.it dead))) = (Sees.view s none (D.map (Kv.it dead))).filter (fun x => !x.dead) :=
  Sees.sees floor s hs bottom (D.map (Kv.it dead)) [] none none false none none (ord_of dead D [] (fun y hy => by cases hy) List.Pairwise.nil hD) (fun g h => by cases h) (fun g h => by cases h) (fun g h => by cases h) (fun p h => by cases h) (fun p h => by cases h)
end Go.Lec
