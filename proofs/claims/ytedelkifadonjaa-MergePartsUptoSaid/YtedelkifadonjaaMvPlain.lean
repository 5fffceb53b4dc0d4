/- Layer 23: what is seen of pairs in order, part by part; the newest of a key: plain laws. Nothing here speaks of the program. -/
import Derived.Test.YtedelkifadonjaaMgPlain
import Derived.Test.YtedelkifadonjaaSeG
namespace Go.Lec
open Go.Op
theorem srt_takeWhile {E : List UInt8 → Bool} (hE : Down E) : ∀ {l : List PairB}, Srt l → l.takeWhile (fun p => E p.1) = l.filter (fun p => E p.1)
  | [], _ => rfl
  | x :: l, h => by
    obtain ⟨h1, h2⟩ := List.pairwise_cons.1 h
    rw [List.takeWhile_cons, List.filter_cons]
    split
    · rw [srt_takeWhile hE h2]
    · rename_i hx
      symm
      rw [List.filter_eq_nil_iff]
      intro y hy he
      exact hx (hE _ _ he (h1 y hy))
theorem less_down (k : List UInt8) : Down (fun x => bytesLess x k) := fun _ _ h1 h2 => less_trans h2 h1
/-- Below the end, if there is one. -/
def ends (upt : List UInt8) (k : List UInt8) : Bool := !(decide (0 < upt.length) && !(bytesLess k upt))
theorem ends_down (upt : List UInt8) : Down (ends upt) := by
  intro a b hb ha
  unfold ends at *
  cases hd : decide (0 < upt.length) with
  | false => rfl
  | true =>
    rw [hd] at hb
    simp only [Bool.true_and, Bool.not_not] at hb ⊢
    exact less_trans ha hb
theorem inR_eq (frm upt : List UInt8) (p : PairB) : inR frm upt p = (!(bytesLess p.1 frm) && ends upt p.1) := rfl
theorem filter_ge {l : List PairB} (h : Srt l) (frm : List UInt8) : l.drop (posD (fun k => bytesLess k frm) l) = l.filter (fun p => !(bytesLess p.1 frm)) := by
  have e : l = l.takeWhile (fun p => bytesLess p.1 frm) ++ l.drop (posD (fun k => bytesLess k frm) l) := by
    obtain ⟨t, ht⟩ := List.takeWhile_prefix (p := fun p : PairB => bytesLess p.1 frm) (l := l)
    have : l.drop (posD (fun k => bytesLess k frm) l) = t := by
      conv => lhs; rw [← ht]
      have : posD (fun k => bytesLess k frm) (List.takeWhile (fun p : PairB => bytesLess p.1 frm) l ++ t) = (List.takeWhile (fun p : PairB => bytesLess p.1 frm) l).length := by rw [ht]; rfl
      rw [this, List.drop_left]
    rw [this, ht]
  have h1 : (l.takeWhile (fun p => bytesLess p.1 frm)).filter (fun p => !(bytesLess p.1 frm)) = [] := by
    rw [List.filter_eq_nil_iff]
    intro a ha
    have := List.all_takeWhile (p := fun p : PairB => bytesLess p.1 frm) (l := l)
    rw [List.all_eq_true] at this
    simp [this a ha]
  have h2 : (l.drop (posD (fun k => bytesLess k frm) l)).filter (fun p => !(bytesLess p.1 frm)) = l.drop (posD (fun k => bytesLess k frm) l) := by
    rw [List.filter_eq_self]
    intro a ha
    obtain ⟨i, hi, rfl⟩ := List.getElem_of_mem ha
    rw [List.getElem_drop]
    rw [List.length_drop] at hi
    have hlt : posD (fun k => bytesLess k frm) l < l.length := by omega
    have h3 := posD_at hlt
    have h4 := srt_le h hlt (j := posD (fun k => bytesLess k frm) l + i) (by omega) (by omega)
    cases hc : bytesLess (l[posD (fun k => bytesLess k frm) l + i]'(by omega)).1 frm with
    | false => rfl
    | true => rw [nless_less h4 hc] at h3; cases h3
  conv => rhs; rw [e, List.filter_append, h1, List.nil_append, h2]
/-- From one key to another: by going on from the first until the other. -/
theorem part_law {l : List PairB} (h : Srt l) (frm upt : List UInt8) : (l.drop (posD (fun k => bytesLess k frm) l)).takeWhile (fun p => ends upt p.1) = l.filter (inR frm upt) := by
  have hs : Srt (l.drop (posD (fun k => bytesLess k frm) l)) := List.Pairwise.sublist (List.drop_sublist _ _) h
  rw [srt_takeWhile (ends_down upt) hs, filter_ge h, List.filter_filter]
  apply List.filter_congr
  intro p _
  rw [inR_eq, Bool.and_comm]
theorem parts_law {l : List PairB} (h : Srt l) {frm mid upt : List UInt8} (hm : 0 < mid.length) (h1 : bytesLess mid frm = false) (h2 : 0 < upt.length → bytesLess upt mid = false) : l.filter (inR frm upt) = l.filter (inR frm mid) ++ l.filter (inR mid upt) := by
  have e := List.takeWhile_append_dropWhile (p := fun p : PairB => bytesLess p.1 mid) (l := l)
  have hd : l.dropWhile (fun p => bytesLess p.1 mid) = l.filter (fun p => !(bytesLess p.1 mid)) := by
    rw [← filter_ge h]
    have : l.drop (posD (fun k => bytesLess k mid) l) = l.dropWhile (fun p => bytesLess p.1 mid) := by
      conv => lhs; rw [← e]
      have : posD (fun k => bytesLess k mid) (List.takeWhile (fun p : PairB => bytesLess p.1 mid) l ++ l.dropWhile (fun p => bytesLess p.1 mid)) = (List.takeWhile (fun p : PairB => bytesLess p.1 mid) l).length := by rw [e]; rfl
      rw [this, List.drop_left]
    exact this.symm
  have ht := srt_takeWhile (less_down mid) h
  conv => lhs; rw [← e, ht, hd, List.filter_append, List.filter_filter, List.filter_filter]
  congr 1
  · apply List.filter_congr
    intro p _
    rw [inR_eq, inR_eq]
    unfold ends
    rw [decide_eq_true hm, Bool.true_and, Bool.not_not]
    cases hp : bytesLess p.1 mid with
    | false => simp
    | true =>
      cases hu : decide (0 < upt.length) with
      | false => simp
      | true =>
        have : bytesLess p.1 upt = true := less_nless hp (h2 (of_decide_eq_true hu))
        simp [this]
  · apply List.filter_congr
    intro p _
    rw [inR_eq, inR_eq]
    cases hp : bytesLess p.1 mid with
    | true => simp
    | false =>
      have : bytesLess p.1 frm = false := nless_trans h1 hp
      simp [this]
/-! ### Part by part -/
/-- The group of a pair that is a key. -/
def grp (p : PairB) : Option (Nat × List UInt8) := match dec p.1 with | .ok K => some (K.ep, K.srt) | .error _ => none
theorem viewP_app (s : Int) : ∀ (a : List PairB) (last : Option (Nat × List UInt8)) (b : List PairB), ∃ last', (last' = last ∨ ∃ p ∈ a, last' = grp p ∧ last' ≠ none) ∧ viewP s last (a ++ b) = viewP s last a ++ viewP s last' b
  | [], last, b => ⟨last, .inl rfl, by simp [viewP]⟩
  | p :: a, last, b => by
    have lift : ∀ l0 : Option (Nat × List UInt8), (l0 = last ∨ (l0 = grp p ∧ l0 ≠ none)) → ∀ last', (last' = l0 ∨ ∃ q ∈ a, last' = grp q ∧ last' ≠ none) → (last' = last ∨ ∃ q ∈ p :: a, last' = grp q ∧ last' ≠ none) := by
      rintro l0 h0 last' (rfl | ⟨q, hq, h1⟩)
      · rcases h0 with h0 | h0
        · exact .inl h0
        · exact .inr ⟨p, List.mem_cons_self, h0⟩
      · exact .inr ⟨q, List.mem_cons_of_mem _ hq, h1⟩
    cases hd : dec p.1 with
    | error e =>
      obtain ⟨l', h1, h2⟩ := viewP_app s a last b
      refine ⟨l', lift last (.inl rfl) l' h1, ?_⟩
      rw [List.cons_append, viewP_err hd, viewP_err hd, h2]
    | ok K =>
      have hg : grp p = some (K.ep, K.srt) := by unfold grp; rw [hd]
      by_cases hs : s < K.sq
      · obtain ⟨l', h1, h2⟩ := viewP_app s a last b
        refine ⟨l', lift last (.inl rfl) l' h1, ?_⟩
        rw [List.cons_append, viewP_high hd hs, viewP_high hd hs, h2]
      · by_cases hl : last = some (K.ep, K.srt)
        · obtain ⟨l', h1, h2⟩ := viewP_app s a last b
          refine ⟨l', lift last (.inl rfl) l' h1, ?_⟩
          rw [List.cons_append, viewP_same hd hs hl, viewP_same hd hs hl, h2]
        · obtain ⟨l', h1, h2⟩ := viewP_app s a (some (K.ep, K.srt)) b
          refine ⟨l', lift (some (K.ep, K.srt)) (.inr ⟨hg.symm, by simp⟩) l' h1, ?_⟩
          rw [List.cons_append, viewP_new hd hs hl, viewP_new hd hs hl, h2, List.append_assoc]
theorem viewP_none (s : Int) : ∀ (b : List PairB) (g : Option (Nat × List UInt8)), (∀ p ∈ b, g = grp p → g = none) → viewP s g b = viewP s none b
  | [], g, _ => by simp [viewP]
  | p :: b, g, h => by
    have hb := fun q hq => h q (List.mem_cons_of_mem _ hq)
    cases hd : dec p.1 with
    | error e => rw [viewP_err hd, viewP_err hd, viewP_none s b g hb]
    | ok K =>
      have hg : grp p = some (K.ep, K.srt) := by unfold grp; rw [hd]
      by_cases hs : s < K.sq
      · rw [viewP_high hd hs, viewP_high hd hs, viewP_none s b g hb]
      · have hl : ¬ g = some (K.ep, K.srt) := fun e => by
          have := h p List.mem_cons_self (e.trans hg.symm)
          rw [this] at e; cases e
        rw [viewP_new hd hs hl, viewP_new hd hs (by simp)]
/-- What keys begin with: an epoch's two bytes, or an epoch's and a sort key's. -/
inductive MidOk : List UInt8 → Prop
  | ep (e : Nat) : MidOk (be 2 e)
  | pre (e : Nat) (srt : List UInt8) : MidOk (be 2 e ++ escT srt)
theorem MidOk.pos {m : List UInt8} (h : MidOk m) : 0 < m.length := by
  cases h with
  | ep e => simp [be_length]
  | pre e s => simp [be_length]; omega
theorem pre_not_less (P a : List UInt8) : bytesLess (P ++ a) P = false := by
  have := less_pre P a []
  rw [List.append_nil] at this
  rw [this]
  cases a <;> rfl
theorem less_pre_false {P a : List UInt8} : bytesLess (P ++ a) (P ++ []) = false := by rw [List.append_nil]; exact pre_not_less P a
/-- Keys of a group stand all on one side of such a place. -/
theorem mid_parts {mid a c : List UInt8} {K M : Key} (hm : MidOk mid) (ha : dec a = .ok K) (hc : dec c = .ok M) (he : K.ep = M.ep) (hs : K.srt = M.srt) (h1 : bytesLess a mid = true) (h2 : bytesLess c mid = false) : False := by
  obtain ⟨r, ea, k1, _, _⟩ := key_shape ha
  obtain ⟨t, ec, _, _, _⟩ := key_shape hc
  rw [← he, ← hs] at ec
  -- 'mid' lies between two that begin alike
  have hb : ∃ b', mid = (be 2 K.ep ++ escT K.srt) ++ b' := by
    rcases less_total mid c with g | g | g
    · exact between (be 2 K.ep ++ escT K.srt) (be 6 (281474976710655 - K.sq).toNat ++ r) mid (be 6 (281474976710655 - M.sq).toNat ++ t) (by rw [List.append_assoc, ← ea]; exact h1) (by rw [List.append_assoc, ← ec]; exact g)
    · exact ⟨_, by rw [g, ec, List.append_assoc]⟩
    · rw [g] at h2; cases h2
  obtain ⟨b', hb'⟩ := hb
  have hnil : b' = [] := by
    cases hm with
    | ep e =>
      have h3 := congrArg List.length hb'
      have h2 : 0 < (escT K.srt).length := by unfold escT; simp
      rw [List.length_append, List.length_append, be_length, be_length] at h3
      omega
    | pre e srt =>
      rw [List.append_assoc] at hb'
      have e3 := congrArg (List.drop 2) hb'
      rw [List.drop_left' (by simp [be_length]), List.drop_left' (by simp [be_length])] at e3
      have u1 := unesc_escT srt []
      have u2 := unesc_escT K.srt b'
      rw [List.append_nil, e3, u2] at u1
      simp only [Option.some.injEq, Prod.mk.injEq] at u1
      have hl := congrArg List.length e3
      rw [List.length_append, u1.1] at hl
      exact List.length_eq_zero_iff.1 (by omega)
  subst hnil
  rw [List.append_nil] at hb'
  rw [ea, ← List.append_assoc, hb', pre_not_less] at h1
  cases h1
theorem view_parts {l : List PairB} (h : Srt l) (s : Int) {frm mid upt : List UInt8} (hm : MidOk mid) (h1 : bytesLess mid frm = false) (h2 : 0 < upt.length → bytesLess upt mid = false) :
    viewP s none (l.filter (inR frm upt)) = viewP s none (l.filter (inR frm mid)) ++ viewP s none (l.filter (inR mid upt)) := by
  rw [parts_law h hm.pos h1 h2]
  obtain ⟨last', g1, g2⟩ := viewP_app s (l.filter (inR frm mid)) none (l.filter (inR mid upt))
  rw [g2]
  congr 1
  rcases g1 with rfl | ⟨p, hp, hpg, hpn⟩
  · rfl
  · refine viewP_none s _ _ fun q hq hqg => ?_
    exfalso
    have hp1 := (List.mem_filter.1 hp).2
    have hq1 := (List.mem_filter.1 hq).2
    rw [inR_eq] at hp1 hq1
    simp only [Bool.and_eq_true, Bool.not_eq_true'] at hp1 hq1
    have hpm : bytesLess p.1 mid = true := by
      have := hp1.2
      unfold ends at this
      rw [decide_eq_true hm.pos] at this
      simpa using this
    unfold grp at hpg hqg
    cases hd : dec p.1 with
    | error e => rw [hd] at hpg; exact hpn hpg
    | ok K =>
      cases hd2 : dec q.1 with
      | error e => rw [hd2] at hqg; exact hpn hqg
      | ok M =>
        rw [hd] at hpg; rw [hd2] at hqg
        simp only at hpg hqg
        rw [hpg] at hqg
        simp only [Option.some.injEq, Prod.mk.injEq] at hqg
        exact mid_parts hm hd hd2 hqg.1 hqg.2 hpm hq1.1
/-! ### The newest -/
theorem key_shape1 {l : List UInt8} {K : Key} (h : dec l = .ok K) : ∃ x r, l = be 2 K.ep ++ (escT K.srt ++ (be 6 (281474976710655 - K.sq).toNat ++ x :: r)) ∧ K.ep < 65536 ∧ 0 ≤ K.sq ∧ K.sq ≤ 281474976710655 := by
  obtain ⟨r, h1, h2⟩ := key_shape h
  cases r with
  | cons x r => exact ⟨x, r, h1, h2⟩
  | nil =>
    exfalso
    unfold dec at h
    split at h
    · cases h
    · have hdr : l.drop 2 = escT K.srt ++ be 6 (281474976710655 - K.sq).toNat := by
        conv => lhs; rw [h1]
        rw [List.drop_left' (by simp [be_length]), List.append_nil]
      rw [hdr, unesc_escT] at h
      simp only at h
      rw [List.drop_left' rfl] at h
      rw [if_neg (by simp [be_length])] at h
      rw [show (be 6 (281474976710655 - K.sq).toNat).drop 6 = [] from List.drop_eq_nil_of_le (by simp [be_length])] at h
      cases h
/-- Whether a key is of an epoch and sort key, at a number at most. -/
def isOf (ep : Nat) (srt : List UInt8) (s : Int) (K : Key) : Bool := K.ep == ep && (K.srt == srt && decide (K.sq ≤ s))
/-- The first of them. -/
def newestP (ep : Nat) (srt : List UInt8) (s : Int) : List PairB → Option (Key × List UInt8)
  | [] => none
  | p :: l => match dec p.1 with
    | .error _ => newestP ep srt s l
    | .ok K => if isOf ep srt s K then some (K, p.2) else newestP ep srt s l
/-- By going on from a place while keys begin so. -/
def newestF (pre : List UInt8) : List PairB → Option (Key × List UInt8)
  | [] => none
  | p :: l => if pre.isPrefixOf p.1 then (match dec p.1 with | .error _ => newestF pre l | .ok K => some (K, p.2)) else none
theorem isOf_place {a : List UInt8} {K : Key} {ep : Nat} {srt : List UInt8} {s : Int} (hk : dec a = .ok K) (he : ep < 65536) (h0 : 0 ≤ s) (h1 : s ≤ 281474976710655) :
    isOf ep srt s K = ((be 2 ep ++ escT srt).isPrefixOf a && !(bytesLess a (be 2 ep ++ escT srt ++ stampB s ++ [0]))) := by
  obtain ⟨x, r, ea, k1, k2, k3⟩ := key_shape1 hk
  by_cases hp : (be 2 ep ++ escT srt).isPrefixOf a = true
  · have hpre : K.ep = ep ∧ K.srt = srt := by
      obtain ⟨b', hb'⟩ := List.isPrefixOf_iff_prefix.1 hp
      rw [ea, List.append_assoc] at hb'
      have e2 : be 2 ep = be 2 K.ep := by
        have := congrArg (List.take 2) hb'
        rwa [List.take_left' (by simp [be_length]), List.take_left' (by simp [be_length])] at this
      have e3 := congrArg (List.drop 2) hb'
      rw [List.drop_left' (by simp [be_length]), List.drop_left' (by simp [be_length])] at e3
      have u1 := unesc_escT srt b'
      have u2 := unesc_escT K.srt (be 6 (281474976710655 - K.sq).toNat ++ x :: r)
      rw [e3, u2] at u1
      simp only [Option.some.injEq, Prod.mk.injEq] at u1
      exact ⟨(be2_inj he k1 e2).symm, u1.1⟩
    obtain ⟨rfl, rfl⟩ := hpre
    rw [hp]
    have hl : bytesLess a (be 2 K.ep ++ escT K.srt ++ stampB s ++ [0]) = decide (s < K.sq) := by
      rw [ea]
      unfold stampB
      rw [List.append_assoc, List.append_assoc, less_pre, less_pre, less_be, pow6, Nat.mod_eq_of_lt (by omega), Nat.mod_eq_of_lt (by omega)]
      split
      · rename_i e
        have : s = K.sq := by omega
        rw [decide_eq_false (by omega)]
        have hx : bytesLess (x :: r) [0] = false := by
          simp only [bytesLess, Bool.and_false, Bool.or_false, decide_eq_false_iff_not]
          intro h; have := UInt8.lt_iff_toNat_lt.1 h; simp at this
        exact hx
      · rename_i e
        congr 1
        exact propext ⟨fun h => by omega, fun h => by omega⟩
    rw [hl]
    unfold isOf
    simp only [beq_self_eq_true, Bool.true_and]
    by_cases hc : s < K.sq
    · rw [decide_eq_true hc, decide_eq_false (by omega)]; rfl
    · rw [decide_eq_false hc, decide_eq_true (by omega)]; rfl
  · have hf : isOf ep srt s K = false := by
      cases hi : isOf ep srt s K with
      | false => rfl
      | true =>
        exfalso
        unfold isOf at hi
        simp only [Bool.and_eq_true, beq_iff_eq, decide_eq_true_eq] at hi
        obtain ⟨rfl, rfl, _⟩ := hi
        apply hp
        rw [List.isPrefixOf_iff_prefix, ea]
        exact ⟨_, by rw [List.append_assoc]⟩
    rw [hf]
    simp only [Bool.not_eq_true] at hp
    rw [hp]; rfl
theorem newestP_skip {ep : Nat} {srt : List UInt8} {s : Int} : ∀ {l m : List PairB}, (∀ p ∈ l, ∀ K, dec p.1 = .ok K → isOf ep srt s K = false) → newestP ep srt s (l ++ m) = newestP ep srt s m
  | [], _, _ => rfl
  | p :: l, m, h => by
    have hl := newestP_skip (l := l) (m := m) fun q hq => h q (List.mem_cons_of_mem _ hq)
    rw [List.cons_append, newestP]
    cases hd : dec p.1 with
    | error e => exact hl
    | ok K =>
      simp only
      rw [h p List.mem_cons_self K hd]
      exact hl
theorem newest_law {l : List PairB} (h : Srt l) {ep : Nat} {srt : List UInt8} {s : Int} (he : ep < 65536) (h0 : 0 ≤ s) (h1 : s ≤ 281474976710655) :
    newestF (be 2 ep ++ escT srt) (l.drop (posD (fun k => bytesLess k (be 2 ep ++ escT srt ++ stampB s ++ [0])) l)) = newestP ep srt s l := by
  obtain ⟨frm, hf⟩ : ∃ f, f = be 2 ep ++ escT srt ++ stampB s ++ [0] := ⟨_, rfl⟩
  have hpl := fun (a : List UInt8) (K : Key) (hk : dec a = .ok K) => isOf_place (srt := srt) hk he h0 h1
  rw [← hf] at hpl ⊢
  have e := List.take_append_drop (posD (fun k => bytesLess k frm) l) l
  have hskip : newestP ep srt s l = newestP ep srt s (l.drop (posD (fun k => bytesLess k frm) l)) := by
    conv => lhs; rw [← e]
    refine newestP_skip fun p hp K hk => ?_
    obtain ⟨i, hi, rfl⟩ := List.getElem_of_mem hp
    rw [List.length_take] at hi
    rw [List.getElem_take] at hk
    have := posD_lt (D := fun k => bytesLess k frm) (l := l) (i := i) (by omega) (by omega)
    rw [hpl _ K hk, this]
    simp
  rw [hskip]
  have hd : ∀ p ∈ l.drop (posD (fun k => bytesLess k frm) l), bytesLess p.1 frm = false := by
    intro p hp
    rw [filter_ge h] at hp
    simpa using (List.mem_filter.1 hp).2
  have hsd : Srt (l.drop (posD (fun k => bytesLess k frm) l)) := List.Pairwise.sublist (List.drop_sublist _ _) h
  clear hskip e
  generalize l.drop (posD (fun k => bytesLess k frm) l) = m at hd hsd
  induction m with
  | nil => rfl
  | cons p m ih =>
    obtain ⟨s1, s2⟩ := List.pairwise_cons.1 hsd
    have hp := hd p List.mem_cons_self
    have ih := ih (fun q hq => hd q (List.mem_cons_of_mem _ hq)) s2
    rw [newestF]
    by_cases hpre : (be 2 ep ++ escT srt).isPrefixOf p.1 = true
    · rw [if_pos hpre, newestP]
      cases hk : dec p.1 with
      | error e => exact ih
      | ok K =>
        simp only
        rw [hpl _ K hk, hpre, hp]
        rfl
    · rw [if_neg hpre]
      have hno : ∀ q ∈ p :: m, ∀ K, dec q.1 = .ok K → isOf ep srt s K = false := by
        intro q hq K hk
        rw [hpl _ K hk]
        have : (be 2 ep ++ escT srt).isPrefixOf q.1 = false := by
          cases hi : (be 2 ep ++ escT srt).isPrefixOf q.1 with
          | false => rfl
          | true =>
            exfalso
            rcases List.mem_cons.1 hq with rfl | hq
            · exact hpre hi
            · obtain ⟨c, hc⟩ := List.isPrefixOf_iff_prefix.1 hi
              have hpq := s1 q hq
              rw [← hc] at hpq
              apply hpre
              rcases less_total frm p.1 with g | g | g
              · rw [hf, List.append_assoc (be 2 ep ++ escT srt)] at g
                obtain ⟨b', hb'⟩ := between _ _ _ _ g hpq
                rw [hb', List.isPrefixOf_iff_prefix]
                exact List.prefix_append _ _
              · rw [← g, hf, List.isPrefixOf_iff_prefix, List.append_assoc (be 2 ep ++ escT srt)]
                exact List.prefix_append _ _
              · rw [g] at hp; cases hp
        rw [this]; rfl
      have := newestP_skip (m := []) hno
      rw [List.append_nil] at this
      rw [this]
      rfl
end Go.Lec
