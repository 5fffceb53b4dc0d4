/- Layers 23, 24: pairs in order; what is kept of them, what is seen of them: the plain law. Nothing here speaks of the program. -/
import Derived.Test.YtedelkifadonjaaKeyOrd
namespace Go.Lec
open Go.Op
/-- A pair: key, value. -/
abbrev PairB := List UInt8 × List UInt8
theorem less_trans : ∀ {a b c : List UInt8}, bytesLess a b = true → bytesLess b c = true → bytesLess a c = true
  | _, [], _, h, _ => by simp [bytesLess] at h
  | _, _ :: _, [], _, h => by simp [bytesLess] at h
  | [], _ :: _, _ :: _, _, _ => rfl
  | a :: x, b :: y, c :: z, h1, h2 => by
    simp only [bytesLess, Bool.or_eq_true, Bool.and_eq_true, decide_eq_true_eq, beq_iff_eq] at h1 h2 ⊢
    rcases h1 with h1 | ⟨rfl, h1⟩
    · rcases h2 with h2 | ⟨rfl, _⟩
      · left
        have := UInt8.lt_iff_toNat_lt.1 h1
        have := UInt8.lt_iff_toNat_lt.1 h2
        exact UInt8.lt_iff_toNat_lt.2 (by omega)
      · exact .inl h1
    · rcases h2 with h2 | ⟨rfl, h2⟩
      · exact .inl h2
      · exact .inr ⟨rfl, less_trans h1 h2⟩
theorem less_total : ∀ (a b : List UInt8), bytesLess a b = true ∨ a = b ∨ bytesLess b a = true
  | [], [] => .inr (.inl rfl)
  | [], _ :: _ => .inl rfl
  | _ :: _, [] => .inr (.inr rfl)
  | a :: x, b :: y => by
    simp only [bytesLess, Bool.or_eq_true, Bool.and_eq_true, decide_eq_true_eq, beq_iff_eq, List.cons.injEq]
    by_cases h : a = b
    · subst h
      rcases less_total x y with h | h | h
      · exact .inl (.inr ⟨rfl, h⟩)
      · exact .inr (.inl ⟨rfl, h⟩)
      · exact .inr (.inr (.inr ⟨rfl, h⟩))
    · have hn : a.toNat ≠ b.toNat := fun e => h (UInt8.toNat_inj.1 e)
      rcases Nat.lt_or_gt_of_ne hn with h1 | h1
      · exact .inl (.inl (UInt8.lt_iff_toNat_lt.2 h1))
      · exact .inr (.inr (.inl (UInt8.lt_iff_toNat_lt.2 h1)))
/-- In strict order. -/
def Srt (l : List PairB) : Prop := l.Pairwise fun a b => bytesLess a.1 b.1 = true
/-- Where a key goes in. -/
def slot (out : List PairB) (key : List UInt8) : Nat → Nat
  | 0 => 0
  | n + 1 => if bytesLess key (out.getD n ([], [])).1 then slot out key n else n + 1
theorem slot_le (out : List PairB) (key : List UInt8) : ∀ n, slot out key n ≤ n
  | 0 => Nat.le_refl _
  | n + 1 => by unfold slot; split; exact Nat.le_succ_of_le (slot_le out key n); exact Nat.le_refl _
/-- One pair goes in. -/
def putIn (out : List PairB) (p : PairB) : List PairB :=
  if 0 < slot out p.1 out.length ∧ (out.getD (slot out p.1 out.length - 1) ([], [])).1 = p.1 then out else out.take (slot out p.1 out.length) ++ p :: out.drop (slot out p.1 out.length)
/-- All pairs of a list, in order; of one key the first counts. -/
def allL (l : List PairB) : List PairB := l.foldl putIn []
theorem slot_above (out : List PairB) (key : List UInt8) : ∀ n, n ≤ out.length → ∀ i (h : i < out.length), slot out key n ≤ i → i < n → bytesLess key (out[i]).1 = true
  | 0, _, i, h, _, h2 => absurd h2 (Nat.not_lt_zero _)
  | n + 1, hn, i, h, h1, h2 => by
    unfold slot at h1
    split at h1
    · rename_i hl
      by_cases he : i = n
      · subst he
        rwa [List.getD_eq_getElem?_getD, List.getElem?_eq_getElem h] at hl
      · exact slot_above out key n (by omega) i h h1 (by omega)
    · omega
theorem slot_below (out : List PairB) (key : List UInt8) : ∀ n, n ≤ out.length → 0 < slot out key n → ∃ h : slot out key n - 1 < out.length, bytesLess key (out[slot out key n - 1]'h).1 = false
  | 0, _, h => absurd h (Nat.lt_irrefl _)
  | n + 1, hn, h => by
    by_cases hl : bytesLess key (out.getD n ([], [])).1 = true
    · have e : slot out key (n + 1) = slot out key n := by rw [slot, if_pos hl]
      rw [e] at h
      simp only [e]
      exact slot_below out key n (by omega) h
    · have e : slot out key (n + 1) = n + 1 := by rw [slot, if_neg hl]
      simp only [e]
      have h' : n < out.length := by omega
      refine ⟨h', ?_⟩
      rw [List.getD_eq_getElem?_getD, List.getElem?_eq_getElem h'] at hl
      simpa using hl
theorem putIn_srt {out : List PairB} (h : Srt out) (p : PairB) : Srt (putIn out p) := by
  unfold putIn
  split
  · exact h
  · rename_i hne
    have hk := slot_le out p.1 out.length
    have ha := slot_above out p.1 out.length (Nat.le_refl _)
    have hb := slot_below out p.1 out.length (Nat.le_refl _)
    generalize slot out p.1 out.length = k at *
    unfold Srt at *
    have hs : (out.take k ++ out.drop k).Pairwise (fun a b => bytesLess a.1 b.1 = true) := by rw [List.take_append_drop]; exact h
    obtain ⟨h1, h2, h3⟩ := List.pairwise_append.1 hs
    have hdrop : ∀ b ∈ out.drop k, bytesLess p.1 b.1 = true := by
      intro b hb'
      obtain ⟨i, hi, rfl⟩ := List.getElem_of_mem hb'
      rw [List.getElem_drop]
      rw [List.length_drop] at hi
      exact ha (k + i) (by omega) (by omega) (by omega)
    have htake : ∀ a ∈ out.take k, bytesLess a.1 p.1 = true := by
      intro a ha'
      obtain ⟨i, hi, rfl⟩ := List.getElem_of_mem ha'
      rw [List.length_take] at hi
      have hk0 : 0 < k := by omega
      obtain ⟨hl, hlast⟩ := hb hk0
      have hlt : bytesLess (out[k - 1]).1 p.1 = true := by
        rcases less_total (out[k - 1]).1 p.1 with h | h | h
        · exact h
        · exact absurd ⟨hk0, by rw [List.getD_eq_getElem?_getD, List.getElem?_eq_getElem hl]; exact h⟩ hne
        · rw [hlast] at h; cases h
      rw [List.getElem_take]
      by_cases he : i = k - 1
      · subst he; exact hlt
      · exact less_trans (List.pairwise_iff_getElem.1 h i (k - 1) (by omega) hl (by omega)) hlt
    refine List.pairwise_append.2 ⟨h1, List.pairwise_cons.2 ⟨hdrop, h2⟩, fun a ha' b hb' => ?_⟩
    rcases List.mem_cons.1 hb' with rfl | hb'
    · exact htake a ha'
    · exact h3 a ha' b hb'
theorem allL_srt (l : List PairB) : Srt (allL l) := by
  unfold allL
  suffices ∀ (l out : List PairB), Srt out → Srt (l.foldl putIn out) from this l [] List.Pairwise.nil
  intro l
  induction l with
  | nil => intro out h; exact h
  | cons p l ih => intro out h; exact ih _ (putIn_srt h p)
/-- What is kept. -/
def keepP (floor : Int) (bottom : Bool) (dead : List Int) : Option (Nat × List UInt8) → Bool → List PairB → List PairB
  | _, _, [] => []
  | last, done, p :: ps => match dec p.1 with
    | .error _ => p :: keepP floor bottom dead last done ps
    | .ok K => if dead.contains (K.ep : Int) then keepP floor bottom dead last done ps
      else
        let done' := if last = some (K.ep, K.srt) then done else false
        if floor < K.sq then p :: keepP floor bottom dead (some (K.ep, K.srt)) done' ps
        else if !done' && !(bottom && decide (K.kd = 0)) then p :: keepP floor bottom dead (some (K.ep, K.srt)) true ps
        else keepP floor bottom dead (some (K.ep, K.srt)) true ps
/-- What is seen. -/
def viewP (s : Int) : Option (Nat × List UInt8) → List PairB → List (Key × List UInt8)
  | _, [] => []
  | last, p :: ps => match dec p.1 with
    | .error _ => viewP s last ps
    | .ok K => if s < K.sq then viewP s last ps
      else if last = some (K.ep, K.srt) then viewP s last ps
      else if K.kd = 1 then (K, p.2) :: viewP s (some (K.ep, K.srt)) ps else viewP s (some (K.ep, K.srt)) ps
theorem dec_kd {l : List UInt8} {K : Key} (h : dec l = .ok K) : K.kd = 0 ∨ K.kd = 1 := by
  unfold dec at h
  repeat' split at h
  all_goals first | cases h | skip
  all_goals (rename_i h1 _; dsimp only at *; omega)
/-- The entries that are keys. -/
def kvs : List PairB → List Kv
  | [] => []
  | p :: ps => match h : dec p.1 with
    | .error _ => kvs ps
    | .ok K => ⟨p.1, K, p.2, h⟩ :: kvs ps
theorem kvs_err {p : PairB} {ps : List PairB} {e : Int} (h : dec p.1 = .error e) : kvs (p :: ps) = kvs ps := by
  rw [kvs]
  split
  · rfl
  · rename_i K h'; rw [h] at h'; cases h'
theorem kvs_ok {p : PairB} {ps : List PairB} {K : Key} (h : dec p.1 = .ok K) : kvs (p :: ps) = ⟨p.1, K, p.2, h⟩ :: kvs ps := by
  rw [kvs]
  split
  · rename_i e h'; rw [h] at h'; cases h'
  · rename_i K' h'
    have : K' = K := by rw [h] at h'; cases h'; rfl
    subst this
    rfl
theorem kvs_mem {l : List PairB} {x : Kv} (h : x ∈ kvs l) : ∃ p ∈ l, p.1 = x.key := by
  induction l with
  | nil => cases h
  | cons p ps ih =>
    cases hd : dec p.1 with
    | error e =>
      rw [kvs_err hd] at h
      obtain ⟨q, hq, e⟩ := ih h
      exact ⟨q, List.mem_cons_of_mem _ hq, e⟩
    | ok K =>
      rw [kvs_ok hd] at h
      rcases List.mem_cons.1 h with rfl | h
      · exact ⟨p, List.mem_cons_self, rfl⟩
      · obtain ⟨q, hq, e⟩ := ih h
        exact ⟨q, List.mem_cons_of_mem _ hq, e⟩
theorem kvs_srt {l : List PairB} (h : Srt l) : (kvs l).Pairwise (fun a b => bytesLess a.key b.key = true) := by
  induction l with
  | nil => exact List.Pairwise.nil
  | cons p ps ih =>
    unfold Srt at h
    rw [List.pairwise_cons] at h
    cases hd : dec p.1 with
    | error e => rw [kvs_err hd]; exact ih h.2
    | ok K =>
      rw [kvs_ok hd]
      refine List.pairwise_cons.2 ⟨fun x hx => ?_, ih h.2⟩
      obtain ⟨q, hq, e⟩ := kvs_mem hx
      rw [← e]
      exact h.1 q hq
theorem keep_kvs (floor : Int) (bottom : Bool) (dead : List Int) : ∀ (l : List PairB) (last : Option (Nat × List UInt8)) (done : Bool),
    (kvs (keepP floor bottom dead last done l)).map (Kv.it dead) = Sees.keep floor bottom last done ((kvs l).map (Kv.it dead))
  | [], _, _ => rfl
  | p :: ps, last, done => by
    cases hd : dec p.1 with
    | error e =>
      rw [keepP, hd]
      dsimp only
      rw [kvs_err hd, kvs_err hd]
      exact keep_kvs floor bottom dead ps last done
    | ok K =>
      have hkd := dec_kd hd
      rw [keepP, hd]
      dsimp only
      rw [kvs_ok hd, List.map_cons, Sees.keep]
      have ih := keep_kvs floor bottom dead ps
      have hput : (!decide (K.kd = 1)) = decide (K.kd = 0) := by rcases hkd with h | h <;> simp [h]
      by_cases hdd : dead.contains (K.ep : Int) = true
      · rw [if_pos hdd, if_pos (by exact hdd)]
        exact ih last done
      · rw [if_neg hdd, if_neg (c := (Kv.it dead ⟨p.1, K, p.2, hd⟩).dead = true) hdd]
        dsimp only [Kv.it]
        simp only [hput]
        by_cases hf : floor < K.sq
        · simp only [hf, if_true]
          rw [kvs_ok hd, List.map_cons, ih]; rfl
        · simp only [hf, if_false]
          by_cases hl : last = some (K.ep, K.srt)
          · simp only [hl, if_true]
            by_cases hc : (!done && !(bottom && decide (K.kd = 0))) = true
            · simp only [hc, if_true]
              rw [kvs_ok hd, List.map_cons, ih]; rfl
            · simp only [hc]
              rw [if_neg (by decide), if_neg (by decide), ih]
          · simp only [hl, if_false]
            by_cases hc : (!false && !(bottom && decide (K.kd = 0))) = true
            · simp only [hc, if_true]
              rw [kvs_ok hd, List.map_cons, ih]; rfl
            · simp only [hc]
              rw [if_neg (by decide), if_neg (by decide), ih]
theorem view_kvs (s : Int) (dead : List Int) : ∀ (l : List PairB) (last : Option (Nat × List UInt8)), viewP s last l = (Sees.view s last ((kvs l).map (Kv.it dead))).map fun x => (x.v.K, x.v.val)
  | [], _ => rfl
  | p :: ps, last => by
    cases hd : dec p.1 with
    | error e =>
      rw [viewP, hd]
      dsimp only
      rw [kvs_err hd]
      exact view_kvs s dead ps last
    | ok K =>
      rw [viewP, hd]
      dsimp only
      rw [kvs_ok hd, List.map_cons, Sees.view]
      have ih := view_kvs s dead ps
      dsimp only [Kv.it]
      by_cases hf : s < K.sq
      · simp only [hf, if_true]
        exact ih last
      · simp only [hf, if_false]
        by_cases hl : last = some (K.ep, K.srt)
        · simp only [hl, if_true]
          exact ih _
        · simp only [hl, if_false]
          by_cases hk : K.kd = 1
          · simp only [hk, if_true, decide_true]
            rw [List.map_cons, ih]
          · simp only [hk, if_false, decide_false]
            rw [if_neg (by decide), ih]
theorem view_dead (s : Int) (dead : List Int) : ∀ (D : List (Sees.It (Nat × List UInt8) Kv)) (last : Option (Nat × List UInt8)), (∀ x ∈ D, x.dead = dead.contains (x.v.K.ep : Int)) → ∀ x ∈ Sees.view s last D, x.dead = dead.contains (x.v.K.ep : Int)
  | [], _, _, x, hx => by cases hx
  | y :: D, last, h, x, hx => by
    rw [Sees.view] at hx
    have ht := fun z hz => h z (List.mem_cons_of_mem _ hz)
    split at hx
    · exact view_dead s dead D _ ht x hx
    · split at hx
      · exact view_dead s dead D _ ht x hx
      · split at hx
        · rcases List.mem_cons.1 hx with rfl | hx
          · exact h _ List.mem_cons_self
          · exact view_dead s dead D _ ht x hx
        · exact view_dead s dead D _ ht x hx
/-- Behind a compaction each reader at a number of at least the floor sees what it saw, of all epochs but dead ones. -/
theorem sees_law (dead : List Int) (floor s : Int) (hs : floor ≤ s) (bottom : Bool) {l : List PairB} (hl : Srt l) :
    viewP s none (keepP floor bottom dead none false l) = (viewP s none l).filter fun x => !dead.contains (x.1.ep : Int) := by
  rw [view_kvs s dead, view_kvs s dead, keep_kvs, sees_kv dead floor s hs bottom (kvs l) (kvs_srt hl)]
  rw [List.filter_map]
  congr 1
  refine List.filter_congr fun x hx => ?_
  have := view_dead s dead _ none (fun y hy => by obtain ⟨z, _, rfl⟩ := List.mem_map.1 hy; rfl) x hx
  simp only [Function.comp_apply, this]
end Go.Lec
