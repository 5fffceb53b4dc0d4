/- Layer 24: what a compaction keeps shows each reader what it saw: the plain law, over entries in order. Nothing here speaks of the program. -/
import Derived.ProofKit
namespace Go.Lec
namespace Sees
/-- An entry: its group (epoch and sort key), its number, whether it puts, whether its epoch is dead. -/
structure It (G α : Type) where
  g : G
  sq : Int
  put : Bool
  dead : Bool
  v : α
variable {G α : Type} [DecidableEq G]
/-- What is kept: the group at hand, and whether something at the floor was seen. -/
def keep (floor : Int) (bottom : Bool) : Option G → Bool → List (It G α) → List (It G α)
  | _, _, [] => []
  | last, done, x :: xs =>
    if x.dead then keep floor bottom last done xs
    else
      let done' := if last = some x.g then done else false
      if floor < x.sq then x :: keep floor bottom (some x.g) done' xs
      else if !done' && !(bottom && !x.put) then x :: keep floor bottom (some x.g) true xs
      else keep floor bottom (some x.g) true xs
/-- What is seen at a number. -/
def view (s : Int) : Option G → List (It G α) → List (It G α)
  | _, [] => []
  | last, x :: xs =>
    if s < x.sq then view s last xs
    else if last = some x.g then view s last xs
    else if x.put then x :: view s (some x.g) xs else view s (some x.g) xs
/-- Groups stand together; within one the numbers go down; an epoch is dead or not for all of a group. -/
def Ord (seen : List G) : Option (It G α) → List (It G α) → Prop
  | _, [] => True
  | prev, x :: xs => (x.g ∈ seen → ∃ p, prev = some p ∧ p.g = x.g) ∧ (∀ p, prev = some p → p.g = x.g → x.sq ≤ p.sq ∧ x.dead = p.dead) ∧ Ord (x.g :: seen) (some x) xs

theorem sees (floor s : Int) (hs : floor ≤ s) (bottom : Bool) : ∀ (l : List (It G α)) (seen : List G) (prev : Option (It G α)) (k : Option G) (done : Bool) (l1 l2 : Option G),
    Ord seen prev l → (∀ g, k = some g → g ∈ seen) → (∀ g, l1 = some g → g ∈ seen) → (∀ g, l2 = some g → g ∈ seen) →
    (∀ p, prev = some p → p.g ∈ seen) →
    (∀ p, prev = some p → p.dead = false → k = some p.g ∧ ((done = true ∧ l1 = some p.g ∧ p.sq ≤ floor) ∨ (done = false ∧ (l1 = some p.g ↔ l2 = some p.g)))) →
    view s l2 (keep floor bottom k done l) = (view s l1 l).filter (fun x => !x.dead) := by
  intro l
  induction l with
  | nil => intros; simp [keep, view]
  | cons x xs ih =>
    intro seen prev k done l1 l2 hO hk h1 h2 hp hinv
    obtain ⟨hseen, hprev, hrest⟩ := hO
    have hmem : ∀ {o : Option G}, (∀ g, o = some g → g ∈ seen) → ∀ g, o = some g → g ∈ x.g :: seen := fun h g e => List.mem_cons_of_mem _ (h g e)
    have hself : ∀ g, (some x.g : Option G) = some g → g ∈ x.g :: seen := fun g e => by cases e; exact List.mem_cons_self
    have hpx : ∀ p, some x = some p → p.g ∈ x.g :: seen := fun p e => by cases e; exact List.mem_cons_self
    cases hd : x.dead with
    | true =>
      rw [keep, if_pos hd]
      have hinv' : ∀ p, some x = some p → p.dead = false → k = some p.g ∧ ((done = true ∧ l1 = some p.g ∧ p.sq ≤ floor) ∨ (done = false ∧ (l1 = some p.g ↔ l2 = some p.g))) := fun p e h => by cases e; rw [hd] at h; cases h
      have hinv'' : ∀ p, some x = some p → p.dead = false → k = some p.g ∧ ((done = true ∧ (some x.g : Option G) = some p.g ∧ p.sq ≤ floor) ∨ (done = false ∧ ((some x.g : Option G) = some p.g ↔ l2 = some p.g))) := fun p e h => by cases e; rw [hd] at h; cases h
      rw [view]
      split
      · exact ih _ _ k done l1 l2 hrest (hmem hk) (hmem h1) (hmem h2) hpx hinv'
      · split
        · exact ih _ _ k done l1 l2 hrest (hmem hk) (hmem h1) (hmem h2) hpx hinv'
        · split
          · rw [List.filter_cons_of_neg (by simp [hd])]
            exact ih _ _ k done _ l2 hrest (hmem hk) hself (hmem h2) hpx hinv''
          · exact ih _ _ k done _ l2 hrest (hmem hk) hself (hmem h2) hpx hinv''
    | false =>
      rw [keep, if_neg (by simp [hd])]
      -- the group is that of the entry ahead, or a new one
      by_cases hg : ∃ p, prev = some p ∧ p.g = x.g
      · obtain ⟨p, rfl, hpg⟩ := hg
        obtain ⟨hsq, hdd⟩ := hprev p rfl hpg
        have hpd : p.dead = false := by rw [← hdd]; exact hd
        obtain ⟨hkp, hdn⟩ := hinv p rfl hpd
        rw [hpg] at hkp hdn
        simp only [hkp, if_true]
        rcases hdn with ⟨rfl, hl1, hpf⟩ | ⟨rfl, hiff⟩
        · -- done: dropped, and seen before
          rw [if_neg (by omega), if_neg (by simp), view, if_neg (by omega), if_pos hl1]
          exact ih _ _ _ _ _ _ hrest hself (hmem h1) (hmem h2) hpx (fun q e hq => by cases e; exact ⟨rfl, .inl ⟨rfl, hl1, by omega⟩⟩)
        · by_cases hf : floor < x.sq
          · rw [if_pos hf]
            by_cases hvs : s < x.sq
            · rw [view, if_pos hvs, view, if_pos hvs]
              exact ih _ _ _ _ _ _ hrest hself (hmem h1) (hmem h2) hpx (fun q e hq => by cases e; exact ⟨rfl, .inr ⟨rfl, hiff⟩⟩)
            · by_cases hl1 : l1 = some x.g
              · rw [view, if_neg hvs, if_pos (hiff.1 hl1), view, if_neg hvs, if_pos hl1]
                exact ih _ _ _ _ _ _ hrest hself (hmem h1) (hmem h2) hpx (fun q e hq => by cases e; exact ⟨rfl, .inr ⟨rfl, hiff⟩⟩)
              · rw [view, if_neg hvs, if_neg (fun h => hl1 (hiff.2 h)), view, if_neg hvs, if_neg hl1]
                have := ih _ _ (some x.g) false (some x.g) (some x.g) hrest hself hself hself hpx (fun q e hq => by cases e; exact ⟨rfl, .inr ⟨rfl, Iff.rfl⟩⟩)
                split
                · rw [List.filter_cons_of_pos (by simp [hd]), this]
                · exact this
          · rw [if_neg hf]
            have hvs : ¬ s < x.sq := by omega
            by_cases hb : bottom = true ∧ x.put = false
            · rw [if_neg (by simp [hb.1, hb.2])]
              by_cases hl1 : l1 = some x.g
              · rw [view, if_neg hvs, if_pos hl1]
                exact ih _ _ _ _ _ _ hrest hself (hmem h1) (hmem h2) hpx (fun q e hq => by cases e; exact ⟨rfl, .inl ⟨rfl, hl1, by omega⟩⟩)
              · rw [view, if_neg hvs, if_neg hl1, if_neg (by simp [hb.2])]
                exact ih _ _ _ _ _ _ hrest hself hself (hmem h2) hpx (fun q e hq => by cases e; exact ⟨rfl, .inl ⟨rfl, rfl, by omega⟩⟩)
            · rw [if_pos (by
                have : ¬ (bottom = true ∧ x.put = false) := hb
                cases bottom <;> cases hx : x.put <;> simp_all)]
              by_cases hl1 : l1 = some x.g
              · rw [view, if_neg hvs, if_pos (hiff.1 hl1), view, if_neg hvs, if_pos hl1]
                exact ih _ _ _ _ _ _ hrest hself (hmem h1) (hmem h2) hpx (fun q e hq => by cases e; exact ⟨rfl, .inl ⟨rfl, hl1, by omega⟩⟩)
              · rw [view, if_neg hvs, if_neg (fun h => hl1 (hiff.2 h)), view, if_neg hvs, if_neg hl1]
                have := ih _ _ (some x.g) true (some x.g) (some x.g) hrest hself hself hself hpx (fun q e hq => by cases e; exact ⟨rfl, .inl ⟨rfl, rfl, by omega⟩⟩)
                split
                · rw [List.filter_cons_of_pos (by simp [hd]), this]
                · exact this
      · have hns : x.g ∉ seen := fun h => hg (hseen h)
        have hk' : ¬ k = some x.g := fun h => hns (hk _ h)
        have hl1 : ¬ l1 = some x.g := fun h => hns (h1 _ h)
        have hl2 : ¬ l2 = some x.g := fun h => hns (h2 _ h)
        simp only [hk', if_false]
        by_cases hf : floor < x.sq
        · rw [if_pos hf]
          by_cases hvs : s < x.sq
          · rw [view, if_pos hvs, view, if_pos hvs]
            exact ih _ _ _ _ _ _ hrest hself (hmem h1) (hmem h2) hpx (fun q e hq => by cases e; exact ⟨rfl, .inr ⟨rfl, ⟨fun h => absurd h hl1, fun h => absurd h hl2⟩⟩⟩)
          · rw [view, if_neg hvs, if_neg hl2, view, if_neg hvs, if_neg hl1]
            have := ih _ _ (some x.g) false (some x.g) (some x.g) hrest hself hself hself hpx (fun q e hq => by cases e; exact ⟨rfl, .inr ⟨rfl, Iff.rfl⟩⟩)
            split
            · rw [List.filter_cons_of_pos (by simp [hd]), this]
            · exact this
        · rw [if_neg hf]
          have hvs : ¬ s < x.sq := by omega
          by_cases hb : bottom = true ∧ x.put = false
          · rw [if_neg (by simp [hb.1, hb.2]), view, if_neg hvs, if_neg hl1, if_neg (by simp [hb.2])]
            exact ih _ _ _ _ _ _ hrest hself hself (hmem h2) hpx (fun q e hq => by cases e; exact ⟨rfl, .inl ⟨rfl, rfl, by omega⟩⟩)
          · rw [if_pos (by
              have : ¬ (bottom = true ∧ x.put = false) := hb
              cases bottom <;> cases hx : x.put <;> simp_all)]
            rw [view, if_neg hvs, if_neg hl2, view, if_neg hvs, if_neg hl1]
            have := ih _ _ (some x.g) true (some x.g) (some x.g) hrest hself hself hself hpx (fun q e hq => by cases e; exact ⟨rfl, .inl ⟨rfl, rfl, by omega⟩⟩)
            split
            · rw [List.filter_cons_of_pos (by simp [hd]), this]
            · exact this
end Sees
end Go.Lec
