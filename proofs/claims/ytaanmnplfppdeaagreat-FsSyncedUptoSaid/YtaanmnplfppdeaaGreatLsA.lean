/- Layer 1: what is settled is kept by a death: plain laws. Nothing here speaks of the program. -/
import Derived.Test.YtaanmnplfppdeaaGreatLfA
namespace Go.Fsy
/-- All that is, is safe. -/
structure Settled (s : St) : Prop where
  dir : s.safe = s.dir
  mvs : s.mvs = []
  chg : ∀ p ∈ s.dir, (ndAt s.nodes p.2).chg = []
theorem ndAt_put (nodes : List Nd) (i j : Nat) (n : Nd) : ndAt (nodes.set i n) j = if i = j ∧ i < nodes.length then n else ndAt nodes j := by
  unfold ndAt
  rw [List.getD_eq_getElem?_getD, List.getD_eq_getElem?_getD, List.getElem?_set]
  by_cases h : i = j
  · subst h
    by_cases h2 : i < nodes.length
    · simp [h2]
    · simp [h2]
  · simp [h]
theorem dieNames_keep {keep : List Int} {dir : Dir} (j : Nat) (xs : List Bs) (nodes : List Nd) (i : Nat) (h : (ndAt nodes j).chg = []) : (ndAt (dieNames keep dir xs nodes i).1 j).chg = [] := by
  induction xs generalizing nodes i with
  | nil => exact h
  | cons x xs ih =>
    rw [dieNames]
    split
    · exact ih _ _ h
    · refine ih _ _ ?_
      rw [ndAt_put]
      split
      · rfl
      · exact h
theorem dieNames_done {keep : List Int} {dir : Dir} {j : Nat} {x : Bs} (xs : List Bs) (nodes : List Nd) (i : Nat) (hx : x ∈ xs) (hn : node dir x = some j) (hj : j < nodes.length) : (ndAt (dieNames keep dir xs nodes i).1 j).chg = [] := by
  induction xs generalizing nodes i with
  | nil => cases hx
  | cons y xs ih =>
    rw [dieNames]
    rcases List.mem_cons.1 hx with rfl | hx
    · rw [hn]
      refine dieNames_keep j xs _ _ ?_
      rw [ndAt_put, if_pos ⟨rfl, hj⟩]
    · split
      · exact ih _ _ hx hj
      · exact ih _ _ hx (by rw [List.length_set]; exact hj)
theorem mem_namesOf {l : Dir} {x : Bs} : x ∈ namesOf l ↔ x ∈ l.map (·.1) := (List.mergeSort_perm _ _).mem_iff
theorem settled_die {s : St} {N : Nat} (h : Inv s N) : Settled (die s) := by
  have hd := dieDir_ok h
  refine ⟨rfl, rfl, fun p hp => ?_⟩
  have hp' : p ∈ dieDir s := hp
  exact dieNames_done (x := p.1) _ _ _ (mem_namesOf.2 (List.mem_map.2 ⟨p, hp', rfl⟩)) (node_of_mem hd.1 hp') (hd.2 p hp').2.2
theorem settled_live {s : St} (h : Settled s) (p : Pl) : Settled (live s p) := ⟨h.dir, h.mvs, h.chg⟩
/-- Whoever has died is settled. -/
def DiedOk (s : St) : Prop := s.died = true → Settled s
theorem begin_cases {s : St} {N : Nat} (h : Inv s N) (hd : DiedOk s) : DiedOk (Fsy.begin s).1 := by
  unfold Fsy.begin
  split
  · exact hd
  · rename_i h1
    split
    · exact fun _ => settled_die h.count
    · split <;> exact fun h2 => absurd h2 h1
theorem begin_live {s : St} (h : (Fsy.begin s).2 = 0) : (Fsy.begin s).1 = count s ∧ s.died = false := by
  unfold Fsy.begin at h ⊢
  split
  · rename_i h1; rw [if_pos h1] at h; exact absurd (show (12 : Int) = 0 from h) (by decide)
  · rename_i h1
    rw [if_neg h1] at h
    split
    · rename_i h2; rw [if_pos h2] at h; exact absurd (show (12 : Int) = 0 from h) (by decide)
    · rename_i h2
      rw [if_neg h2] at h
      split
      · rename_i h3; rw [if_pos h3] at h; exact absurd (show (10 : Int) = 0 from h) (by decide)
      · exact ⟨rfl, by simpa using h1⟩
theorem diedOk_alive {s : St} (h : s.died = false) : DiedOk s := fun h2 => by rw [h] at h2; cases h2
theorem doOp_diedOk {s : St} {N : Nat} (h : Inv s N) (hd : DiedOk s) (o : Opr) : DiedOk (doOp s o).1 := by
  have hb := begin_cases h hd
  have hl : (Fsy.begin s).2 = 0 → (Fsy.begin s).1.died = false := fun h0 => by rw [(begin_live h0).1]; exact (begin_live h0).2
  unfold Fsy.doOp
  split
  · unfold create
    split
    · exact hb
    · rename_i h0
      have h1 := hl (by simpa using h0)
      (repeat' split) <;> first | exact hb | exact diedOk_alive h1
  split
  · unfold append
    split
    · exact hb
    · rename_i h0
      have h1 := hl (by simpa using h0)
      (repeat' split) <;> first | exact hb | exact diedOk_alive h1
  split
  · unfold cutF
    split
    · exact hb
    · rename_i h0
      have h1 := hl (by simpa using h0)
      (repeat' split) <;> first | exact hb | exact diedOk_alive h1
  split
  · unfold sync
    split
    · exact hb
    · rename_i h0
      have h1 := hl (by simpa using h0)
      (repeat' split) <;> first | exact hb | exact diedOk_alive h1
  split
  · unfold rename
    split
    · exact hb
    · rename_i h0
      have h1 := hl (by simpa using h0)
      (repeat' split) <;> first | exact hb | exact diedOk_alive h1
  split
  · unfold remove
    split
    · exact hb
    · rename_i h0
      have h1 := hl (by simpa using h0)
      (repeat' split) <;> first | exact hb | exact diedOk_alive h1
  split
  · unfold syncDir
    split
    · exact hb
    · rename_i h0
      have h1 := hl (by simpa using h0)
      (repeat' split) <;> first | exact hb | exact diedOk_alive h1
  · exact diedOk_alive rfl
theorem runs_diedOk {s : St} {l : List Opr} : ∀ {N : Nat}, Inv s N → DiedOk s → DiedOk (runs s l) := by
  induction l generalizing s with
  | nil => intro N _ h; exact h
  | cons o l ih => intro N hi h; exact ih (hi.doOp o) (doOp_diedOk hi h o)
theorem settled_start {s : St} {N : Nat} (h : Inv s N) (hd : DiedOk s) (p : Pl) : Settled (start s p) := by
  unfold start
  split
  · rename_i h1; exact settled_live (hd h1) p
  · exact settled_live (settled_die h) p
theorem start_died (s : St) (p : Pl) : (start s p).died = false := rfl
theorem start_cnt (s : St) (p : Pl) : (start s p).cnt = 0 := rfl
/-- A death of what is settled changes no file. -/
theorem dieNames_same {keep : List Int} {dir : Dir} (xs : List Bs) (nodes : List Nd) (i : Nat) (h : ∀ x ∈ xs, ∀ j, node dir x = some j → (ndAt nodes j).chg = [] ∧ j < nodes.length) : (dieNames keep dir xs nodes i).1 = nodes := by
  induction xs generalizing nodes i with
  | nil => rfl
  | cons x xs ih =>
    rw [dieNames]
    split
    · exact ih _ _ (fun y hy => h y (List.mem_cons_of_mem _ hy))
    · rename_i j hj
      obtain ⟨h1, h2⟩ := h x List.mem_cons_self j hj
      have hs : nodes.set j ⟨(parts keep i true (ndAt nodes j).safe (ndAt nodes j).chg).1, []⟩ = nodes := by
        rw [h1, parts]
        have he : (⟨(ndAt nodes j).safe, []⟩ : Nd) = nodes[j] := by
          have : ndAt nodes j = nodes[j] := by unfold ndAt; rw [List.getD_eq_getElem?_getD, List.getElem?_eq_getElem h2]; rfl
          rw [← this]
          cases hn : ndAt nodes j
          rw [hn] at h1
          simp only at h1
          rw [h1]
        rw [he]
        exact List.set_getElem_self h2
      rw [hs]
      exact ih _ _ (fun y hy => h y (List.mem_cons_of_mem _ hy))
theorem die_settled {s : St} {N : Nat} (h : Inv s N) (hs : Settled s) : (die s).dir = s.dir ∧ (die s).nodes = s.nodes := by
  have hd : dieDir s = s.dir := by unfold dieDir; rw [hs.mvs, hs.dir, List.take_nil]; rfl
  refine ⟨hd, ?_⟩
  show (dieNames s.pl.keep (dieDir s) (namesOf (dieDir s)) s.nodes (adv s.pl.keep 0)).1 = s.nodes
  rw [hd]
  refine dieNames_same _ _ _ (fun x hx j hj => ?_)
  have hm := node_some hj
  exact ⟨hs.chg _ hm, (h.dir.2 _ hm).2.2⟩
theorem files_settled {s : St} {N : Nat} (h : Inv s N) (hs : Settled s) (hd : s.died = false) : safeFiles s = files s := by
  unfold safeFiles files
  rw [hd, hs.dir]
  simp only [Bool.false_eq_true, if_false]
  apply List.map_congr_left
  intro n hn
  obtain ⟨p, hp, rfl⟩ := List.mem_map.1 (mem_namesOf.1 hn)
  have hno := node_of_mem h.dir.1 (n := p.1) (i := p.2) hp
  unfold fileOf
  rw [hno]
  simp only [Option.getD_some]
  rw [Nd.data, hs.chg p hp]
  rfl
theorem start_files {s : St} {N : Nat} (h : Inv s N) (hs : Settled s) (hd : s.died = false) (p : Pl) : files (start s p) = files s := by
  have hst : start s p = live (die s) p := by unfold start; rw [hd]; rfl
  obtain ⟨h1, h2⟩ := die_settled h hs
  rw [hst]
  unfold files
  rw [hd]
  simp only [show (live (die s) p).died = false from rfl, Bool.false_eq_true, if_false, show (live (die s) p).dir = s.dir from h1]
  apply List.map_congr_left
  intro n _
  unfold fileOf
  rw [show (live (die s) p).nodes = s.nodes from h2]
theorem new_diedOk (p : Pl) : DiedOk (new p) := diedOk_alive rfl
/-- The law of what has survived. -/
theorem settled_law {s : St} {N : Nat} (h : Inv s N) (hd : DiedOk s) (q r : Pl) : safeFiles (start s q) = files (start s q) ∧ files (start (start s q) r) = files (start s q) ∧ safeFiles (start (start s q) r) = files (start s q) := by
  have h1 := settled_start h hd q
  have i1 := h.start q
  have f1 := files_settled i1 h1 (start_died s q)
  have f2 := start_files i1 h1 (start_died s q) r
  refine ⟨f1, f2, ?_⟩
  rw [files_settled (i1.start r) (settled_start i1 (diedOk_alive (start_died s q)) r) (start_died _ r), f2]
end Go.Fsy
