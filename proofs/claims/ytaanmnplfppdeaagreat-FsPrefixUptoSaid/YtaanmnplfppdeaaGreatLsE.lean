/- Layer 1: behind a death each file has a beginning of what it had: plain laws. Nothing here speaks of the program. -/
import Derived.Test.YtaanmnplfppdeaaGreatLsA
namespace Go.Fsy
def plainOp (o : Opr) : Bool := o.kind == 1 || (o.kind == 2 || (o.kind == 4 || o.kind == 7))
/-- Nothing was cut, and no name was taken from anything. -/
structure Pre (s : St) : Prop where
  adds : ∀ n ∈ s.nodes, ∀ c ∈ n.chg, ∃ b, c = Ch.add b
  sub : ∀ k, ∀ p ∈ (s.mvs.take k).foldl moved s.safe, p ∈ s.dir
def PreD (s : St) : Prop := s.died = false → Pre s
theorem Pre.count {s : St} (h : Pre s) : Pre (count s) := ⟨h.adds, h.sub⟩
theorem Pre.nd {s : St} (h : Pre s) (i : Nat) : ∀ c ∈ (ndAt s.nodes i).chg, ∃ b, c = Ch.add b := by
  unfold ndAt
  rw [List.getD_eq_getElem?_getD]
  cases hg : s.nodes[i]? with
  | none => intro c hc; cases hc
  | some n => exact h.adds n (List.mem_of_getElem? hg)
theorem Pre.setNd {s : St} (h : Pre s) {i : Nat} {n : Nd} (hn : ∀ c ∈ n.chg, ∃ b, c = Ch.add b) : Pre (setNd s i n) := by
  refine ⟨fun x hx => ?_, h.sub⟩
  rcases List.mem_or_eq_of_mem_set hx with hx | rfl
  · exact h.adds x hx
  · exact hn
theorem begin_pre {s : St} (h : PreD s) (hd : (Fsy.begin s).1.died = false) : Pre (Fsy.begin s).1 ∧ (Fsy.begin s).1 = count s := by
  unfold Fsy.begin at hd ⊢
  split
  · rename_i h1
    rw [if_pos h1] at hd
    rw [show s.died = false from hd] at h1
    cases h1
  · rename_i h1
    rw [if_neg h1] at hd
    have hs : s.died = false := by simpa using h1
    split
    · rename_i h2
      rw [if_pos h2] at hd
      exact absurd (show true = false from hd) (by decide)
    · split <;> exact ⟨(h hs).count, rfl⟩
theorem Pre.made {s : St} (h : Pre s) {name : Bs} (hn : node s.dir name = none) : Pre (step (fresh s) (.made name s.nodes.length)) := by
  have hk : ∀ p ∈ s.dir, p ∈ moved s.dir (.made name s.nodes.length) := by
    intro p hp
    refine List.mem_append_left _ (List.mem_filter.2 ⟨hp, ?_⟩)
    rw [bne_iff_ne]
    rintro rfl
    exact node_none hn p.2 hp
  refine ⟨?_, ?_⟩
  · intro n hm
    rcases List.mem_append.1 hm with hm | hm
    · exact h.adds n hm
    · rw [List.mem_singleton] at hm; subst hm; intro c hc; cases hc
  · intro k p hp
    have hp' : p ∈ ((s.mvs ++ [Mv.made name s.nodes.length]).take k).foldl moved s.safe := hp
    show p ∈ moved s.dir (.made name s.nodes.length)
    by_cases hkl : k ≤ s.mvs.length
    · rw [List.take_append_of_le_length hkl] at hp'
      exact hk p (h.sub k p hp')
    · rw [List.take_of_length_le (by rw [List.length_append, List.length_singleton]; omega), List.foldl_append] at hp'
      have hp2 : p ∈ without (s.mvs.foldl moved s.safe) name ++ [(name, s.nodes.length)] := hp'
      rcases List.mem_append.1 hp2 with h1 | h1
      · have h2 := (List.mem_filter.1 h1).1
        have h3 := h.sub s.mvs.length p (by rw [List.take_length]; exact h2)
        exact hk p h3
      · exact List.mem_append_right _ h1
theorem Pre.settle {s : St} (h : Pre s) : Pre (settle s) := ⟨h.adds, fun k p hp => by
  have hp' : p ∈ (([] : List Mv).take k).foldl moved s.dir := hp
  rw [List.take_nil] at hp'
  exact hp'⟩
theorem doOp_preD {s : St} (h : PreD s) {o : Opr} (ho : plainOp o = true) : PreD (doOp s o).1 := by
  intro hd
  have hk : o.kind = 1 ∨ o.kind = 2 ∨ o.kind = 4 ∨ o.kind = 7 := by
    unfold plainOp at ho
    simpa using ho
  unfold Fsy.doOp at hd ⊢
  rcases hk with hk | hk | hk | hk <;> rw [hk] at hd ⊢
  · simp only [if_true] at hd ⊢
    unfold create at hd ⊢
    by_cases h0 : (Fsy.begin s).2 ≠ 0
    · rw [if_pos h0] at hd ⊢; exact (begin_pre h hd).1
    · rw [if_neg h0] at hd ⊢
      have hbl := begin_live (s := s) (by simpa using h0)
      have hb : (Fsy.begin s).1.died = false := by rw [hbl.1]; exact hbl.2
      have hp := (begin_pre h hb).1
      by_cases h1 : may o.name = false
      · rw [if_pos h1]; exact hp
      rw [if_neg h1]
      by_cases h2 : (node (Fsy.begin s).1.dir o.name).isSome
      · rw [if_pos h2]; exact hp
      rw [if_neg h2]
      by_cases h3 : 4096 ≤ (Fsy.begin s).1.dir.length
      · rw [if_pos h3]; exact hp
      rw [if_neg h3]
      by_cases h4 : full (Fsy.begin s).1
      · rw [if_pos h4]; exact hp
      rw [if_neg h4]
      exact hp.made (by simpa using h2)
  · rw [if_neg (by decide), if_pos rfl] at hd ⊢
    unfold append at hd ⊢
    by_cases h0 : (Fsy.begin s).2 ≠ 0
    · rw [if_pos h0] at hd ⊢; exact (begin_pre h hd).1
    · rw [if_neg h0] at hd ⊢
      have hbl := begin_live (s := s) (by simpa using h0)
      have hb : (Fsy.begin s).1.died = false := by rw [hbl.1]; exact hbl.2
      have hp := (begin_pre h hb).1
      cases node (Fsy.begin s).1.dir o.name with
      | none => exact hp
      | some i =>
        show Pre (if 268435456 < sizeAt (Fsy.begin s).1 i + o.data.length then ((Fsy.begin s).1, (2 : Int)) else if noRoom (Fsy.begin s).1 o.data.length then ((Fsy.begin s).1, 11) else if o.data.length = 0 then ((Fsy.begin s).1, 0) else (change (Fsy.begin s).1 i (.add o.data), 0)).1
        split
        · exact hp
        split
        · exact hp
        split
        · exact hp
        · refine hp.setNd ?_
          intro c hc
          rcases List.mem_append.1 hc with hc | hc
          · exact hp.nd i c hc
          · rw [List.mem_singleton] at hc; exact ⟨_, hc⟩
  · rw [if_neg (by decide), if_neg (by decide), if_neg (by decide), if_pos rfl] at hd ⊢
    unfold sync at hd ⊢
    by_cases h0 : (Fsy.begin s).2 ≠ 0
    · rw [if_pos h0] at hd ⊢; exact (begin_pre h hd).1
    · rw [if_neg h0] at hd ⊢
      have hbl := begin_live (s := s) (by simpa using h0)
      have hb : (Fsy.begin s).1.died = false := by rw [hbl.1]; exact hbl.2
      have hp := (begin_pre h hb).1
      cases node (Fsy.begin s).1.dir o.name with
      | none => exact hp
      | some i => exact hp.setNd (fun c hc => by cases hc)
  · rw [if_neg (by decide), if_neg (by decide), if_neg (by decide), if_neg (by decide), if_neg (by decide), if_neg (by decide), if_pos rfl] at hd ⊢
    unfold syncDir at hd ⊢
    by_cases h0 : (Fsy.begin s).2 ≠ 0
    · rw [if_pos h0] at hd ⊢; exact (begin_pre h hd).1
    · rw [if_neg h0] at hd ⊢
      have hbl := begin_live (s := s) (by simpa using h0)
      have hb : (Fsy.begin s).1.died = false := by rw [hbl.1]; exact hbl.2
      have hp := (begin_pre h hb).1
      split
      · exact hp
      · exact hp.settle
theorem runs_preD {s : St} {l : List Opr} (h : PreD s) (hl : l.all plainOp = true) : PreD (runs s l) := by
  induction l generalizing s with
  | nil => exact h
  | cons o l ih =>
    rw [List.all_cons, Bool.and_eq_true] at hl
    exact ih (doOp_preD h hl.1) hl.2
theorem new_preD (p : Pl) : PreD (new p) := by
  intro _
  refine ⟨fun n hn => (by cases hn), ?_⟩
  intro k q hq
  have hq' : q ∈ (([] : List Mv).take k).foldl moved [] := hq
  rw [List.take_nil] at hq'
  cases hq'
/-- What is but appended begins as it began. -/
theorem dataOf_pre (l : List Ch) (b : Bs) (h : ∀ c ∈ l, ∃ d, c = Ch.add d) : b <+: dataOf b l := by
  induction l generalizing b with
  | nil => exact List.prefix_refl _
  | cons c l ih =>
    obtain ⟨d, rfl⟩ := h c List.mem_cons_self
    exact (List.prefix_append b d).trans (ih (b ++ d) (fun c hc => h c (List.mem_cons_of_mem _ hc)))
theorem parts_pre {keep : List Int} (l : List Ch) (i : Nat) (wh : Bool) (b : Bs) (h : ∀ c ∈ l, ∃ d, c = Ch.add d) : (parts keep i wh b l).1 <+: dataOf b l := by
  induction l generalizing b i wh with
  | nil =>
    cases wh <;> (rw [parts]; exact List.prefix_refl _)
  | cons c l ih =>
    obtain ⟨d, rfl⟩ := h c List.mem_cons_self
    have hl := fun c hc => h c (List.mem_cons_of_mem _ hc)
    have hq : ∀ (e : Bs) (i : Nat), (parts keep i false e l).1 = e := by
      have : ∀ (l : List Ch) (e : Bs) (i : Nat), (parts keep i false e l).1 = e := by
        intro l
        induction l with
        | nil => intro e i; rw [parts]
        | cons c l ih => intro e i; rw [parts]; exact ih e _
      exact this l
    show _ <+: dataOf (b ++ d) l
    cases wh with
    | false =>
      rw [parts, hq]
      exact (List.prefix_append b d).trans (dataOf_pre l _ hl)
    | true =>
      rw [parts]
      simp only [part]
      by_cases he : survive (keepAt keep i) d.length = d.length
      · rw [he, List.take_length, beq_self_eq_true]
        exact ih _ _ _ hl
      · rw [beq_eq_false_iff_ne.2 he, hq]
        exact ((List.prefix_append_right_inj b).2 (List.take_prefix _ _)).trans (dataOf_pre l _ hl)
/-- A file that is but appended to, whose bytes begin d. -/
def Good (d : Bs) (n : Nd) : Prop := (∀ c ∈ n.chg, ∃ b, c = Ch.add b) ∧ n.data <+: d
theorem dieNames_good {keep : List Int} {dir : Dir} {d : Nat → Bs} (xs : List Bs) (nodes : List Nd) (i : Nat) (h : ∀ j, Good (d j) (ndAt nodes j)) : ∀ j, Good (d j) (ndAt (dieNames keep dir xs nodes i).1 j) := by
  induction xs generalizing nodes i with
  | nil => exact h
  | cons x xs ih =>
    rw [dieNames]
    split
    · exact ih _ _ h
    · rename_i m _
      refine ih _ _ (fun j => ?_)
      rw [ndAt_put]
      split
      · rename_i hmj
        obtain ⟨rfl, _⟩ := hmj
        exact ⟨fun c hc => (by cases hc), (parts_pre _ _ _ _ (h m).1).trans (h m).2⟩
      · exact h j
/-- The law of beginnings. -/
theorem prefix_law {s : St} {N : Nat} (h : Inv s N) (hp : Pre s) (hd : s.died = false) (q : Pl) : ∀ x ∈ files (start s q), ∃ y ∈ files s, x.1 = y.1 ∧ x.2 <+: y.2 := by
  have hst : start s q = live (die s) q := by unfold start; rw [hd]; rfl
  have hdd := dieDir_ok h
  intro x hx
  rw [hst] at hx
  unfold files at hx ⊢
  rw [hd]
  simp only [show (live (die s) q).died = false from rfl, Bool.false_eq_true, if_false] at hx ⊢
  obtain ⟨n, hn, rfl⟩ := List.mem_map.1 hx
  have hn' : n ∈ namesOf (dieDir s) := hn
  obtain ⟨p, hpm, rfl⟩ := List.mem_map.1 (mem_namesOf.1 hn')
  have hsub : p ∈ s.dir := hp.sub _ p hpm
  refine ⟨_, List.mem_map.2 ⟨p.1, mem_namesOf.2 (List.mem_map.2 ⟨p, hsub, rfl⟩), rfl⟩, rfl, ?_⟩
  have e1 : node (live (die s) q).dir p.1 = some p.2 := node_of_mem hdd.1 hpm
  have e2 : node s.dir p.1 = some p.2 := node_of_mem h.dir.1 hsub
  show Nd.data (ndAt (live (die s) q).nodes ((node (live (die s) q).dir p.1).getD 0)) <+: Nd.data (ndAt s.nodes ((node s.dir p.1).getD 0))
  rw [e1, e2]
  exact (dieNames_good (d := fun j => (ndAt s.nodes j).data) _ _ _ (fun j => ⟨hp.nd j, List.prefix_refl _⟩) p.2).2
/-- Whether a file has a beginning of another's bytes, and its name. -/
def begins (x y : Fl) : Bool := x.1 == y.1 && (decide (x.2.length ≤ y.2.length) && (y.2.take x.2.length == x.2))
theorem begins_of {x y : Fl} (h1 : x.1 = y.1) (h2 : x.2 <+: y.2) : begins x y = true := by
  obtain ⟨t, ht⟩ := h2
  unfold begins
  rw [← ht, h1]
  simp
end Go.Fsy
