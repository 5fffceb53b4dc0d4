/- Layer 17: a log in a file system: plain words and laws. Nothing here speaks of the program. -/
import Derived.Test.YtgilnjngphhhlaaGreatFsPlain
import Derived.Test.YtgilnjngphhhlaaGreatWalQ
namespace Go.Fsy
open Go.Lec
/-- A log: its records, its bytes' number, whether the last call that wrote failed. -/
structure Lg where
  recs : List Bs
  size : Nat
  bad : Bool
def lgCreate (s : St) (name : Bs) : St × Int :=
  if (create s name).2 ≠ 0 then create s name
  else if (sync (create s name).1 name).2 ≠ 0 then sync (create s name).1 name
  else syncDir (sync (create s name).1 name).1
/-- A file's bytes, as they are read. -/
def lgData (s : St) (name : Bs) : Bs := (read s name 0 (size s name).1).1
noncomputable def lgOf (s : St) (name : Bs) : Lg := ⟨(readB (lgData s name)).1, (readB (lgData s name)).2, false⟩
noncomputable def lgOpen (s : St) (name : Bs) : St × Int :=
  if (size s name).2 ≠ 0 then (s, (size s name).2)
  else if (lgOf s name).size < (lgData s name).length then
    if (cutF s name (lgOf s name).size).2 ≠ 0 then cutF s name (lgOf s name).size
    else sync (cutF s name (lgOf s name).size).1 name
  else (s, 0)
/-- What is done ahead of an append: what a failed call left is cut off. -/
def lgMend (s : St) (name : Bs) (l : Lg) : St × Int := if l.bad then cutF s name l.size else (s, 0)
def lgBytes (l : Lg) (rec : Bs) : Bs := encL (l.size % 512) rec
def lgAppend (s : St) (name : Bs) (l : Lg) (rec : Bs) (sy : Bool) : (St × Int) × Lg :=
  if 1048576 < rec.length then ((s, 171), l)
  else if (lgMend s name l).2 ≠ 0 then (lgMend s name l, l)
  else if (append (lgMend s name l).1 name (lgBytes l rec)).2 ≠ 0 then (append (lgMend s name l).1 name (lgBytes l rec), { l with bad := true })
  else if sy = false then (append (lgMend s name l).1 name (lgBytes l rec), ⟨l.recs ++ [rec], l.size + (lgBytes l rec).length, false⟩)
  else if (sync (append (lgMend s name l).1 name (lgBytes l rec)).1 name).2 ≠ 0 then (sync (append (lgMend s name l).1 name (lgBytes l rec)).1 name, { l with bad := true })
  else (sync (append (lgMend s name l).1 name (lgBytes l rec)).1 name, ⟨l.recs ++ [rec], l.size + (lgBytes l rec).length, false⟩)
def lgSync (s : St) (name : Bs) (l : Lg) : (St × Int) × Lg := (sync s name, { l with bad := l.bad || decide ((sync s name).2 ≠ 0) })
/-! ### One file, safely named -/
theorem dataOf_pre (l : List Ch) (b : Bs) (h : ∀ c ∈ l, ∃ d, c = Ch.add d) : b <+: dataOf b l := by
  induction l generalizing b with
  | nil => exact List.prefix_refl _
  | cons c l ih =>
    obtain ⟨d, rfl⟩ := h c List.mem_cons_self
    exact (List.prefix_append b d).trans (ih (b ++ d) (fun c hc => h c (List.mem_cons_of_mem _ hc)))
theorem parts_false {keep : List Int} : ∀ (l : List Ch) (e : Bs) (i : Nat), (parts keep i false e l).1 = e := by
  intro l
  induction l with
  | nil => intro e i; rw [parts]
  | cons c l ih => intro e i; rw [parts]; exact ih e _
theorem parts_pre {keep : List Int} (l : List Ch) (i : Nat) (wh : Bool) (b : Bs) (h : ∀ c ∈ l, ∃ d, c = Ch.add d) : b <+: (parts keep i wh b l).1 ∧ (parts keep i wh b l).1 <+: dataOf b l := by
  induction l generalizing b i wh with
  | nil =>
    cases wh <;> (rw [parts]; exact ⟨List.prefix_refl _, List.prefix_refl _⟩)
  | cons c l ih =>
    obtain ⟨d, rfl⟩ := h c List.mem_cons_self
    have hl := fun c hc => h c (List.mem_cons_of_mem _ hc)
    show _ ∧ _ <+: dataOf (b ++ d) l
    cases wh with
    | false =>
      rw [parts, parts_false]
      exact ⟨List.prefix_refl _, (List.prefix_append b d).trans (dataOf_pre l _ hl)⟩
    | true =>
      rw [parts]
      simp only [part]
      by_cases he : survive (keepAt keep i) d.length = d.length
      · rw [he, List.take_length, beq_self_eq_true]
        have := ih (adv keep i) true (b ++ d) hl
        exact ⟨(List.prefix_append b d).trans this.1, this.2⟩
      · rw [beq_eq_false_iff_ne.2 he, parts_false]
        exact ⟨List.prefix_append _ _, ((List.prefix_append_right_inj b).2 (List.take_prefix _ _)).trans (dataOf_pre l _ hl)⟩
/-- One file, whose name is safe, to which is but appended. -/
structure Nx (name : Bs) (s : St) (nd : Nd) : Prop where
  dir : s.dir = [(name, 0)]
  safe : s.safe = [(name, 0)]
  mvs : s.mvs = []
  nodes : s.nodes = [nd]
  adds : ∀ c ∈ nd.chg, ∃ b, c = Ch.add b
  still : s.died = true → nd.chg = []
theorem node_one (name : Bs) (i : Nat) : node [(name, i)] name = some i := by simp [node]
theorem Nx.nd {name : Bs} {s : St} {nd : Nd} (h : Nx name s nd) : ndAt s.nodes 0 = nd := by rw [h.nodes]; rfl
theorem Nx.noded {name : Bs} {s : St} {nd : Nd} (h : Nx name s nd) : node s.dir name = some 0 := by rw [h.dir]; exact node_one name 0
theorem Nx.pre {name : Bs} {s : St} {nd : Nd} (h : Nx name s nd) : nd.safe <+: nd.data := dataOf_pre _ _ h.adds
theorem Nx.count {name : Bs} {s : St} {nd : Nd} (h : Nx name s nd) : Nx name (count s) nd := ⟨h.dir, h.safe, h.mvs, h.nodes, h.adds, h.still⟩
theorem Nx.live {name : Bs} {s : St} {nd : Nd} (h : Nx name s nd) (p : Pl) : Nx name (live s p) nd := ⟨h.dir, h.safe, h.mvs, h.nodes, h.adds, fun e => absurd (show false = true from e) (by decide)⟩
theorem Nx.die {name : Bs} {s : St} {nd : Nd} (h : Nx name s nd) : ∃ b, Nx name (die s) ⟨b, []⟩ ∧ nd.safe <+: b ∧ b <+: nd.data := by
  have hd : dieDir s = [(name, 0)] := by unfold dieDir; rw [h.mvs, h.safe, List.take_nil]; rfl
  have hn : (Fsy.die s).nodes = [⟨(parts s.pl.keep (adv s.pl.keep 0) true nd.safe nd.chg).1, []⟩] := by
    show (dieNames s.pl.keep (dieDir s) (namesOf (dieDir s)) s.nodes (adv s.pl.keep 0)).1 = _
    rw [hd, h.nodes]
    have hno : namesOf [(name, 0)] = [name] := by simp [namesOf]
    rw [hno, dieNames, node_one]
    rfl
  have hp := parts_pre (keep := s.pl.keep) nd.chg (adv s.pl.keep 0) true nd.safe h.adds
  exact ⟨_, ⟨hd, hd, rfl, hn, fun c hc => (by cases hc), fun _ => rfl⟩, hp.1, hp.2⟩
/-- What holds behind a call that may have failed. -/
structure Nxt (name : Bs) (s : St) (lo hi : Bs) (nd : Nd) : Prop where
  nx : Nx name s nd
  lo : lo <+: nd.safe
  hi : nd.data <+: hi
theorem Nx.t {name : Bs} {s : St} {nd : Nd} (h : Nx name s nd) : Nxt name s nd.safe nd.data nd := ⟨h, List.prefix_refl _, List.prefix_refl _⟩
theorem nx_begin {name : Bs} {s : St} {nd : Nd} (h : Nx name s nd) : ∃ nd', Nxt name (begin s).1 nd.safe nd.data nd' ∧ ((begin s).2 = 0 → nd' = nd ∧ (begin s).1.died = false) := by
  unfold Fsy.begin
  split
  · exact ⟨nd, h.t, fun e => absurd (show (12 : Int) = 0 from e) (by decide)⟩
  · rename_i hd
    split
    · obtain ⟨b, h1, h2, h3⟩ := h.count.die
      exact ⟨_, ⟨h1, h2, h3⟩, fun e => absurd (show (12 : Int) = 0 from e) (by decide)⟩
    · split
      · exact ⟨nd, h.count.t, fun e => absurd (show (10 : Int) = 0 from e) (by decide)⟩
      · exact ⟨nd, h.count.t, fun _ => ⟨rfl, by show s.died = false; simpa using hd⟩⟩
theorem Nx.put {name : Bs} {s : St} {nd nd' : Nd} (h : Nx name s nd) (hd : s.died = false) (ha : ∀ c ∈ nd'.chg, ∃ b, c = Ch.add b) : Nx name (setNd s 0 nd') nd' :=
  ⟨h.dir, h.safe, h.mvs, by show s.nodes.set 0 nd' = _; rw [h.nodes]; rfl, ha, fun e => by rw [show (setNd s 0 nd').died = s.died from rfl, hd] at e; cases e⟩
theorem nx_sync {name : Bs} {s : St} {nd : Nd} (h : Nx name s nd) : ∃ nd', Nxt name (sync s name).1 nd.safe nd.data nd' ∧ ((sync s name).2 = 0 → nd' = ⟨nd.data, []⟩ ∧ (sync s name).1.died = false) := by
  obtain ⟨nd1, h1, h2⟩ := nx_begin h
  unfold sync
  by_cases h0 : (Fsy.begin s).2 ≠ 0
  · rw [if_pos h0]; exact ⟨nd1, h1, fun e => absurd e h0⟩
  · rw [if_neg h0, h1.nx.noded]
    obtain ⟨rfl, hd⟩ := h2 (by simpa using h0)
    refine ⟨⟨nd1.data, []⟩, ⟨?_, ?_, ?_⟩, fun _ => ⟨rfl, hd⟩⟩
    · show Nx name (setNd (Fsy.begin s).1 0 ⟨(ndAt (Fsy.begin s).1.nodes 0).data, []⟩) _
      rw [h1.nx.nd]
      exact h1.nx.put hd (fun c hc => by cases hc)
    · exact h1.nx.pre
    · exact List.prefix_refl _
theorem nx_append {name b : Bs} {s : St} {nd : Nd} (h : Nx name s nd) : ∃ nd', Nxt name (append s name b).1 nd.safe (nd.data ++ b) nd' ∧ ((append s name b).2 = 0 → nd'.data = nd.data ++ b ∧ (append s name b).1.died = false) := by
  obtain ⟨nd1, h1, h2⟩ := nx_begin h
  have hmore : Nxt name (Fsy.begin s).1 nd.safe (nd.data ++ b) nd1 := ⟨h1.nx, h1.lo, h1.hi.trans (List.prefix_append _ _)⟩
  unfold append
  by_cases h0 : (Fsy.begin s).2 ≠ 0
  · rw [if_pos h0]; exact ⟨nd1, hmore, fun e => absurd e h0⟩
  · rw [if_neg h0, h1.nx.noded]
    obtain ⟨rfl, hd⟩ := h2 (by simpa using h0)
    by_cases c1 : 268435456 < sizeAt (Fsy.begin s).1 0 + b.length
    · simp only [c1, if_true]; exact ⟨nd1, hmore, fun e => absurd (show (2 : Int) = 0 from e) (by decide)⟩
    · by_cases c2 : noRoom (Fsy.begin s).1 b.length = true
      · simp only [c1, c2, if_true, if_false]; exact ⟨nd1, hmore, fun e => absurd (show (11 : Int) = 0 from e) (by decide)⟩
      · by_cases c3 : b.length = 0
        · simp only [c1, c2, if_false]
          rw [if_pos c3]
          refine ⟨nd1, hmore, fun _ => ⟨?_, hd⟩⟩
          rw [List.length_eq_zero_iff.1 c3, List.append_nil]
        · simp only [c1, c2, c3, if_false]
          have hdat : (⟨nd1.safe, nd1.chg ++ [.add b]⟩ : Nd).data = nd1.data ++ b := by show dataOf nd1.safe (nd1.chg ++ [.add b]) = _; rw [dataOf_snoc]; rfl
          refine ⟨⟨nd1.safe, nd1.chg ++ [.add b]⟩, ⟨?_, List.prefix_refl _, by rw [hdat]; exact List.prefix_refl _⟩, fun _ => ⟨hdat, hd⟩⟩
          show Nx name (setNd (Fsy.begin s).1 0 ⟨(ndAt (Fsy.begin s).1.nodes 0).safe, (ndAt (Fsy.begin s).1.nodes 0).chg ++ [.add b]⟩) _
          rw [h1.nx.nd]
          refine h1.nx.put hd (fun c hc => ?_)
          rcases List.mem_append.1 hc with hc | hc
          · exact h1.nx.adds c hc
          · rw [List.mem_singleton] at hc; exact ⟨b, hc⟩
theorem nx_start {name : Bs} {s : St} {nd : Nd} (h : Nx name s nd) (p : Pl) : ∃ b, Nx name (start s p) ⟨b, []⟩ ∧ nd.safe <+: b ∧ b <+: nd.data := by
  unfold start
  split
  · rename_i hd
    have hc := h.still hd
    have hn : (⟨nd.safe, []⟩ : Nd) = nd := by cases nd; simp only at hc; rw [hc]
    refine ⟨nd.safe, ?_, List.prefix_refl _, h.pre⟩
    rw [hn]
    exact h.live p
  · obtain ⟨b, h1, h2, h3⟩ := h.die
    exact ⟨b, h1.live p, h2, h3⟩
/-! ### The law -/
/-- A log on its way: all records, of which the first k are safe. -/
structure Dur (name : Bs) (s : St) (all : List Bs) (k : Nat) : Prop where
  nd : ∃ nd, Nx name s nd ∧ nd.data = framesF [] all ∧ framesF [] (all.take k) <+: nd.safe
  k : k ≤ all.length
/-- A log whose last call may have failed. -/
structure Fin_ (name : Bs) (s : St) (all : List Bs) (k : Nat) : Prop where
  nd : ∃ nd, Nx name s nd ∧ nd.data <+: framesF [] all ∧ framesF [] (all.take k) <+: nd.safe
  k : k ≤ all.length
theorem Dur.fin {name : Bs} {s : St} {all : List Bs} {k : Nat} (h : Dur name s all k) : Fin_ name s all k := by
  obtain ⟨⟨nd, h1, h2, h3⟩, hk⟩ := h
  exact ⟨⟨nd, h1, by rw [h2]; exact List.prefix_refl _, h3⟩, hk⟩
theorem dur_create {p : Pl} {name : Bs} (h : (lgCreate (new p) name).2 = 0) : Dur name (lgCreate (new p) name).1 [] 0 := by
  unfold lgCreate at h ⊢
  by_cases h1 : (create (new p) name).2 ≠ 0
  · rw [if_pos h1] at h; exact absurd h h1
  rw [if_neg h1] at h ⊢
  by_cases h2 : (sync (create (new p) name).1 name).2 ≠ 0
  · rw [if_pos h2] at h; exact absurd h h2
  rw [if_neg h2] at h ⊢
  have h1' : (create (new p) name).2 = 0 := by simpa using h1
  have h2' : (sync (create (new p) name).1 name).2 = 0 := by simpa using h2
  clear h1 h2
  -- the file is made
  have hb : (Fsy.begin (new p)).2 = 0 := by
    by_cases hb : (Fsy.begin (new p)).2 = 0
    · exact hb
    · unfold create at h1'; rw [if_pos hb] at h1'; exact h1'
  have hbe : (Fsy.begin (new p)).1 = count (new p) := by
    unfold Fsy.begin at hb ⊢
    rw [if_neg (show ¬ (new p).died = true from Bool.false_ne_true)] at hb ⊢
    split
    · rename_i e; rw [if_pos e] at hb; exact absurd (show (12 : Int) = 0 from hb) (by decide)
    · split <;> rfl
  obtain ⟨s1, hs1⟩ : ∃ s1, s1 = (create (new p) name).1 := ⟨_, rfl⟩
  have c1 : s1 = step (fresh (count (new p))) (.made name 0) := by
    rw [hs1]
    unfold create at h1' ⊢
    rw [if_neg (by rw [hb]; decide)] at h1' ⊢
    by_cases m1 : may name = false
    · rw [if_pos m1] at h1'; exact absurd (show (15 : Int) = 0 from h1') (by decide)
    rw [if_neg m1] at h1' ⊢
    by_cases m2 : (node (Fsy.begin (new p)).1.dir name).isSome
    · rw [if_pos m2] at h1'; exact absurd (show (13 : Int) = 0 from h1') (by decide)
    rw [if_neg m2] at h1' ⊢
    by_cases m3 : 4096 ≤ (Fsy.begin (new p)).1.dir.length
    · rw [if_pos m3] at h1'; exact absurd (show (2 : Int) = 0 from h1') (by decide)
    rw [if_neg m3] at h1' ⊢
    by_cases m4 : full (Fsy.begin (new p)).1
    · rw [if_pos m4] at h1'; exact absurd (show (11 : Int) = 0 from h1') (by decide)
    rw [if_neg m4, hbe]
    rfl
  have d1 : s1.dir = [(name, 0)] ∧ s1.nodes = [⟨[], []⟩] ∧ s1.died = false := by rw [c1]; exact ⟨rfl, rfl, rfl⟩
  rw [← hs1] at h2' h ⊢
  clear hs1 c1 hb hbe h1'
  -- it is synced
  have bb : ∀ s : St, (Fsy.begin s).2 = 0 → (Fsy.begin s).1 = count s ∧ s.died = false := by
    intro s h
    unfold Fsy.begin at h ⊢
    split
    · rename_i e; rw [if_pos e] at h; exact absurd (show (12 : Int) = 0 from h) (by decide)
    · rename_i e
      rw [if_neg e] at h
      split
      · rename_i e2; rw [if_pos e2] at h; exact absurd (show (12 : Int) = 0 from h) (by decide)
      · rename_i e2
        rw [if_neg e2] at h
        split
        · rename_i e3; rw [if_pos e3] at h; exact absurd (show (10 : Int) = 0 from h) (by decide)
        · exact ⟨rfl, by simpa using e⟩
  have hb2 : (Fsy.begin s1).2 = 0 := by
    by_cases hb : (Fsy.begin s1).2 = 0
    · exact hb
    · unfold sync at h2'; rw [if_pos hb] at h2'; exact h2'
  have e2 : (sync s1 name).1 = setNd (count s1) 0 ⟨[], []⟩ := by
    unfold sync
    rw [if_neg (by rw [hb2]; decide), (bb s1 hb2).1]
    rw [show node (count s1).dir name = some 0 from by show node s1.dir name = _; rw [d1.1, node_one]]
    show setNd (count s1) 0 ⟨(ndAt s1.nodes 0).data, []⟩ = _
    rw [d1.2.1]
    rfl
  rw [e2] at h ⊢
  obtain ⟨s2, hs2⟩ : ∃ s2, s2 = setNd (count s1) 0 ⟨[], []⟩ := ⟨_, rfl⟩
  have d2 : s2.dir = [(name, 0)] ∧ s2.nodes = [⟨[], []⟩] := by
    rw [hs2]
    refine ⟨d1.1, ?_⟩
    show s1.nodes.set 0 ⟨[], []⟩ = _
    rw [d1.2.1]; rfl
  rw [← hs2] at h ⊢
  have hb3 : (Fsy.begin s2).2 = 0 := by
    by_cases hb : (Fsy.begin s2).2 = 0
    · exact hb
    · unfold syncDir at h; rw [if_pos hb] at h; exact h
  have e3 : (syncDir s2).1 = settle (count s2) := by
    unfold syncDir at h ⊢
    rw [if_neg (by rw [hb3]; decide)] at h ⊢
    by_cases m : full (Fsy.begin s2).1
    · rw [if_pos m] at h; exact absurd (show (11 : Int) = 0 from h) (by decide)
    · rw [if_neg m, (bb s2 hb3).1]
  rw [e3]
  exact ⟨⟨⟨[], []⟩, ⟨d2.1, d2.1, rfl, d2.2, fun c hc => (by cases hc), fun _ => rfl⟩, rfl, List.prefix_refl _⟩, Nat.zero_le _⟩
theorem dur_sync {name : Bs} {s : St} {all : List Bs} {k : Nat} (h : Dur name s all k) : ((sync s name).2 = 0 → Dur name (sync s name).1 all all.length) ∧ Fin_ name (sync s name).1 all k := by
  obtain ⟨⟨nd, h1, h2, h3⟩, hk⟩ := h
  obtain ⟨nd', g1, g2⟩ := nx_sync h1
  refine ⟨fun h0 => ?_, ⟨⟨nd', g1.nx, by rw [← h2]; exact g1.hi, h3.trans g1.lo⟩, hk⟩⟩
  obtain ⟨rfl, _⟩ := g2 h0
  refine ⟨⟨_, g1.nx, h2, ?_⟩, Nat.le_refl _⟩
  rw [List.take_length]
  show _ <+: nd.data
  rw [h2]
  exact List.prefix_refl _
theorem dur_append {name rec : Bs} {s : St} {all : List Bs} {k : Nat} {sy : Bool} (h : Dur name s all k) (hr : rec.length ≤ 1048576) :
    let r := lgAppend s name ⟨all, (framesF [] all).length, false⟩ rec sy
    (r.1.2 = 0 → Dur name r.1.1 (all ++ [rec]) (if sy then (all ++ [rec]).length else k) ∧ r.2 = ⟨all ++ [rec], (framesF [] (all ++ [rec])).length, false⟩) ∧ Fin_ name r.1.1 (all ++ [rec]) k := by
  intro r
  have hfs : framesF [] (all ++ [rec]) = framesF [] all ++ lgBytes ⟨all, (framesF [] all).length, false⟩ rec := framesF_snoc all [] rec
  obtain ⟨⟨nd, h1, h2, h3⟩, hk⟩ := h
  have hk2 : k ≤ (all ++ [rec]).length := by rw [List.length_append]; omega
  have htk : (all ++ [rec]).take k = all.take k := List.take_append_of_le_length hk
  have hre : r = lgAppend s name ⟨all, (framesF [] all).length, false⟩ rec sy := rfl
  unfold lgAppend lgMend at hre
  rw [if_neg (by omega)] at hre
  simp only [Bool.false_eq_true, if_false, ne_eq, not_true_eq_false] at hre
  obtain ⟨b, hbb⟩ : ∃ b, b = lgBytes ⟨all, (framesF [] all).length, false⟩ rec := ⟨_, rfl⟩
  rw [← hbb] at hre hfs
  obtain ⟨nd1, g1, g2⟩ := nx_append (b := b) h1
  rw [h2, ← hfs] at g1 g2
  have hf1 : Fin_ name (append s name b).1 (all ++ [rec]) k := ⟨⟨nd1, g1.nx, g1.hi, by rw [htk]; exact h3.trans g1.lo⟩, hk2⟩
  clear_value r
  by_cases h0 : (append s name b).2 ≠ 0
  · rw [if_pos h0] at hre
    subst hre
    exact ⟨fun e => absurd e h0, hf1⟩
  rw [if_neg h0] at hre
  have h0' : (append s name b).2 = 0 := by simpa using h0
  obtain ⟨q1, q2⟩ := g2 h0'
  have hd1 : Dur name (append s name b).1 (all ++ [rec]) k := ⟨⟨nd1, g1.nx, q1, by rw [htk]; exact h3.trans g1.lo⟩, hk2⟩
  have hlen : (framesF [] all).length + b.length = (framesF [] (all ++ [rec])).length := by rw [hfs, List.length_append]
  cases sy with
  | false =>
    simp only [if_true] at hre
    subst hre
    refine ⟨fun _ => ⟨hd1, ?_⟩, hf1⟩
    show Lg.mk _ _ _ = _
    rw [hlen]
  | true =>
    simp only [Bool.true_eq_false, if_false] at hre
    obtain ⟨k1, k2⟩ := dur_sync hd1
    by_cases hs : (sync (append s name b).1 name).2 ≠ 0
    · rw [if_pos hs] at hre
      subst hre
      exact ⟨fun e => absurd e hs, k2⟩
    · rw [if_neg hs] at hre
      subst hre
      refine ⟨fun _ => ⟨k1 (by simpa using hs), ?_⟩, k2⟩
      show Lg.mk _ _ _ = _
      rw [hlen]
/-- The law: behind a crash and a start by a plan of nothing. -/
theorem dur_law {name : Bs} {s : St} {all : List Bs} {k : Nat} (h : Fin_ name s all k) (hl : ∀ r ∈ all, r.length ≤ 1048576) (t : St) (ht : t = start s ⟨0, [], [], [], 0⟩) :
    (lgOpen t name).2 = 0 ∧ k ≤ (lgOf t name).recs.length ∧ (lgOf t name).recs <+: all ∧ (lgData t name).length ≤ (framesF [] all).length := by
  obtain ⟨⟨nd, h1, h2, h3⟩, hk⟩ := h
  obtain ⟨b, g1, g2, g3⟩ := nx_start h1 ⟨0, [], [], [], 0⟩
  rw [← ht] at g1
  have hpl : t.pl = ⟨0, [], [], [], 0⟩ := by rw [ht]; rfl
  have hdd : t.died = false := by rw [ht]; rfl
  have hsz : size t name = ((b.length : Int), 0) := by
    unfold size
    rw [hdd, g1.noded]
    simp only [Bool.false_eq_true, if_false, sizeAt]
    rw [g1.nd]
    rfl
  have hrd : lgData t name = b := by
    have hs0 : sizeAt t 0 = b.length := by unfold sizeAt; rw [g1.nd]; rfl
    have hd0 : (ndAt t.nodes 0).data = b := by rw [g1.nd]; rfl
    unfold lgData read
    rw [hsz, hdd, g1.noded]
    simp only [Bool.false_eq_true, if_false]
    rw [hs0, if_neg (by omega), hd0]
    simp
  have hlg : lgOf t name = ⟨(readB b).1, (readB b).2, false⟩ := by unfold lgOf; rw [hrd]
  have hbe : ∀ u : St, u.died = false → u.pl = ⟨0, [], [], [], 0⟩ → Fsy.begin u = (count u, 0) := by
    intro u hu hp
    unfold Fsy.begin
    rw [hu, hp]
    rw [if_neg (by decide), if_neg (by show ¬ ((u.cnt + 1 : Nat) : Int) = 0; omega)]
    rfl
  have hF := readB_frames all hl
  have hbt : b = (framesF [] all).take b.length := List.prefix_iff_eq_take.1 (g3.trans h2)
  have hbl : b.length ≤ (framesF [] all).length := (g3.trans h2).length_le
  have hcut := readB_cut (framesF [] all) all (by rw [hF]) b.length hbl
  rw [← hbt] at hcut
  obtain ⟨Y, hY⟩ := h3.trans g2
  have hmo := readB_more (all.take k) (fun r hr => hl r (List.mem_of_mem_take hr)) Y
  rw [hY] at hmo
  refine ⟨?_, ?_, ?_, by rw [hrd]; exact hbl⟩
  · unfold lgOpen
    rw [hsz, hrd, hlg]
    rw [if_neg (show ¬ (0 : Int) ≠ 0 from fun h => h rfl)]
    simp only
    split
    · rename_i hlt
      have hc : cutF t name ((readB b).2 : Int) = (change (count t) 0 (.cut (readB b).2), 0) := by
        unfold cutF
        rw [hbe t hdd hpl]
        simp only [ne_eq, not_true_eq_false, if_false]
        show (match node t.dir name with | none => _ | some i => _) = _
        rw [g1.noded]
        have hs : sizeAt (count t) 0 = b.length := by show (ndAt t.nodes 0).data.length = _; rw [g1.nd]; rfl
        simp only [hs]
        rw [if_neg (by omega), if_pos (by omega)]
        simp
      rw [hc]
      rw [if_neg (show ¬ (0 : Int) ≠ 0 from fun h => h rfl)]
      unfold sync
      rw [hbe (change (count t) 0 (.cut (readB b).2)) hdd hpl]
      rw [if_neg (show ¬ (0 : Int) ≠ 0 from fun h => h rfl)]
      rw [show node (count (change (count t) 0 (.cut (readB b).2))).dir name = some 0 from g1.noded]
    · rfl
  · rw [hlg]
    have := hmo.1.length_le
    rw [List.length_take, Nat.min_eq_left hk] at this
    exact this
  · rw [hlg]
    exact hcut.1
end Go.Fsy
