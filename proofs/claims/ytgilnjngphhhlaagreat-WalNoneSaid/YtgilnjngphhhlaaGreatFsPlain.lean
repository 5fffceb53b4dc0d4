/- Layer 1: what a file system is: plain words. Nothing here speaks of the program. -/
import Derived.Test.YtgilnjngphhhlaaGreatMem
namespace Go.Fsy
abbrev Bs := List UInt8
/-- A change: appended bytes, or a cut. -/
inductive Ch where
  | add (b : Bs)
  | cut (n : Nat)
def Ch.lay (b : Bs) : Ch → Bs
  | .add c => b ++ c
  | .cut n => b.take n
/-- A file: its safe bytes, and its changes since. -/
structure Nd where
  safe : Bs
  chg : List Ch
def dataOf (b : Bs) (l : List Ch) : Bs := l.foldl Ch.lay b
def Nd.data (n : Nd) : Bs := dataOf n.safe n.chg
/-- A move: a name that was made, renamed, removed. -/
inductive Mv where
  | made (n : Bs) (i : Nat)
  | ren (a b : Bs) (i : Nat)
  | rem (a : Bs)
abbrev Dir := List (Bs × Nat)
def without (l : Dir) (n : Bs) : Dir := l.filter fun p => p.1 != n
def moved (l : Dir) : Mv → Dir
  | .made n i => without l n ++ [(n, i)]
  | .ren a b i => without (without l a) b ++ [(b, i)]
  | .rem a => without l a
def node (l : Dir) (n : Bs) : Option Nat := (l.find? fun p => p.1 == n).map (·.2)
structure Pl where
  crash : Int
  keep : List Int
  fail : List Int
  full : List Int
  room : Int
structure St where
  pl : Pl
  cnt : Nat
  died : Bool
  nodes : List Nd
  dir : Dir
  safe : Dir
  mvs : List Mv
/-- The i-th number of Keep. -/
def keepAt (l : List Int) (i : Nat) : Int := if l.length = 0 then 0 else l.getD (i % l.length) 0
def adv (l : List Int) (i : Nat) : Nat := if l.length = 0 then i else i + 1
/-- How many of n things survive, by a number. -/
def survive (k : Int) (n : Nat) : Nat := if k < 0 then n else k.toNat % (n + 1)
theorem survive_le (k : Int) (n : Nat) : survive k n ≤ n := by
  unfold survive
  split
  · exact Nat.le_refl _
  · have := Nat.mod_lt k.toNat (show 0 < n + 1 by omega); omega
/-- As much of a change as a number says; whether all of it. -/
def part (b : Bs) (k : Int) : Ch → Bs × Bool
  | .add c => (b ++ c.take (survive k c.length), survive k c.length == c.length)
  | .cut n => if k < 0 ∨ k % 2 = 1 then (b.take n, true) else (b, false)
/-- What survives of a file's changes; and the next number's place. -/
def parts (keep : List Int) : Nat → Bool → Bs → List Ch → Bs × Nat
  | i, _, b, [] => (b, i)
  | i, true, b, c :: l => parts keep (adv keep i) (part b (keepAt keep i) c).2 (part b (keepAt keep i) c).1 l
  | i, false, b, _ :: l => parts keep (adv keep i) false b l
def leB : Bs → Bs → Bool := fun x y => decide (x ≤ y)
/-- A directory's names, in order. -/
def namesOf (l : Dir) : List Bs := (l.map (·.1)).mergeSort leB
def ndAt (nodes : List Nd) (i : Nat) : Nd := nodes.getD i ⟨[], []⟩
/-- File by file what survives. -/
def dieNames (keep : List Int) (dir : Dir) : List Bs → List Nd → Nat → List Nd × Nat
  | [], nodes, i => (nodes, i)
  | x :: xs, nodes, i =>
    match node dir x with
    | none => dieNames keep dir xs nodes i
    | some j => dieNames keep dir xs (nodes.set j ⟨(parts keep i true (ndAt nodes j).safe (ndAt nodes j).chg).1, []⟩) (parts keep i true (ndAt nodes j).safe (ndAt nodes j).chg).2
/-- The directory behind a death. -/
def dieDir (s : St) : Dir := (s.mvs.take (survive (keepAt s.pl.keep 0) s.mvs.length)).foldl moved s.safe
def die (s : St) : St :=
  { s with died := true, dir := dieDir s, safe := dieDir s, mvs := [], nodes := (dieNames s.pl.keep (dieDir s) (namesOf (dieDir s)) s.nodes (adv s.pl.keep 0)).1 }
def count (s : St) : St := { s with cnt := s.cnt + 1 }
/-- What an operation answers ahead of all else. -/
def begin (s : St) : St × Int :=
  if s.died then (s, 12)
  else if ((s.cnt + 1 : Nat) : Int) = s.pl.crash then (die (count s), 12)
  else if s.pl.fail.contains ((s.cnt + 1 : Nat) : Int) then (count s, 10)
  else (count s, 0)
def mayC (c : UInt8) : Bool := !(decide (c.toNat < 33) || decide (126 < c.toNat) || c.toNat == 47)
def may (n : Bs) : Bool := decide (1 ≤ n.length) && decide (n.length ≤ 32) && n.all mayC
def full (s : St) : Bool := s.pl.full.contains (s.cnt : Int)
def sizeAt (s : St) (i : Nat) : Nat := (ndAt s.nodes i).data.length
def sumD (s : St) (l : Dir) : Nat := (l.map fun p => sizeAt s p.2).sum
def used (s : St) : Nat := if s.died then 0 else sumD s s.dir
def step (s : St) (m : Mv) : St := { s with dir := moved s.dir m, mvs := s.mvs ++ [m] }
def fresh (s : St) : St := { s with nodes := s.nodes ++ [⟨[], []⟩] }
def setNd (s : St) (i : Nat) (n : Nd) : St := { s with nodes := s.nodes.set i n }
def change (s : St) (i : Nat) (c : Ch) : St := setNd s i ⟨(ndAt s.nodes i).safe, (ndAt s.nodes i).chg ++ [c]⟩
def create (s : St) (name : Bs) : St × Int :=
  if (begin s).2 ≠ 0 then begin s
  else if may name = false then ((begin s).1, 15)
  else if (node (begin s).1.dir name).isSome then ((begin s).1, 13)
  else if 4096 ≤ (begin s).1.dir.length then ((begin s).1, 2)
  else if full (begin s).1 then ((begin s).1, 11)
  else (step (fresh (begin s).1) (.made name (begin s).1.nodes.length), 0)
/-- Whether there is no room for so many bytes more. -/
def noRoom (s : St) (n : Nat) : Bool := full s || (decide (0 < s.pl.room) && (decide (0 < n) && decide (s.pl.room < (used s : Int) + n)))
def append (s : St) (name b : Bs) : St × Int :=
  if (begin s).2 ≠ 0 then begin s
  else match node (begin s).1.dir name with
    | none => ((begin s).1, 14)
    | some i =>
      if 268435456 < sizeAt (begin s).1 i + b.length then ((begin s).1, 2)
      else if noRoom (begin s).1 b.length then ((begin s).1, 11)
      else if b.length = 0 then ((begin s).1, 0)
      else (change (begin s).1 i (.add b), 0)
def cutF (s : St) (name : Bs) (n : Int) : St × Int :=
  if (begin s).2 ≠ 0 then begin s
  else match node (begin s).1.dir name with
    | none => ((begin s).1, 14)
    | some i =>
      if n < 0 ∨ (sizeAt (begin s).1 i : Int) < n then ((begin s).1, 1)
      else if n < (sizeAt (begin s).1 i : Int) then (change (begin s).1 i (.cut n.toNat), 0)
      else ((begin s).1, 0)
def sync (s : St) (name : Bs) : St × Int :=
  if (begin s).2 ≠ 0 then begin s
  else match node (begin s).1.dir name with
    | none => ((begin s).1, 14)
    | some i => (setNd (begin s).1 i ⟨(ndAt (begin s).1.nodes i).data, []⟩, 0)
def rename (s : St) (a b : Bs) : St × Int :=
  if (begin s).2 ≠ 0 then begin s
  else match node (begin s).1.dir a with
    | none => ((begin s).1, 14)
    | some i =>
      if may b = false then ((begin s).1, 15)
      else if a = b then ((begin s).1, 0)
      else (step (begin s).1 (.ren a b i), 0)
def remove (s : St) (a : Bs) : St × Int :=
  if (begin s).2 ≠ 0 then begin s
  else match node (begin s).1.dir a with
    | none => ((begin s).1, 14)
    | some _ => (step (begin s).1 (.rem a), 0)
def settle (s : St) : St := { s with safe := s.dir, mvs := [] }
def syncDir (s : St) : St × Int :=
  if (begin s).2 ≠ 0 then begin s
  else if full (begin s).1 then ((begin s).1, 11)
  else (settle (begin s).1, 0)
def read (s : St) (name : Bs) (i n : Int) : Bs × Int :=
  if s.died then ([], 12)
  else match node s.dir name with
    | none => ([], 14)
    | some j =>
      if i < 0 ∨ n < 0 ∨ (sizeAt s j : Int) < i + n then ([], 1)
      else (((ndAt s.nodes j).data.drop i.toNat).take n.toNat, 0)
def size (s : St) (name : Bs) : Int × Int :=
  if s.died then (0, 12)
  else match node s.dir name with
    | none => (0, 14)
    | some j => ((sizeAt s j : Int), 0)
abbrev Fl := Bs × Bs
def fileOf (s : St) (l : Dir) (g : Nd → Bs) (n : Bs) : Fl := (n, g (ndAt s.nodes ((node l n).getD 0)))
def files (s : St) : List Fl := if s.died then [] else (namesOf s.dir).map (fileOf s s.dir Nd.data)
def safeFiles (s : St) : List Fl := (namesOf s.safe).map (fileOf s s.safe Nd.safe)
def live (s : St) (p : Pl) : St := { s with died := false, cnt := 0, pl := p }
def start (s : St) (p : Pl) : St := live (if s.died then s else die s) p
def new (p : Pl) : St := ⟨p, 0, false, [], [], [], []⟩

/-! ### What holds of every state -/
/-- The changes fit the bytes, and the bytes stay few. -/
def fits : Bs → List Ch → Prop
  | b, [] => b.length ≤ 268435456
  | b, .add c :: l => b.length ≤ 268435456 ∧ fits (b ++ c) l
  | b, .cut n :: l => b.length ≤ 268435456 ∧ n ≤ b.length ∧ fits (b.take n) l
theorem fits_head {b : Bs} {l : List Ch} (h : fits b l) : b.length ≤ 268435456 := by
  cases l with
  | nil => exact h
  | cons c l => cases c with
    | add c => exact h.1
    | cut n => exact h.1
theorem fits_data : ∀ {l : List Ch} {b : Bs}, fits b l → (dataOf b l).length ≤ 268435456
  | [], _b, h => h
  | .add c :: l, b, h => fits_data (l := l) (b := b ++ c) h.2
  | .cut n :: l, b, h => fits_data (l := l) (b := b.take n) h.2.2
theorem fits_snoc : ∀ {l : List Ch} {b : Bs} {c : Ch}, fits b l → fits (dataOf b l) [c] → fits b (l ++ [c])
  | [], _b, _c, _, h => h
  | .add d :: l, b, _c, h, h2 => ⟨h.1, fits_snoc (l := l) (b := b ++ d) h.2 h2⟩
  | .cut n :: l, b, _c, h, h2 => ⟨h.1, h.2.1, fits_snoc (l := l) (b := b.take n) h.2.2 h2⟩
theorem dataOf_snoc (b : Bs) (l : List Ch) (c : Ch) : dataOf b (l ++ [c]) = c.lay (dataOf b l) := by simp [dataOf]
/-- The longest that the bytes come to on the way. -/
theorem parts_len {keep : List Int} : ∀ {l : List Ch} {i : Nat} {b : Bs} {wh : Bool}, fits b l → (parts keep i wh b l).1.length ≤ 268435456
  | [], i, b, wh, h => h
  | .add c :: l, i, b, false, h => parts_false_len h.1
  | .cut n :: l, i, b, false, h => parts_false_len h.1
  | .add c :: l, i, b, true, h => by
    have hb := fits_head h.2
    have hs := survive_le (keepAt keep i) c.length
    rw [parts]
    simp only [part]
    by_cases he : survive (keepAt keep i) c.length = c.length
    · rw [he, List.take_length, beq_self_eq_true]
      exact parts_len (l := l) h.2
    · rw [beq_eq_false_iff_ne.2 he]
      refine parts_false_len ?_
      rw [List.length_append] at hb ⊢
      rw [List.length_take]
      omega
  | .cut n :: l, i, b, true, h => by
    rw [parts]
    simp only [part]
    split
    · exact parts_len (l := l) h.2.2
    · exact parts_false_len h.1
where
  parts_false_len {keep : List Int} : ∀ {l : List Ch} {i : Nat} {b : Bs}, b.length ≤ 268435456 → (parts keep i false b l).1.length ≤ 268435456
    | [], _, _, h => h
    | _ :: _, _, _, h => by rw [parts]; exact parts_false_len h
def Mv.okIn (n : Nat) : Mv → Prop
  | .made a i => a ≠ [] ∧ i < n
  | .ren a b i => a ≠ [] ∧ b ≠ [] ∧ i < n
  | .rem a => a ≠ []
def dirOk (n : Nat) (l : Dir) : Prop := (l.map (·.1)).Nodup ∧ ∀ p ∈ l, p.1 ≠ [] ∧ p.1.length ≤ 4294967296 ∧ p.2 < n
def Mv.short : Mv → Prop
  | .made a _ => a.length ≤ 4294967296
  | .ren a b _ => a.length ≤ 4294967296 ∧ b.length ≤ 4294967296
  | .rem a => a.length ≤ 4294967296
theorem without_sub (l : Dir) (n : Bs) : (without l n).Sublist l := List.filter_sublist
theorem dirOk_without {k : Nat} {l : Dir} (h : dirOk k l) (n : Bs) : dirOk k (without l n) :=
  ⟨h.1.sublist ((without_sub l n).map _), fun p hp => h.2 p ((without_sub l n).subset hp)⟩
theorem dirOk_more {k m : Nat} {l : Dir} (h : dirOk k l) (hm : k ≤ m) : dirOk m l := ⟨h.1, fun p hp => ⟨(h.2 p hp).1, (h.2 p hp).2.1, by have := (h.2 p hp).2.2; omega⟩⟩
theorem dirOk_put {k : Nat} {l : Dir} (h : dirOk k l) {n : Bs} {i : Nat} (hn : n ≠ []) (hl : n.length ≤ 4294967296) (hi : i < k) : dirOk k (without l n ++ [(n, i)]) := by
  have h1 := dirOk_without h n
  refine ⟨?_, ?_⟩
  · rw [List.map_append, List.nodup_append]
    refine ⟨h1.1, by simp, ?_⟩
    intro a ha b hb
    simp only [List.map_cons, List.map_nil, List.mem_singleton] at hb
    subst hb
    obtain ⟨p, hp, rfl⟩ := List.mem_map.1 ha
    have := (List.mem_filter.1 hp).2
    simpa using this
  · intro p hp
    rcases List.mem_append.1 hp with hp | hp
    · exact h1.2 p hp
    · rw [List.mem_singleton] at hp; subst hp; exact ⟨hn, hl, hi⟩
theorem dirOk_moved {k : Nat} {l : Dir} (h : dirOk k l) {m : Mv} (hm : m.okIn k) (hs : m.short) : dirOk k (moved l m) := by
  cases m with
  | made n i => exact dirOk_put h hm.1 hs hm.2
  | ren a b i => exact dirOk_put (dirOk_without h a) hm.2.1 hs.2 hm.2.2
  | rem a => exact dirOk_without h a
theorem moved_len (l : Dir) (m : Mv) : (moved l m).length ≤ l.length + 1 := by
  cases m with
  | made n i => have := (without_sub l n).length_le; simp [moved]; omega
  | ren a b i => have := (without_sub (without l a) b).length_le; have := (without_sub l a).length_le; simp [moved]; omega
  | rem a => have := (without_sub l a).length_le; simp [moved]; omega
theorem movedL_len : ∀ (ms : List Mv) (l : Dir), (ms.foldl moved l).length ≤ l.length + ms.length
  | [], l => Nat.le_refl _
  | m :: ms, l => by
    have h1 := movedL_len ms (moved l m)
    have h2 := moved_len l m
    rw [List.foldl_cons, List.length_cons]
    omega
theorem dirOk_movedL {k : Nat} : ∀ {ms : List Mv} {l : Dir}, dirOk k l → (∀ m ∈ ms, m.okIn k ∧ m.short) → dirOk k (ms.foldl moved l)
  | [], _, h, _ => h
  | m :: ms, _l, h, hm => dirOk_movedL (ms := ms) (dirOk_moved h (hm m List.mem_cons_self).1 (hm m List.mem_cons_self).2) (fun x hx => hm x (List.mem_cons_of_mem _ hx))
theorem node_some {l : Dir} {n : Bs} {i : Nat} (h : node l n = some i) : (n, i) ∈ l := by
  unfold node at h
  obtain ⟨p, hp, rfl⟩ := Option.map_eq_some_iff.1 h
  have h1 := List.mem_of_find?_eq_some hp
  have h2 := List.find?_some hp
  simp only [beq_iff_eq] at h2
  rw [← h2]
  exact h1
theorem node_of_mem {l : Dir} (hl : (l.map (·.1)).Nodup) {n : Bs} {i : Nat} (h : (n, i) ∈ l) : node l n = some i := by
  induction l with
  | nil => cases h
  | cons p l ih =>
    unfold node
    rw [List.find?_cons]
    rw [List.map_cons, List.nodup_cons] at hl
    rcases List.mem_cons.1 h with rfl | h
    · simp
    · have hne : (p.1 == n) = false := by
        rw [beq_eq_false_iff_ne]
        rintro rfl
        exact hl.1 (List.mem_map.2 ⟨_, h, rfl⟩)
      rw [hne]
      exact ih hl.2 h
theorem node_none {l : Dir} {n : Bs} (h : node l n = none) : ∀ i, (n, i) ∉ l := by
  intro i hi
  unfold node at h
  rw [Option.map_eq_none_iff, List.find?_eq_none] at h
  have := h _ hi
  simp at this
/-- What holds of a state; N: a bound on all numbers. -/
structure Inv (s : St) (N : Nat) : Prop where
  dir : dirOk s.nodes.length s.dir
  safe : dirOk s.nodes.length s.safe
  mvs : ∀ m ∈ s.mvs, m.okIn s.nodes.length ∧ m.short
  nds : ∀ n ∈ s.nodes, fits n.safe n.chg ∧ n.chg.length ≤ N
  nDir : s.dir.length ≤ N
  nSafe : s.safe.length + s.mvs.length ≤ N
  nNodes : s.nodes.length ≤ N
  nCnt : s.cnt ≤ N
theorem Inv.more {s : St} {N M : Nat} (h : Inv s N) (hm : N ≤ M) : Inv s M :=
  ⟨h.dir, h.safe, h.mvs, fun n hn => ⟨(h.nds n hn).1, by have := (h.nds n hn).2; omega⟩, by have := h.nDir; omega, by have := h.nSafe; omega, by have := h.nNodes; omega, by have := h.nCnt; omega⟩
theorem Inv.nd {s : St} {N : Nat} (h : Inv s N) (i : Nat) : fits (ndAt s.nodes i).safe (ndAt s.nodes i).chg ∧ (ndAt s.nodes i).chg.length ≤ N := by
  unfold ndAt
  rw [List.getD_eq_getElem?_getD]
  cases hg : s.nodes[i]? with
  | none => exact ⟨Nat.zero_le _, Nat.zero_le _⟩
  | some n => exact h.nds n (List.mem_of_getElem? hg)
theorem Inv.size {s : St} {N : Nat} (h : Inv s N) (i : Nat) : sizeAt s i ≤ 268435456 := fits_data (h.nd i).1
theorem Mv.okIn_more {m : Mv} {k n : Nat} (h : m.okIn k) (hn : k ≤ n) : m.okIn n := by
  cases m with
  | made a i => exact ⟨h.1, Nat.lt_of_lt_of_le h.2 hn⟩
  | ren a b i => exact ⟨h.1, h.2.1, Nat.lt_of_lt_of_le h.2.2 hn⟩
  | rem a => exact h
theorem dieNames_len (keep : List Int) (dir : Dir) : ∀ (xs : List Bs) (nodes : List Nd) (i : Nat), (dieNames keep dir xs nodes i).1.length = nodes.length
  | [], _, _ => rfl
  | x :: xs, nodes, i => by
    rw [dieNames]
    split
    · exact dieNames_len keep dir xs nodes i
    · rw [dieNames_len, List.length_set]
theorem dieNames_ok {keep : List Int} {dir : Dir} {N : Nat} : ∀ {xs : List Bs} {nodes : List Nd} {i : Nat}, (∀ n ∈ nodes, fits n.safe n.chg ∧ n.chg.length ≤ N) → ∀ n ∈ (dieNames keep dir xs nodes i).1, fits n.safe n.chg ∧ n.chg.length ≤ N
  | [], _, _, h => h
  | x :: xs, nodes, i, h => by
    rw [dieNames]
    split
    · exact dieNames_ok (xs := xs) h
    · rename_i j _
      refine dieNames_ok (xs := xs) ?_
      intro n hn
      rcases List.mem_or_eq_of_mem_set hn with hn | rfl
      · exact h n hn
      · refine ⟨?_, Nat.zero_le _⟩
        refine parts_len ?_
        unfold ndAt
        rw [List.getD_eq_getElem?_getD]
        cases hg : nodes[j]? with
        | none => exact Nat.zero_le _
        | some n => exact (h n (List.mem_of_getElem? hg)).1
theorem dieDir_ok {s : St} {N : Nat} (h : Inv s N) : dirOk s.nodes.length (dieDir s) := dirOk_movedL h.safe (fun m hm => h.mvs m (List.mem_of_mem_take hm))
theorem dieDir_len {s : St} {N : Nat} (h : Inv s N) : (dieDir s).length ≤ N := by
  have h1 := movedL_len (s.mvs.take (survive (keepAt s.pl.keep 0) s.mvs.length)) s.safe
  have h2 := h.nSafe
  rw [List.length_take] at h1
  unfold dieDir
  omega
theorem Inv.die {s : St} {N : Nat} (h : Inv s N) : Inv (die s) N := by
  have hl := dieNames_len s.pl.keep (dieDir s) (namesOf (dieDir s)) s.nodes (adv s.pl.keep 0)
  have hd := dieDir_len h
  exact ⟨by show dirOk _ (dieDir s); rw [show (Fsy.die s).nodes.length = s.nodes.length from hl]; exact dieDir_ok h, by show dirOk _ (dieDir s); rw [show (Fsy.die s).nodes.length = s.nodes.length from hl]; exact dieDir_ok h,
    (fun m hm => by cases hm), dieNames_ok h.nds, hd, by show (dieDir s).length + 0 ≤ N; omega, by rw [show (Fsy.die s).nodes.length = s.nodes.length from hl]; exact h.nNodes, h.nCnt⟩
theorem Inv.count {s : St} {N : Nat} (h : Inv s N) : Inv (count s) (N + 1) := by
  have h1 := h.more (Nat.le_succ N)
  exact ⟨h1.dir, h1.safe, h1.mvs, h1.nds, h1.nDir, h1.nSafe, h1.nNodes, Nat.succ_le_succ h.nCnt⟩
theorem Inv.begin {s : St} {N : Nat} (h : Inv s N) : Inv (begin s).1 (N + 1) := by
  unfold Fsy.begin
  split
  · exact h.more (Nat.le_succ N)
  · split
    · exact h.count.die
    · split <;> exact h.count
theorem Inv.step {s : St} {N : Nat} (h : Inv s N) {m : Mv} (hm : m.okIn s.nodes.length) (hs : m.short) : Inv (step s m) (N + 1) := by
  have h1 := h.more (Nat.le_succ N)
  refine ⟨dirOk_moved h.dir hm hs, h.safe, ?_, h1.nds, ?_, ?_, h1.nNodes, h1.nCnt⟩
  · intro x hx
    rcases List.mem_append.1 hx with hx | hx
    · exact h.mvs x hx
    · rw [List.mem_singleton] at hx; subst hx; exact ⟨hm, hs⟩
  · have := moved_len s.dir m
    have := h.nDir
    show (moved s.dir m).length ≤ N + 1
    omega
  · have := h.nSafe
    show s.safe.length + (s.mvs ++ [m]).length ≤ N + 1
    rw [List.length_append, List.length_singleton]
    omega
theorem Inv.fresh {s : St} {N : Nat} (h : Inv s N) : Inv (fresh s) (N + 1) := by
  have h1 := h.more (Nat.le_succ N)
  have hl : (Fsy.fresh s).nodes.length = s.nodes.length + 1 := by simp [Fsy.fresh]
  refine ⟨?_, ?_, ?_, ?_, h1.nDir, h1.nSafe, ?_, h1.nCnt⟩
  · rw [hl]; exact dirOk_more h.dir (Nat.le_succ _)
  · rw [hl]; exact dirOk_more h.safe (Nat.le_succ _)
  · rw [hl]; exact fun m hm => ⟨Mv.okIn_more (h.mvs m hm).1 (Nat.le_succ _), (h.mvs m hm).2⟩
  · intro n hn
    rcases List.mem_append.1 hn with hn | hn
    · exact h1.nds n hn
    · rw [List.mem_singleton] at hn; subst hn; exact ⟨Nat.zero_le _, Nat.zero_le _⟩
  · rw [hl]; have := h.nNodes; omega
theorem Inv.setNd {s : St} {N : Nat} (h : Inv s N) {i : Nat} {n : Nd} (hn : fits n.safe n.chg ∧ n.chg.length ≤ N) : Inv (setNd s i n) N := by
  have hl : (Fsy.setNd s i n).nodes.length = s.nodes.length := by simp [Fsy.setNd]
  refine ⟨by rw [hl]; exact h.dir, by rw [hl]; exact h.safe, by rw [hl]; exact h.mvs, ?_, h.nDir, h.nSafe, by rw [hl]; exact h.nNodes, h.nCnt⟩
  intro x hx
  rcases List.mem_or_eq_of_mem_set hx with hx | rfl
  · exact h.nds x hx
  · exact hn
theorem Inv.change {s : St} {N : Nat} (h : Inv s N) {i : Nat} {c : Ch} (hc : fits (ndAt s.nodes i).data [c]) : Inv (change s i c) (N + 1) := by
  refine (h.more (Nat.le_succ N)).setNd ⟨fits_snoc (h.nd i).1 hc, ?_⟩
  have := (h.nd i).2
  simp
  omega
theorem may_ne {n : Bs} (h : may n = true) : n ≠ [] := by rintro rfl; simp [may] at h
theorem may_len {n : Bs} (h : may n = true) : n.length ≤ 32 := by simp [may] at h; omega
theorem Inv.create {s : St} {N : Nat} (h : Inv s N) (name : Bs) : Inv (create s name).1 (N + 3) := by
  have hb := h.begin
  unfold Fsy.create
  split
  · exact hb.more (by omega)
  · split
    · exact hb.more (by omega)
    · rename_i hm
      split
      · exact hb.more (by omega)
      · split
        · exact hb.more (by omega)
        · split
          · exact hb.more (by omega)
          · have hm' : may name = true := by simpa using hm
            exact hb.fresh.step (m := .made name _) ⟨may_ne hm', by simp [Fsy.fresh]⟩ (by have := may_len hm'; show name.length ≤ _; omega)
theorem Inv.append {s : St} {N : Nat} (h : Inv s N) (name b : Bs) : Inv (append s name b).1 (N + 2) := by
  have hb := h.begin
  unfold Fsy.append
  split
  · exact hb.more (by omega)
  · split
    · exact hb.more (by omega)
    · rename_i i _
      split
      · exact hb.more (by omega)
      · rename_i hsz
        split
        · exact hb.more (by omega)
        · split
          · exact hb.more (by omega)
          · refine hb.change ⟨hb.size i, ?_⟩
            show ((ndAt (Fsy.begin s).1.nodes i).data ++ b).length ≤ _
            rw [List.length_append]
            unfold sizeAt at hsz
            omega
theorem Inv.cutF {s : St} {N : Nat} (h : Inv s N) (name : Bs) (n : Int) : Inv (cutF s name n).1 (N + 2) := by
  have hb := h.begin
  unfold Fsy.cutF
  split
  · exact hb.more (by omega)
  · split
    · exact hb.more (by omega)
    · rename_i i _
      split
      · exact hb.more (by omega)
      · rename_i hr
        split
        · rename_i hlt
          refine hb.change ⟨hb.size i, ?_, ?_⟩
          · show n.toNat ≤ sizeAt (Fsy.begin s).1 i
            omega
          · show ((ndAt (Fsy.begin s).1.nodes i).data.take n.toNat).length ≤ _
            rw [List.length_take]
            have := hb.size i
            unfold sizeAt at this
            omega
        · exact hb.more (by omega)
theorem Inv.sync {s : St} {N : Nat} (h : Inv s N) (name : Bs) : Inv (sync s name).1 (N + 1) := by
  have hb := h.begin
  unfold Fsy.sync
  split
  · exact hb
  · split
    · exact hb
    · exact hb.setNd ⟨hb.size _, Nat.zero_le _⟩
theorem Inv.rename {s : St} {N : Nat} (h : Inv s N) (a b : Bs) : Inv (rename s a b).1 (N + 2) := by
  have hb := h.begin
  unfold Fsy.rename
  split
  · exact hb.more (by omega)
  · split
    · exact hb.more (by omega)
    · rename_i i hi
      have hd := hb.dir.2 _ (node_some hi)
      split
      · exact hb.more (by omega)
      · rename_i hm
        have hm' : may b = true := by simpa using hm
        split
        · exact hb.more (by omega)
        · exact hb.step (m := .ren a b i) ⟨hd.1, may_ne hm', hd.2.2⟩ ⟨hd.2.1, by have := may_len hm'; omega⟩
theorem Inv.remove {s : St} {N : Nat} (h : Inv s N) (a : Bs) : Inv (remove s a).1 (N + 2) := by
  have hb := h.begin
  unfold Fsy.remove
  split
  · exact hb.more (by omega)
  · split
    · exact hb.more (by omega)
    · rename_i i hi
      have hd := hb.dir.2 _ (node_some hi)
      exact hb.step (m := .rem a) hd.1 hd.2.1
theorem Inv.settle {s : St} {N : Nat} (h : Inv s N) : Inv (settle s) N := ⟨h.dir, h.dir, (fun m hm => by cases hm), h.nds, h.nDir, by have := h.nDir; show s.dir.length + 0 ≤ N; omega, h.nNodes, h.nCnt⟩
theorem Inv.syncDir {s : St} {N : Nat} (h : Inv s N) : Inv (syncDir s).1 (N + 1) := by
  have hb := h.begin
  unfold Fsy.syncDir
  split
  · exact hb
  · split
    · exact hb
    · exact hb.settle
theorem Inv.live {s : St} {N : Nat} (h : Inv s N) (p : Pl) : Inv (live s p) N := ⟨h.dir, h.safe, h.mvs, h.nds, h.nDir, h.nSafe, h.nNodes, Nat.zero_le _⟩
theorem Inv.start {s : St} {N : Nat} (h : Inv s N) (p : Pl) : Inv (start s p) N := by
  unfold Fsy.start
  split
  · exact h.live p
  · exact h.die.live p
theorem Inv.new (p : Pl) : Inv (new p) 0 :=
  ⟨⟨List.nodup_nil, fun _ h => by cases h⟩, ⟨List.nodup_nil, fun _ h => by cases h⟩, (fun _ h => by cases h), (fun _ h => by cases h), Nat.le_refl _, Nat.le_refl _, Nat.le_refl _, Nat.le_refl _⟩
end Go.Fsy
