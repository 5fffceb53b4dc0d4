/- A range over a function whose iterator tells its caller, at each round, what it has just laid; and one whose body may panic. Nothing here speaks of the program. -/
import Derived.RangeFuncNested
import Derived.RangeFuncCalls
import Derived.RangeFuncLeaves
namespace Go.Lec
open Go.RowKit
variable {P : Program} {n : Nat}
/-- What an iterator promises: as SeqStopsK, but a round is asked for only where Y holds of what came before, the element and the world; and a round may panic, and then so does the iterator. -/
def SeqX {α : Type} (P : Program) (n g : Nat) (lb : Array Value) (encs : α → Array Value) (Y : List α → α → World → Prop) (Kp : World → World → Prop) (S Sp : List α → Prop) (N : Nat) (w : World) : Prop :=
  ∀ (l : Nat) (J Jx : List α → World → Prop) (Jp : List PanicEntry → World → Prop) (W : World), Below w.heap.size w W → AbidesFrom W.heap.size J →
    (∀ pre x W1, J pre W1 → Y pre x W1 → pre.length < N → YieldAt Fence.wide (n - 1) P l (encs x) W1 fun e W' =>
      (e = .returned (.bool true) ∧ J (pre ++ [x]) W' ∧ Kp W1 W') ∨ (e = .returned (.bool false) ∧ Jx (pre ++ [x]) W') ∨ (∃ ch, e = .panicked ch ∧ Jp ch W')) →
    J [] W →
    CallsIn Fence.wide n P g (#[.func (.yield l) #[] #[]] ++ lb) W fun e W' =>
      ((∃ v, e = .returned v) ∧ ((∃ xs, S xs ∧ J xs W') ∨ (∃ pre, Sp pre ∧ Jx pre W'))) ∨ (∃ ch, e = .panicked ch ∧ Jp ch W')
/-- The two blocks that a loop lays: for the rounds' deferred calls, and its record. -/
structure Laid (D : Nat) (r : Loop) (W : World) : Prop where
  rc : W.heap[D + 1]? = some (.loop r)
  dm : W.heap[D]? = some (.deferred (some []))
section
variable {D B : Nat} {r r' : Loop} {w W W' : World}
theorem Laid.lt (h : Laid D r W) : D + 1 < W.heap.size := (Array.getElem?_eq_some_iff.1 h.rc).1
theorem Laid.keep (h : Laid D r W) (k : KeepsFrom B W W') (hB : B ≤ D) : Laid D r W' := ⟨k.same _ _ (by omega) h.rc rfl, k.same _ _ hB h.dm rfl⟩
theorem Laid.turn (h : Laid D r W) (r' : Loop) : Laid D r' (W.putObj (D + 1) (.loop r')) := ⟨World.putObj_heap_same h.lt, (World.putObj_heap_other (by omega)).trans h.dm⟩
theorem Laid.walk {row : Option Nat} (h : Laid D r W) (hg : W.grownBy W' row) (hr : ∀ k, row = some k → ∃ o : Obj, W.heap[k]? = some o ∧ o.isWalk = true) : Laid D r W' :=
  ⟨(grownBy_keeps hg hr h.rc rfl).trans h.rc, (grownBy_keeps hg hr h.dm rfl).trans h.dm⟩
/-- A loop that is no round's begins. -/
theorem laid_new (w : World) (r : Loop) : Laid w.heap.size r ((w.alloc (.deferred (some []))).alloc (.loop r)) := by
  refine ⟨?_, (Below.heap_alloc _ _ _ (by simp)).trans (World.alloc_heap_new w _)⟩
  have := World.alloc_heap_new (w.alloc (.deferred (some []))) (.loop r)
  rwa [World.size_alloc] at this
end
/-- What the body must come to. -/
theorem range_X {α : Type} {g : Operand} {ps : Array Tmp} {assign body : Code} {Q : Exit → Act → World → Prop} {a : Act} {w : World} (h1 : 1 ≤ n)
    {gf : Nat} {lb : Array Value} (hg : a.eval g = .func (.func gf) #[] lb) (eg : ∀ args w, (callFunc gf args).run P w = .ok (.enter gf args) w)
    {encs : α → Array Value} {Y : List α → α → World → Prop} {Kp : World → World → Prop} {S Sp : List α → Prop} {N : Nat} {w0 : World} (hseq : SeqX P (n - 1) gf lb encs Y Kp S Sp N w0)
    (hKt : ∀ {A B C : World}, Kp A B → Kp B C → Kp A C) (hKb : ∀ (W : World) (l : Nat) (o o' : Obj), w.heap.size ≤ l → W.heap[l]? = some o → o.isCells = false → o.isWalk = false → Kp W (W.putObj l o')) (hb0 : Below w0.heap.size w0 w) (hps : ∀ x, (encs x).size = ps.size)
    (I : List α → World → Prop) (Ix : Code → List α → World → Prop) (hI : OwnFrom w.heap.size I) (hIx : ∀ c, OwnFrom w.heap.size (Ix c)) (h0 : I [] w)
    (Ax : List α → α → Act → World → Prop) (hAx : ∀ pre x, OwnFrom w.heap.size (Ax pre x))
    (hassign : ∀ (l : Nat) (pre : List α) (x : α) (W : World), I pre W → Y pre x W →
      assign.wpIn (Fence.wide.inRound l) (n - 1 - 1) P (Exit.then (fun a' W' => KeepsFrom w.heap.size W W' ∧ Kp W W' ∧ I pre W' ∧ Ax pre x a' W') (fun _ _ _ => False)) { tmps := (ps.zip (encs x)).foldl (fun t (p, v) => t.setIfInBounds p v) a.tmps, defers := [] } W)
    (hbody : ∀ (l : Nat) (pre : List α) (x : α) (a' : Act) (W : World), I pre W → Ax pre x a' W → pre.length < N → body.wpIn (Fence.wide.inRound l) (n - 1 - 1) P (ownPostG w.heap.size Kp I Ix (pre ++ [x]) W) a' W)
    (hdone : ∀ (D : Nat) (xs : List α) (W : World), w.heap.size ≤ D → S xs → I xs W → W.heap[D]? = some (.deferred (some [])) → Q .normal { a with defers := { target := .collected D, args := #[] } :: a.defers } W)
    (hstop : ∀ (D : Nat) (c : Code) (pre : List α) (W : World), w.heap.size ≤ D → Sp pre → Ix c pre W → W.heap[D]? = some (.deferred (some [])) → c.wpIn Fence.wide n P Q { a with defers := { target := .collected D, args := #[] } :: a.defers } W) :
    (Code.rangeFunc g ps assign body).wpIn Fence.wide n P Q a w := by
  refine wpIn_rangeFunc fun fn _ => ?_
  -- the record, by its state and its pending jump
  let rec_ : LoopState → Option Code → Loop := fun st pe => { state := st, pending := pe, fn, tmps := a.tmps, params := ps, assign, body, defers := w.heap.size }
  obtain ⟨W1, hW1⟩ : ∃ W1, W1 = (w.alloc (.deferred (some []))).alloc (.loop (rec_ .ready none)) := ⟨_, rfl⟩
  have hL : Laid w.heap.size (rec_ .ready none) W1 := hW1 ▸ laid_new w _
  have hsz : W1.heap.size = w.heap.size + 2 := by rw [hW1]; simp
  have hlow : ∀ {A : World} {row : Option Nat}, (∀ k, row = some k → W1.heap.size ≤ k ∧ ∃ o : Obj, A.heap[k]? = some o ∧ o.isWalk = true) → ∀ k, row = some k → w.heap.size ≤ k ∧ ∃ o : Obj, A.heap[k]? = some o ∧ o.isCells = false := by
    intro A row h k hk
    obtain ⟨hB, o, ho, hw⟩ := h k hk
    exact ⟨by omega, o, ho, Obj.not_cells_of_walk hw⟩
  have hI1 : I [] W1 := by rw [hW1]; exact hI.alloc _ (hI.alloc _ h0)
  have hb1 : Below w0.heap.size w0 W1 := by
    rw [hW1]; exact hb0.trans ((((Below.refl _ w).alloc (Nat.le_refl _) _).alloc (by simp) _).mono hb0.size)
  refine ⟨w.heap.size + 1, [{ target := .collected w.heap.size, args := #[] }], W1, { target := .fn (.func gf) lb, args := #[.func (.yield (w.heap.size + 1)) #[] #[]] }, W1, gf, #[.func (.yield (w.heap.size + 1)) #[] #[]] ++ lb, W1,
    by rw [hW1]; exact run_enterLoop_outer _ _ _ _ _, by simp only [resolve, hg]; simp [go_sem], fun _ _ => trivial, by simp [invoke, go_sem, eg], fun _ => h1, ?_⟩
  refine (hseq (w.heap.size + 1) (fun pre W => I pre W ∧ Laid w.heap.size (rec_ .ready none) W) (fun pre W => ∃ c, Ix c pre W ∧ Laid w.heap.size (rec_ .done (some c)) W) (fun _ _ => False) W1 hb1
    (fun s A B row hs hgr hr => ⟨hI s A B row hs.1 hgr (hlow hr), hs.2.walk hgr (fun k hk => (hr k hk).2)⟩) ?_ ⟨hI1, hL⟩).mono ?_
  · -- one round
    rintro pre x W ⟨hi, hl⟩ hy hlen
    refine ⟨fn, _, assign, body, run_yield hl.rc (hps x), roundIn_of_wpIn trivial (wpIn_mono (hassign (w.heap.size + 1) pre x W hi hy) ?_)⟩
    intro e a' Wa hp
    cases e with
    | normal =>
      obtain ⟨hkf, hkp, hia, hax⟩ := hp
      have hla := hl.keep hkf (Nat.le_refl _)
      have hlb := hla.turn (rec_ .busy none)
      refine ⟨_, run_beginRound hla.rc rfl, wpIn_mono (hbody _ pre x a' _ (hI.putObj _ hia (by omega) hla.rc rfl) ((hAx pre x).putObj _ hax (by omega) hla.rc rfl) hlen) ?_⟩
      have hkb := hKb Wa (w.heap.size + 1) _ (.loop (rec_ .busy none)) (by omega) hla.rc rfl rfl
      intro e3 a3 W3 hp3
      cases e3 with
      | normal =>
        obtain ⟨hk3, hkp3, hi3⟩ := hp3
        have hl3 := hlb.keep hk3 (Nat.le_refl _)
        exact ⟨_, _, run_endRound none hl3.rc, .inl ⟨rfl, ⟨hI.putObj _ hi3 (by omega) hl3.rc rfl, hl3.turn _⟩, hKt hkp (hKt (hKt hkb hkp3) (hKb _ _ _ _ (by omega) hl3.rc rfl rfl))⟩⟩
      | ret =>
        have hl3 := hlb.keep hp3.1 (Nat.le_refl _)
        exact ⟨_, _, run_endRound (some .ret) hl3.rc, .inr (.inl ⟨rfl, .ret, (hIx _).putObj _ hp3.2 (by omega) hl3.rc rfl, hl3.turn _⟩)⟩
      | exit id =>
        have hl3 := hlb.keep hp3.1 (Nat.le_refl _)
        exact ⟨_, _, run_endRound (some (.exit id)) hl3.rc, .inr (.inl ⟨rfl, .exit id, (hIx _).putObj _ hp3.2 (by omega) hl3.rc rfl, hl3.turn _⟩)⟩
      | goto t =>
        have hl3 := hlb.keep hp3.1 (Nat.le_refl _)
        exact ⟨_, _, run_endRound (some (.goto t)) hl3.rc, .inr (.inl ⟨rfl, .goto t, (hIx _).putObj _ hp3.2 (by omega) hl3.rc rfl, hl3.turn _⟩)⟩
      | panic ch => exact hp3.elim
      | outgrown => exact hp3.elim
    | ret => exact hp.elim
    | exit id => exact hp.elim
    | goto t => exact hp.elim
    | panic ch => exact hp.elim
    | outgrown => exact hp.elim
  · -- behind the iterator
    rintro e W2 (⟨⟨v, rfl⟩, (⟨xs, hS, hi, hl⟩ | ⟨pre, hSp, c, hi, hl⟩)⟩ | ⟨_, _, hf⟩)
    · exact ⟨none, _, run_endLoop hl.rc (by simp [rec_]), hdone _ xs _ (Nat.le_refl _) hS (hI.putObj _ hi (by omega) hl.rc rfl) ((World.putObj_heap_other (by omega)).trans hl.dm)⟩
    · exact ⟨some c, _, run_endLoop hl.rc (by simp [rec_]), hstop _ c pre _ (Nat.le_refl _) hSp ((hIx c).putObj _ hi (by omega) hl.rc rfl) ((World.putObj_heap_other (by omega)).trans hl.dm)⟩
    · exact hf.elim
end Go.Lec
/- A range over a function whose iterator tells its caller what comes next; the frame within a round is told by what it is made of. Nothing here speaks of the program. -/
namespace Go.Lec
open Go.RowKit
variable {P : Program} {n : Nat}
theorem range_F {α : Type} {g : Operand} {ps : Array Tmp} {assign body : Code} {Q : Exit → Act → World → Prop} {a : Act} {w : World} (h1 : 1 ≤ n)
    {gf : Nat} {lb : Array Value} (hg : a.eval g = .func (.func gf) #[] lb) (eg : ∀ args w, (callFunc gf args).run P w = .ok (.enter gf args) w)
    {encs : α → Array Value} {Y : List α → α → Prop} {Kp : World → World → Prop} {S Sp : List α → Prop} {N : Nat} {w0 : World} (hseq : SeqX P (n - 1) gf lb encs (fun pre x _ => Y pre x) Kp S Sp N w0)
    (hKt : ∀ {A B C : World}, Kp A B → Kp B C → Kp A C) (hKb : ∀ (W : World) (l : Nat) (o o' : Obj), w.heap.size ≤ l → W.heap[l]? = some o → o.isCells = false → o.isWalk = false → Kp W (W.putObj l o')) (hb0 : Below w0.heap.size w0 w) (hps : ∀ x, (encs x).size = ps.size)
    (I : List α → World → Prop) (Ix : Code → List α → World → Prop) (hI : OwnFrom w.heap.size I) (hIx : ∀ c, OwnFrom w.heap.size (Ix c)) (h0 : I [] w) (hKr : ∀ W, Kp W W) (f : Array Value → α → Array Value)
    (hassign : ∀ (l : Nat) (x : α) (W : World), assign.wpIn (Fence.wide.inRound l) (n - 1 - 1) P (Exit.then (fun a' W' => a' = { tmps := f a.tmps x, defers := [] } ∧ W' = W) (fun _ _ _ => False)) { tmps := (ps.zip (encs x)).foldl (fun t (p, v) => t.setIfInBounds p v) a.tmps, defers := [] } W)
    (hbody : ∀ (l : Nat) (pre : List α) (x : α) (W : World), I pre W → Y pre x → pre.length < N → body.wpIn (Fence.wide.inRound l) (n - 1 - 1) P (ownPostG w.heap.size Kp I Ix (pre ++ [x]) W) { tmps := f a.tmps x, defers := [] } W)
    (hdone : ∀ (D : Nat) (xs : List α) (W : World), w.heap.size ≤ D → S xs → I xs W → W.heap[D]? = some (.deferred (some [])) → Q .normal { a with defers := { target := .collected D, args := #[] } :: a.defers } W)
    (hstop : ∀ (D : Nat) (c : Code) (pre : List α) (W : World), w.heap.size ≤ D → Sp pre → Ix c pre W → W.heap[D]? = some (.deferred (some [])) → c.wpIn Fence.wide n P Q { a with defers := { target := .collected D, args := #[] } :: a.defers } W) :
    (Code.rangeFunc g ps assign body).wpIn Fence.wide n P Q a w :=
  range_X h1 hg eg hseq hKt hKb hb0 hps I Ix hI hIx h0 (fun pre x a' _ => a' = { tmps := f a.tmps x, defers := [] } ∧ Y pre x) (fun _ _ => fun _ _ _ _ h _ _ => h)
    (fun l pre x W hi hy => wpIn_mono (hassign l x W) (fun e a' W' h => by
      cases e with
      | normal => obtain ⟨h1, rfl⟩ := h; exact ⟨KeepsFrom.refl _ _, hKr _, hi, h1, hy⟩
      | _ => exact h.elim))
    (fun l pre x a' W hi h hlen => by obtain ⟨rfl, hy⟩ := h; exact hbody l pre x W hi hy hlen) hdone hstop
end Go.Lec
