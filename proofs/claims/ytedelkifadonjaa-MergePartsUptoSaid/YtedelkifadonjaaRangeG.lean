/- A range over a function whose iterator turns memory of its own between the rounds: who owns which blocks is told from round to round. Nothing here speaks of the program. -/
import Derived.RangeFuncNested
import Derived.RangeFuncCalls
import Derived.RangeFuncLeaves
namespace Go.Lec
open Go.RowKit
/-- Of what was there in w, nothing has turned in w' but in the blocks of X. -/
structure Kx (X : Nat → Prop) (w w' : World) : Prop where
  os : w'.os = w.os
  tape : w'.tape = w.tape
  output : w'.output = w.output
  size : w.heap.size ≤ w'.heap.size
  block : ∀ k, k < w.heap.size → ¬ X k → w'.heap[k]? = w.heap[k]?
section
variable {X X' : Nat → Prop} {a w w' : World} {B : Nat}
theorem Kx.refl (X : Nat → Prop) (w : World) : Kx X w w := ⟨rfl, rfl, rfl, Nat.le_refl _, fun _ _ _ => rfl⟩
theorem Kx.of_below (h : Below B a w) (hB : ∀ b, B ≤ b → b < a.heap.size → X b) : Kx X a w := ⟨h.os, h.tape, h.output, h.size, fun k hk hn => h.block k (by
  rcases Nat.lt_or_ge k B with h1 | h1
  · exact h1
  · exact absurd (hB k h1 hk) hn)⟩
theorem Kx.new_ (h : Below a.heap.size a w) : Kx X a w := Kx.of_below h (fun b h1 h2 => by omega)
theorem Kx.of_grown {row : Option Nat} (h : a.grownBy w row) (hr : ∀ g, row = some g → X g) : Kx X a w :=
  ⟨h.os, h.tape, h.output, h.size, fun k hk hn => h.block k hk fun e => hn (hr k e.symm)⟩
theorem Kx.drew (h : Kx X a w) : Kx X a w.drew := ⟨h.os, h.tape, h.output, h.size, h.block⟩
theorem Kx.trans (h : Kx X a w) (k : Kx X' w w') (hS : ∀ b, X' b → X b ∨ a.heap.size ≤ b) : Kx X a w' :=
  ⟨k.os.trans h.os, k.tape.trans h.tape, k.output.trans h.output, Nat.le_trans h.size k.size,
    fun b hb hn => (k.block b (Nat.lt_of_lt_of_le hb h.size) (fun hin => by rcases hS b hin with h1 | h1 <;> first | exact hn h1 | omega)).trans (h.block b hb hn)⟩
theorem Kx.more (h : Kx X a w) (hS : ∀ b, X b → X' b) : Kx X' a w := ⟨h.os, h.tape, h.output, h.size, fun k hk hn => h.block k hk fun hm => hn (hS k hm)⟩
theorem Kx.setCell (h : Kx X a w) {p : Addr} (hp : X p.block ∨ a.heap.size ≤ p.block) (u : Value) : Kx X a (w.setCell p u) :=
  ⟨h.os, h.tape, h.output, by have := h.size; simp; omega, fun k hk hn => (Below.heap_setCell w p u k (by rcases hp with hp | hp <;> (intro e; subst e; first | exact hn hp | omega))).trans (h.block k hk hn)⟩
theorem Kx.below (h : Kx X a w) (hS : ∀ b, X b → B ≤ b) (hB : B ≤ a.heap.size) : Below B a w :=
  ⟨h.os, h.tape, h.output, h.size, fun k hk => h.block k (by omega) fun hm => by have := hS k hm; omega⟩
theorem Kx.cell (h : Kx X a w) {p : Addr} (hp : p.block < a.heap.size) (hn : ¬ X p.block) : w.cell? p = a.cell? p := World.cell?_of_block (h.block _ hp hn)
/-- A block that is turned. -/
theorem Kx.put (w : World) (l : Nat) (o : Obj) (hl : X l) : Kx X w (w.putObj l o) := Kx.of_grown (grownBy_putObj' w l o) fun g e => by cases e; exact hl
end
/-- The least number of which something holds. -/
noncomputable def leastM (p : Nat → Prop) : Nat := Classical.epsilon fun r => p r ∧ ∀ s, p s → r ≤ s
theorem leastM_spec {p : Nat → Prop} (h : ∃ r, p r) : p (leastM p) ∧ ∀ s, p s → leastM p ≤ s := by
  have : ∃ r, p r ∧ ∀ s, p s → r ≤ s := by
    obtain ⟨r, hr⟩ := h
    induction r using Nat.strongRecOn with
    | _ r ih =>
      by_cases hs : ∃ s, p s ∧ s < r
      · obtain ⟨s, h1, h2⟩ := hs
        exact ih s h2 h1
      · refine ⟨r, hr, fun s h1 => ?_⟩
        rcases Nat.lt_or_ge s r with h2 | h2
        · exact absurd ⟨s, h1, h2⟩ hs
        · exact h2
  exact Classical.epsilon_spec this
variable {P : Program} {n : Nat}
/-- What an iterator promises that turns memory of its own. G: the blocks that are the caller's; each round may turn these alone, and take what the element brings (from lo x on). U: how the iterator's memory lies beside G; E: how at the end. -/
def SeqG {α : Type} (P : Program) (n g : Nat) (lb : Array Value) (encs : α → Array Value) (lo : α → Nat) (Tz : Nat → Prop) (Y : List α → α → World → Prop) (U E : (Nat → Prop) → World → Prop) (S Sp : List α → Prop) (N : Nat) (w : World) : Prop :=
  ∀ (l : Nat) (J Jx : List α → (Nat → Prop) → World → Prop) (W : World) (G : Nat → Prop), Below w.heap.size w W → U G W → (∀ b, G b → b < W.heap.size) →
    (∀ s G A B, J s G A → Kx Tz A B → J s G B) →
    (∀ pre x G W1, J pre G W1 → Y pre x W1 → W.heap.size ≤ lo x → (∀ b, G b → b < lo x) → pre.length < N → YieldAt Fence.wide (n - 1) P l (encs x) W1 fun e W' =>
      (e = .returned (.bool true) ∧ ∃ G', J (pre ++ [x]) G' W' ∧ Kx (fun b => G b ∨ lo x ≤ b) W1 W' ∧ ∀ b, G' b → b < W'.heap.size ∧ (G b ∨ lo x ≤ b)) ∨ (e = .returned (.bool false) ∧ ∃ G', Jx (pre ++ [x]) G' W' ∧ Kx (fun b => G b ∨ lo x ≤ b) W1 W' ∧ ∀ b, G' b → b < W'.heap.size ∧ (G b ∨ lo x ≤ b))) →
    J [] G W →
    CallsIn Fence.wide n P g (#[.func (.yield l) #[] #[]] ++ lb) W fun e W' =>
      (∃ v, e = .returned v) ∧ ((∃ xs G', S xs ∧ J xs G' W' ∧ E G' W') ∨ (∃ pre G', Sp pre ∧ Jx pre G' W' ∧ E G' W'))
/-- The two blocks that a loop lays: for the rounds' deferred calls, and its record. -/
structure LaidG (D : Nat) (r : Loop) (W : World) : Prop where
  rc : W.heap[D + 1]? = some (.loop r)
  dm : W.heap[D]? = some (.deferred (some []))
section
variable {D : Nat} {r r' : Loop} {w W W' : World} {X : Nat → Prop}
theorem LaidG.lt (h : LaidG D r W) : D + 1 < W.heap.size := (Array.getElem?_eq_some_iff.1 h.rc).1
theorem LaidG.kx (h : LaidG D r W) (k : Kx X W W') (h0 : ¬ X D) (h1 : ¬ X (D + 1)) : LaidG D r W' := ⟨(k.block _ h.lt h1).trans h.rc, (k.block _ (Nat.lt_of_succ_lt h.lt) h0).trans h.dm⟩
theorem LaidG.turn (h : LaidG D r W) (r' : Loop) : LaidG D r' (W.putObj (D + 1) (.loop r')) := ⟨World.putObj_heap_same h.lt, (World.putObj_heap_other (by omega)).trans h.dm⟩
theorem laidG_new (w : World) (r : Loop) : LaidG w.heap.size r ((w.alloc (.deferred (some []))).alloc (.loop r)) := by
  refine ⟨?_, (Below.heap_alloc _ _ _ (by simp)).trans (World.alloc_heap_new w _)⟩
  have := World.alloc_heap_new (w.alloc (.deferred (some []))) (.loop r)
  rwa [World.size_alloc] at this
end
/-- What a round comes to. -/
def postG {α : Type} (lo : Nat) (I : List α → (Nat → Prop) → World → Prop) (Ix : Code → List α → (Nat → Prop) → World → Prop) (xs : List α) (G : Nat → Prop) (W : World) : Exit → Act → World → Prop
  | .normal, _, W' => ∃ G', Kx (fun b => G b ∨ lo ≤ b) W W' ∧ (∀ b, G' b → b < W'.heap.size ∧ (G b ∨ lo ≤ b)) ∧ I xs G' W'
  | .ret, _, W' => ∃ G', Kx (fun b => G b ∨ lo ≤ b) W W' ∧ (∀ b, G' b → b < W'.heap.size ∧ (G b ∨ lo ≤ b)) ∧ Ix .ret xs G' W'
  | .exit id, _, W' => ∃ G', Kx (fun b => G b ∨ lo ≤ b) W W' ∧ (∀ b, G' b → b < W'.heap.size ∧ (G b ∨ lo ≤ b)) ∧ Ix (.exit id) xs G' W'
  | .goto t, _, W' => ∃ G', Kx (fun b => G b ∨ lo ≤ b) W W' ∧ (∀ b, G' b → b < W'.heap.size ∧ (G b ∨ lo ≤ b)) ∧ Ix (.goto t) xs G' W'
  | .panic _, _, _ => False
  | .outgrown, _, _ => False
theorem range_G {α : Type} {g : Operand} {ps : Array Tmp} {assign body : Code} {Q : Exit → Act → World → Prop} {a : Act} {w : World} (h1 : 1 ≤ n)
    {gf : Nat} {lb : Array Value} (hg : a.eval g = .func (.func gf) #[] lb) (eg : ∀ args w, (callFunc gf args).run P w = .ok (.enter gf args) w)
    {encs : α → Array Value} {lo : α → Nat} {Tz : Nat → Prop} {Y : List α → α → World → Prop} {U E : (Nat → Prop) → World → Prop} {S Sp : List α → Prop} {N : Nat} {w0 : World} (hseq : SeqG P (n - 1) gf lb encs lo Tz Y U E S Sp N w0) (hTz : ∀ b, Tz b → b < w.heap.size)
    (hb0 : Below w0.heap.size w0 w) (hps : ∀ x, (encs x).size = ps.size)
    {G0 : Nat → Prop} (hG0 : ∀ b, G0 b → b < w.heap.size) (hU : ∀ W', Below w.heap.size w W' → U (fun b => G0 b ∨ (w.heap.size ≤ b ∧ b < W'.heap.size)) W')
    (hE : ∀ G G' W W', E G W → (∀ b, G' b → G b) → Kx G W W' → E G' W')
    (I : List α → (Nat → Prop) → World → Prop) (Ix : Code → List α → (Nat → Prop) → World → Prop)
    (hI : ∀ s G A B, I s G A → Kx (fun b => Tz b ∨ (w.heap.size ≤ b ∧ ¬ G b)) A B → I s G B) (h0 : I [] G0 w)
    (Ax : List α → α → (Nat → Prop) → Act → World → Prop) (hAx : ∀ pre x G a' A B, Ax pre x G a' A → Kx (fun b => w.heap.size ≤ b ∧ ¬ G b) A B → Ax pre x G a' B)
    (hassign : ∀ (l : Nat) (pre : List α) (x : α) (G : Nat → Prop) (W : World), I pre G W → Y pre x W → (∀ b, G b → b < lo x) → assign.wpIn (Fence.wide.inRound l) (n - 1 - 1) P (Exit.then (fun a' W' => ∃ G', Kx (fun b => G b ∨ lo x ≤ b) W W' ∧ (∀ b, G' b → G b ∨ lo x ≤ b) ∧ Ax pre x G' a' W') (fun _ _ _ => False)) { tmps := (ps.zip (encs x)).foldl (fun t (p, v) => t.setIfInBounds p v) a.tmps, defers := [] } W)
    (hbody : ∀ (l : Nat) (pre : List α) (x : α) (G : Nat → Prop) (a' : Act) (W : World), Ax pre x G a' W → pre.length < N → body.wpIn (Fence.wide.inRound l) (n - 1 - 1) P (postG (lo x) I Ix (pre ++ [x]) G W) a' W)
    (hdone : ∀ (D : Nat) (xs : List α) (G : Nat → Prop) (W : World), w.heap.size ≤ D → ¬ G D → S xs → I xs G W → E (fun b => G b ∨ b = D) W → W.heap[D]? = some (.deferred (some [])) → Q .normal { a with defers := { target := .collected D, args := #[] } :: a.defers } W)
    (hstop : ∀ (D : Nat) (c : Code) (pre : List α) (G : Nat → Prop) (W : World), w.heap.size ≤ D → ¬ G D → Sp pre → Ix c pre G W → E (fun b => G b ∨ b = D) W → W.heap[D]? = some (.deferred (some [])) → c.wpIn Fence.wide n P Q { a with defers := { target := .collected D, args := #[] } :: a.defers } W)
    (hIx : ∀ c s G A B, Ix c s G A → Kx (fun b => w.heap.size ≤ b ∧ ¬ G b) A B → Ix c s G B) :
    (Code.rangeFunc g ps assign body).wpIn Fence.wide n P Q a w := by
  refine wpIn_rangeFunc fun fn _ => ?_
  let rec_ : LoopState → Option Code → Loop := fun st pe => { state := st, pending := pe, fn, tmps := a.tmps, params := ps, assign, body, defers := w.heap.size }
  obtain ⟨W1, hW1⟩ : ∃ W1, W1 = (w.alloc (.deferred (some []))).alloc (.loop (rec_ .ready none)) := ⟨_, rfl⟩
  have hL : LaidG w.heap.size (rec_ .ready none) W1 := hW1 ▸ laidG_new w _
  have hsz : W1.heap.size = w.heap.size + 2 := by rw [hW1]; simp
  have hbw : Below w.heap.size w W1 := by rw [hW1]; exact ((Below.refl _ w).alloc (Nat.le_refl _) _).alloc (by simp) _
  have hI1 : I [] G0 W1 := hI _ _ _ _ h0 (Kx.new_ hbw)
  have hb1 : Below w0.heap.size w0 W1 := hb0.trans (hbw.mono hb0.size)
  -- the caller's blocks, its loop's own among them
  let Gl : (Nat → Prop) → Nat → Prop := fun G b => G b ∨ (w.heap.size ≤ b ∧ b < w.heap.size + 2)
  let Ok : (Nat → Prop) → Prop := fun G => ¬ G w.heap.size ∧ ¬ G (w.heap.size + 1)
  have hU1 : U (Gl G0) W1 := by have := hU W1 hbw; rw [hsz] at this; exact this
  have hOk0 : Ok G0 := ⟨fun h => by have := hG0 _ h; omega, fun h => by have := hG0 _ h; omega⟩
  refine ⟨w.heap.size + 1, [{ target := .collected w.heap.size, args := #[] }], W1, { target := .fn (.func gf) lb, args := #[.func (.yield (w.heap.size + 1)) #[] #[]] }, W1, gf, #[.func (.yield (w.heap.size + 1)) #[] #[]] ++ lb, W1,
    by rw [hW1]; exact run_enterLoop_outer _ _ _ _ _, by simp only [resolve, hg]; simp [go_sem], fun _ _ => trivial, by simp [invoke, go_sem, eg], fun _ => h1, ?_⟩
  refine (hseq (w.heap.size + 1) (fun pre Gg W => ∃ G, (∀ b, Gg b ↔ Gl G b) ∧ Ok G ∧ I pre G W ∧ LaidG w.heap.size (rec_ .ready none) W) (fun pre Gg W => ∃ G c, (∀ b, Gg b ↔ Gl G b) ∧ Ok G ∧ Ix c pre G W ∧ LaidG w.heap.size (rec_ .done (some c)) W) W1 (Gl G0) hb1 hU1 (fun b hb => hb.elim (fun h => by have := hG0 b h; omega) (fun h => by omega)) ?_ ?_ ⟨G0, fun _ => Iff.rfl, hOk0, hI1, hL⟩).mono ?_
  · -- what the iterator turns is not the caller's
    rintro s Gg A B ⟨G, hGg, hOk, hi, hl⟩ hk
    exact ⟨G, hGg, hOk, hI _ _ _ _ hi (hk.more fun b hb => .inl hb), hl.kx hk (fun hn => by have := hTz _ hn; omega) (fun hn => by have := hTz _ hn; omega)⟩
  · -- one round
    rintro pre x Gg W ⟨G, hGg, hOk, hi, hl⟩ hy hlo hglo hlen
    rw [hsz] at hlo
    refine ⟨fn, _, assign, body, run_yield hl.rc (hps x), roundIn_of_wpIn trivial (wpIn_mono (hassign (w.heap.size + 1) pre x G W hi hy (fun b hb => hglo b ((hGg b).2 (.inl hb)))) ?_)⟩
    intro e a' Wa hp
    cases e with
    | normal =>
      obtain ⟨Ga, hka, hga, hax⟩ := hp
      have hnl : ∀ (G' H : Nat → Prop), Ok H → (∀ b, G' b → H b ∨ lo x ≤ b) → Ok G' := fun G' H hH h => ⟨fun hb => (h _ hb).elim hH.1 (fun h => by omega), fun hb => (h _ hb).elim hH.2 (fun h => by omega)⟩
      have hOka : Ok Ga := hnl Ga G hOk hga
      have hla := hl.kx hka (fun h => h.elim hOk.1 (fun h => by omega)) (fun h => h.elim hOk.2 (fun h => by omega))
      have hlb := hla.turn (rec_ .busy none)
      have hkb : Kx (fun b => b = w.heap.size + 1) Wa (Wa.putObj (w.heap.size + 1) (.loop (rec_ .busy none))) := Kx.put _ _ _ rfl
      have hax2 := hAx _ _ _ _ _ _ hax (hkb.more fun b hb => by subst hb; exact ⟨by omega, hOka.2⟩)
      refine ⟨_, run_beginRound hla.rc rfl, wpIn_mono (hbody (w.heap.size + 1) pre x Ga a' _ hax2 hlen) ?_⟩
      have hrec : Gg (w.heap.size + 1) := (hGg _).2 (.inr ⟨by omega, by omega⟩)
      have hGa : ∀ b, Ga b ∨ lo x ≤ b → Gg b ∨ lo x ≤ b := fun b hb => hb.elim (fun hb => (hga b hb).imp (fun h => (hGg b).2 (.inl h)) id) .inr
      have hall : ∀ {W3 : World} {G3 : Nat → Prop} (st : LoopState) (pe : Option Code), Kx (fun b => Ga b ∨ lo x ≤ b) (Wa.putObj (w.heap.size + 1) (.loop (rec_ .busy none))) W3 → (∀ b, G3 b → b < W3.heap.size ∧ (Ga b ∨ lo x ≤ b)) →
          Ok G3 ∧ LaidG w.heap.size (rec_ .busy none) W3 ∧ Kx (fun b => Gg b ∨ lo x ≤ b) W (W3.putObj (w.heap.size + 1) (.loop (rec_ st pe))) ∧ (∀ b, Gl G3 b → b < (W3.putObj (w.heap.size + 1) (.loop (rec_ st pe))).heap.size ∧ (Gg b ∨ lo x ≤ b)) := by
        intro W3 G3 st pe hk3 hg3
        have hOk3 : Ok G3 := hnl G3 Ga hOka (fun b hb => (hg3 b hb).2)
        have hl3 := hlb.kx hk3 (fun h => h.elim hOka.1 (fun h => by omega)) (fun h => h.elim hOka.2 (fun h => by omega))
        refine ⟨hOk3, hl3, ?_, fun b hb => ⟨by rw [World.putObj_size]; exact hb.elim (fun hb => (hg3 b hb).1) (fun hb => by have := hl3.lt; omega), hb.elim (fun hb => hGa b (hg3 b hb).2) (fun hb => .inl ((hGg b).2 (.inr hb)))⟩⟩
        have k1 : Kx (fun b => Gg b ∨ lo x ≤ b) W Wa := hka.more fun b hb => hb.imp (fun h => (hGg b).2 (.inl h)) id
        have k2 := k1.trans hkb (fun b hb => by subst hb; exact .inl (.inl hrec))
        have k3 := k2.trans hk3 (fun b hb => .inl (hGa b hb))
        exact k3.trans (Kx.put (X := fun b => b = w.heap.size + 1) _ _ (.loop (rec_ st pe)) rfl) (fun b hb => by subst hb; exact .inl (.inl hrec))
      intro e3 a3 W3 hp3
      have hput : ∀ (G3 : Nat → Prop) (st : LoopState) (pe : Option Code), Ok G3 → Kx (fun b => w.heap.size ≤ b ∧ ¬ G3 b) W3 (W3.putObj (w.heap.size + 1) (.loop (rec_ st pe))) := fun G3 st pe h => Kx.put _ _ _ ⟨by omega, h.2⟩
      cases e3 with
      | normal =>
        obtain ⟨G3, hk3, hg3, hi3⟩ := hp3
        obtain ⟨o3, l3, kk, gg⟩ := hall .ready none hk3 hg3
        exact ⟨_, _, run_endRound none l3.rc, .inl ⟨rfl, Gl G3, ⟨G3, fun _ => Iff.rfl, o3, hI _ _ _ _ hi3 ((hput G3 _ _ o3).more fun _ h => .inr h), l3.turn _⟩, kk, gg⟩⟩
      | ret =>
        obtain ⟨G3, hk3, hg3, hi3⟩ := hp3
        obtain ⟨o3, l3, kk, gg⟩ := hall .done (some .ret) hk3 hg3
        exact ⟨_, _, run_endRound (some .ret) l3.rc, .inr ⟨rfl, Gl G3, ⟨G3, .ret, fun _ => Iff.rfl, o3, hIx _ _ _ _ _ hi3 (hput G3 _ _ o3), l3.turn _⟩, kk, gg⟩⟩
      | exit id =>
        obtain ⟨G3, hk3, hg3, hi3⟩ := hp3
        obtain ⟨o3, l3, kk, gg⟩ := hall .done (some (.exit id)) hk3 hg3
        exact ⟨_, _, run_endRound (some (.exit id)) l3.rc, .inr ⟨rfl, Gl G3, ⟨G3, .exit id, fun _ => Iff.rfl, o3, hIx _ _ _ _ _ hi3 (hput G3 _ _ o3), l3.turn _⟩, kk, gg⟩⟩
      | goto t =>
        obtain ⟨G3, hk3, hg3, hi3⟩ := hp3
        obtain ⟨o3, l3, kk, gg⟩ := hall .done (some (.goto t)) hk3 hg3
        exact ⟨_, _, run_endRound (some (.goto t)) l3.rc, .inr ⟨rfl, Gl G3, ⟨G3, .goto t, fun _ => Iff.rfl, o3, hIx _ _ _ _ _ hi3 (hput G3 _ _ o3), l3.turn _⟩, kk, gg⟩⟩
      | panic ch => exact hp3.elim
      | outgrown => exact hp3.elim
    | ret => exact hp.elim
    | exit id => exact hp.elim
    | goto t => exact hp.elim
    | panic ch => exact hp.elim
    | outgrown => exact hp.elim
  · -- behind the iterator
    rintro e W2 ⟨⟨v, rfl⟩, (⟨xs, Gg, hS, ⟨G, hGg, hOk, hi, hl⟩, hEn⟩ | ⟨pre, Gg, hSp, ⟨G, c, hGg, hOk, hi, hl⟩, hEn⟩)⟩
    · have hput : ∀ o : Obj, Kx (fun b => b = w.heap.size + 1) W2 (W2.putObj (w.heap.size + 1) o) := fun o => Kx.put _ _ o rfl
      exact ⟨none, _, run_endLoop hl.rc (by simp [rec_]), hdone _ xs G _ (Nat.le_refl _) hOk.1 hS (hI _ _ _ _ hi ((hput _).more fun b hb => by subst hb; exact .inr ⟨by omega, hOk.2⟩)) (hE _ _ _ _ hEn (fun b hb => (hGg b).2 (hb.imp id (fun h => by omega))) ((hput _).more fun b hb => by subst hb; exact (hGg _).2 (.inr ⟨by omega, by omega⟩))) ((World.putObj_heap_other (by omega)).trans hl.dm)⟩
    · have hput : ∀ o : Obj, Kx (fun b => b = w.heap.size + 1) W2 (W2.putObj (w.heap.size + 1) o) := fun o => Kx.put _ _ o rfl
      exact ⟨some c, _, run_endLoop hl.rc (by simp [rec_]), hstop _ c pre G _ (Nat.le_refl _) hOk.1 hSp (hIx _ _ _ _ _ hi ((hput _).more fun b hb => by subst hb; exact ⟨by omega, hOk.2⟩)) (hE _ _ _ _ hEn (fun b hb => (hGg b).2 (hb.imp id (fun h => by omega))) ((hput _).more fun b hb => by subst hb; exact (hGg _).2 (.inr ⟨by omega, by omega⟩))) ((World.putObj_heap_other (by omega)).trans hl.dm)⟩
end Go.Lec
/- A range over a function whose iterator turns memory of its own between the rounds, as RangeG; here the iterator goes on leaning on what it has told: such memory (Fz) the rounds may read, never turn. Nothing here speaks of the program. -/
namespace Go.Lec
open Go.RowKit
variable {P : Program} {n : Nat}
/-- What an iterator promises that turns memory of its own. G: the blocks that are the caller's; each round may turn these alone, and take what the element brings (from lo x on). U: how the iterator's memory lies beside G; E: how at the end. -/
def SeqH {α : Type} (P : Program) (n g : Nat) (lb : Array Value) (encs : α → Array Value) (lo : α → Nat) (Fz : α → Nat → Prop) (Tz : Nat → Prop) (Y : List α → α → World → Prop) (U E : (Nat → Prop) → World → Prop) (S Sp : List α → Prop) (N : Nat) (w : World) : Prop :=
  ∀ (l : Nat) (J Jx : List α → (Nat → Prop) → World → Prop) (W : World) (G : Nat → Prop), Below w.heap.size w W → U G W → (∀ b, G b → b < W.heap.size) →
    (∀ s G A B, J s G A → Kx (fun b => (Tz b ∨ (W.heap.size ≤ b ∧ ¬ G b)) ∧ ∀ y ∈ s, ¬ Fz y b) A B → J s G B) →
    (∀ s G A B, Jx s G A → Kx (fun b => (W.heap.size ≤ b ∧ ¬ G b) ∧ ∀ y ∈ s, ¬ Fz y b) A B → Jx s G B) →
    (∀ pre x G W1, J pre G W1 → Y pre x W1 → W.heap.size ≤ lo x → (∀ b, G b → b < lo x) → pre.length < N → YieldAt Fence.wide (n - 1) P l (encs x) W1 fun e W' =>
      (e = .returned (.bool true) ∧ ∃ G', J (pre ++ [x]) G' W' ∧ Kx (fun b => (G b ∨ lo x ≤ b) ∧ ∀ y ∈ pre ++ [x], ¬ Fz y b) W1 W' ∧ ∀ b, G' b → b < W'.heap.size ∧ (G b ∨ lo x ≤ b)) ∨ (e = .returned (.bool false) ∧ ∃ G', Jx (pre ++ [x]) G' W' ∧ Kx (fun b => (G b ∨ lo x ≤ b) ∧ ∀ y ∈ pre ++ [x], ¬ Fz y b) W1 W' ∧ ∀ b, G' b → b < W'.heap.size ∧ (G b ∨ lo x ≤ b))) →
    J [] G W →
    CallsIn Fence.wide n P g (#[.func (.yield l) #[] #[]] ++ lb) W fun e W' =>
      (∃ v, e = .returned v) ∧ ((∃ xs G', S xs ∧ J xs G' W' ∧ E G' W') ∨ (∃ pre G', Sp pre ∧ Jx pre G' W' ∧ E G' W'))
/-- What a round comes to. -/
def postH {α : Type} (Fz : α → Nat → Prop) (lo : Nat) (I : List α → (Nat → Prop) → World → Prop) (Ix : Code → List α → (Nat → Prop) → World → Prop) (xs : List α) (G : Nat → Prop) (W : World) : Exit → Act → World → Prop
  | .normal, _, W' => ∃ G', Kx (fun b => (G b ∨ lo ≤ b) ∧ ∀ y ∈ xs, ¬ Fz y b) W W' ∧ (∀ b, G' b → b < W'.heap.size ∧ (G b ∨ lo ≤ b)) ∧ I xs G' W'
  | .ret, _, W' => ∃ G', Kx (fun b => (G b ∨ lo ≤ b) ∧ ∀ y ∈ xs, ¬ Fz y b) W W' ∧ (∀ b, G' b → b < W'.heap.size ∧ (G b ∨ lo ≤ b)) ∧ Ix .ret xs G' W'
  | .exit id, _, W' => ∃ G', Kx (fun b => (G b ∨ lo ≤ b) ∧ ∀ y ∈ xs, ¬ Fz y b) W W' ∧ (∀ b, G' b → b < W'.heap.size ∧ (G b ∨ lo ≤ b)) ∧ Ix (.exit id) xs G' W'
  | .goto t, _, W' => ∃ G', Kx (fun b => (G b ∨ lo ≤ b) ∧ ∀ y ∈ xs, ¬ Fz y b) W W' ∧ (∀ b, G' b → b < W'.heap.size ∧ (G b ∨ lo ≤ b)) ∧ Ix (.goto t) xs G' W'
  | .panic _, _, _ => False
  | .outgrown, _, _ => False
theorem range_H {α : Type} {g : Operand} {ps : Array Tmp} {assign body : Code} {Q : Exit → Act → World → Prop} {a : Act} {w : World} (h1 : 1 ≤ n)
    {gf : Nat} {lb : Array Value} (hg : a.eval g = .func (.func gf) #[] lb) (eg : ∀ args w, (callFunc gf args).run P w = .ok (.enter gf args) w)
    {encs : α → Array Value} {lo : α → Nat} {Fz : α → Nat → Prop} (hFz : ∀ y b, Fz y b → lo y ≤ b) {Tz : Nat → Prop} {Y : List α → α → World → Prop} {U E : (Nat → Prop) → World → Prop} {S Sp : List α → Prop} {N : Nat} {w0 : World} (hseq : SeqH P (n - 1) gf lb encs lo Fz Tz Y U E S Sp N w0) (hTz : ∀ b, Tz b → b < w.heap.size)
    (hb0 : Below w0.heap.size w0 w) (hps : ∀ x, (encs x).size = ps.size)
    {G0 : Nat → Prop} (hG0 : ∀ b, G0 b → b < w.heap.size) (hU : ∀ W', Below w.heap.size w W' → U (fun b => G0 b ∨ (w.heap.size ≤ b ∧ b < W'.heap.size)) W')
    (hE : ∀ G G' W W', E G W → (∀ b, G' b → G b) → Kx G W W' → E G' W')
    (I : List α → (Nat → Prop) → World → Prop) (Ix : Code → List α → (Nat → Prop) → World → Prop)
    (hI : ∀ s G A B, I s G A → Kx (fun b => (Tz b ∨ (w.heap.size ≤ b ∧ ¬ G b)) ∧ ∀ y ∈ s, ¬ Fz y b) A B → I s G B) (h0 : I [] G0 w)
    (Ax : List α → α → (Nat → Prop) → Act → World → Prop) (hAx : ∀ pre x G a' A B, Ax pre x G a' A → Kx (fun b => (w.heap.size ≤ b ∧ ¬ G b) ∧ ∀ y ∈ pre ++ [x], ¬ Fz y b) A B → Ax pre x G a' B)
    (hassign : ∀ (l : Nat) (pre : List α) (x : α) (G : Nat → Prop) (W : World), I pre G W → Y pre x W → (∀ b, G b → b < lo x) → assign.wpIn (Fence.wide.inRound l) (n - 1 - 1) P (Exit.then (fun a' W' => ∃ G', Kx (fun b => (G b ∨ lo x ≤ b) ∧ ∀ y ∈ pre ++ [x], ¬ Fz y b) W W' ∧ (∀ b, G' b → G b ∨ lo x ≤ b) ∧ Ax pre x G' a' W') (fun _ _ _ => False)) { tmps := (ps.zip (encs x)).foldl (fun t (p, v) => t.setIfInBounds p v) a.tmps, defers := [] } W)
    (hbody : ∀ (l : Nat) (pre : List α) (x : α) (G : Nat → Prop) (a' : Act) (W : World), Ax pre x G a' W → pre.length < N → body.wpIn (Fence.wide.inRound l) (n - 1 - 1) P (postH Fz (lo x) I Ix (pre ++ [x]) G W) a' W)
    (hdone : ∀ (D : Nat) (xs : List α) (G : Nat → Prop) (W : World), w.heap.size ≤ D → ¬ G D → S xs → I xs G W → E (fun b => G b ∨ b = D) W → W.heap[D]? = some (.deferred (some [])) → Q .normal { a with defers := { target := .collected D, args := #[] } :: a.defers } W)
    (hstop : ∀ (D : Nat) (c : Code) (pre : List α) (G : Nat → Prop) (W : World), w.heap.size ≤ D → ¬ G D → Sp pre → Ix c pre G W → E (fun b => G b ∨ b = D) W → W.heap[D]? = some (.deferred (some [])) → c.wpIn Fence.wide n P Q { a with defers := { target := .collected D, args := #[] } :: a.defers } W)
    (hIx : ∀ c s G A B, Ix c s G A → Kx (fun b => (w.heap.size ≤ b ∧ ¬ G b) ∧ ∀ y ∈ s, ¬ Fz y b) A B → Ix c s G B) :
    (Code.rangeFunc g ps assign body).wpIn Fence.wide n P Q a w := by
  refine wpIn_rangeFunc fun fn _ => ?_
  let rec_ : LoopState → Option Code → Loop := fun st pe => { state := st, pending := pe, fn, tmps := a.tmps, params := ps, assign, body, defers := w.heap.size }
  obtain ⟨W1, hW1⟩ : ∃ W1, W1 = (w.alloc (.deferred (some []))).alloc (.loop (rec_ .ready none)) := ⟨_, rfl⟩
  have hL : LaidG w.heap.size (rec_ .ready none) W1 := hW1 ▸ laidG_new w _
  have hsz : W1.heap.size = w.heap.size + 2 := by rw [hW1]; simp
  have hbw : Below w.heap.size w W1 := by rw [hW1]; exact ((Below.refl _ w).alloc (Nat.le_refl _) _).alloc (by simp) _
  have hI1 : I [] G0 W1 := hI _ _ _ _ h0 (Kx.new_ hbw)
  have hb1 : Below w0.heap.size w0 W1 := hb0.trans (hbw.mono hb0.size)
  -- the caller's blocks, its loop's own among them
  let Gl : (Nat → Prop) → Nat → Prop := fun G b => G b ∨ (w.heap.size ≤ b ∧ b < w.heap.size + 2)
  let Lo : List α → Prop := fun s => ∀ y ∈ s, w.heap.size + 2 ≤ lo y
  have hLF : ∀ s, Lo s → ∀ y ∈ s, ¬ Fz y (w.heap.size + 1) := fun s h y hy hf => by have h1 := h y hy; have h2 := hFz y _ hf; omega
  let Ok : (Nat → Prop) → Prop := fun G => ¬ G w.heap.size ∧ ¬ G (w.heap.size + 1)
  have hU1 : U (Gl G0) W1 := by have := hU W1 hbw; rw [hsz] at this; exact this
  have hOk0 : Ok G0 := ⟨fun h => by have := hG0 _ h; omega, fun h => by have := hG0 _ h; omega⟩
  refine ⟨w.heap.size + 1, [{ target := .collected w.heap.size, args := #[] }], W1, { target := .fn (.func gf) lb, args := #[.func (.yield (w.heap.size + 1)) #[] #[]] }, W1, gf, #[.func (.yield (w.heap.size + 1)) #[] #[]] ++ lb, W1,
    by rw [hW1]; exact run_enterLoop_outer _ _ _ _ _, by simp only [resolve, hg]; simp [go_sem], fun _ _ => trivial, by simp [invoke, go_sem, eg], fun _ => h1, ?_⟩
  refine (hseq (w.heap.size + 1) (fun pre Gg W => Lo pre ∧ ∃ G, (∀ b, Gg b ↔ Gl G b) ∧ Ok G ∧ I pre G W ∧ LaidG w.heap.size (rec_ .ready none) W) (fun pre Gg W => Lo pre ∧ ∃ G c, (∀ b, Gg b ↔ Gl G b) ∧ Ok G ∧ Ix c pre G W ∧ LaidG w.heap.size (rec_ .done (some c)) W) W1 (Gl G0) hb1 hU1 (fun b hb => hb.elim (fun h => by have := hG0 b h; omega) (fun h => by omega)) ?_ ?_ ?_ ⟨fun _ h => (by cases h), G0, fun _ => Iff.rfl, hOk0, hI1, hL⟩).mono ?_
  · -- what the iterator turns is not the caller's
    rintro s Gg A B ⟨hLo, G, hGg, hOk, hi, hl⟩ hk
    exact ⟨hLo, G, hGg, hOk, hI _ _ _ _ hi (hk.more fun b hb => ⟨hb.1.imp id (fun h => ⟨by omega, fun hg => h.2 ((hGg b).2 (.inl hg))⟩), hb.2⟩), hl.kx hk (fun hn => hn.1.elim (fun hn => by have := hTz _ hn; omega) (fun h => by omega)) (fun hn => hn.1.elim (fun hn => by have := hTz _ hn; omega) (fun h => by omega))⟩
  · -- nor what lies behind the last round
    rintro s Gg A B ⟨hLo, G, c, hGg, hOk, hi, hl⟩ hk
    exact ⟨hLo, G, c, hGg, hOk, hIx _ _ _ _ _ hi (hk.more fun b hb => ⟨⟨by omega, fun hg => hb.1.2 ((hGg b).2 (.inl hg))⟩, hb.2⟩), hl.kx hk (fun hn => by have := hn.1.1; omega) (fun hn => by have := hn.1.1; omega)⟩
  · -- one round
    rintro pre x Gg W ⟨hLo, G, hGg, hOk, hi, hl⟩ hy hlo hglo hlen
    rw [hsz] at hlo
    have hLx : Lo (pre ++ [x]) := fun y hy => (List.mem_append.1 hy).elim (hLo y) (fun h => by rw [List.mem_singleton.1 h]; exact hlo)
    have hFr := hLF _ hLx
    refine ⟨fn, _, assign, body, run_yield hl.rc (hps x), roundIn_of_wpIn trivial (wpIn_mono (hassign (w.heap.size + 1) pre x G W hi hy (fun b hb => hglo b ((hGg b).2 (.inl hb)))) ?_)⟩
    intro e a' Wa hp
    cases e with
    | normal =>
      obtain ⟨Ga, hka, hga, hax⟩ := hp
      have hnl : ∀ (G' H : Nat → Prop), Ok H → (∀ b, G' b → H b ∨ lo x ≤ b) → Ok G' := fun G' H hH h => ⟨fun hb => (h _ hb).elim hH.1 (fun h => by omega), fun hb => (h _ hb).elim hH.2 (fun h => by omega)⟩
      have hOka : Ok Ga := hnl Ga G hOk hga
      have hla := hl.kx hka (fun h => h.1.elim hOk.1 (fun h => by omega)) (fun h => h.1.elim hOk.2 (fun h => by omega))
      have hlb := hla.turn (rec_ .busy none)
      have hkb : Kx (fun b => b = w.heap.size + 1) Wa (Wa.putObj (w.heap.size + 1) (.loop (rec_ .busy none))) := Kx.put _ _ _ rfl
      have hax2 := hAx _ _ _ _ _ _ hax (hkb.more fun b hb => by subst hb; exact ⟨⟨by omega, hOka.2⟩, hFr⟩)
      refine ⟨_, run_beginRound hla.rc rfl, wpIn_mono (hbody (w.heap.size + 1) pre x Ga a' _ hax2 hlen) ?_⟩
      have hrec : Gg (w.heap.size + 1) := (hGg _).2 (.inr ⟨by omega, by omega⟩)
      have hGa : ∀ b, Ga b ∨ lo x ≤ b → Gg b ∨ lo x ≤ b := fun b hb => hb.elim (fun hb => (hga b hb).imp (fun h => (hGg b).2 (.inl h)) id) .inr
      have hall : ∀ {W3 : World} {G3 : Nat → Prop} (st : LoopState) (pe : Option Code), Kx (fun b => (Ga b ∨ lo x ≤ b) ∧ ∀ y ∈ pre ++ [x], ¬ Fz y b) (Wa.putObj (w.heap.size + 1) (.loop (rec_ .busy none))) W3 → (∀ b, G3 b → b < W3.heap.size ∧ (Ga b ∨ lo x ≤ b)) →
          Ok G3 ∧ LaidG w.heap.size (rec_ .busy none) W3 ∧ Kx (fun b => (Gg b ∨ lo x ≤ b) ∧ ∀ y ∈ pre ++ [x], ¬ Fz y b) W (W3.putObj (w.heap.size + 1) (.loop (rec_ st pe))) ∧ (∀ b, Gl G3 b → b < (W3.putObj (w.heap.size + 1) (.loop (rec_ st pe))).heap.size ∧ (Gg b ∨ lo x ≤ b)) := by
        intro W3 G3 st pe hk3 hg3
        have hOk3 : Ok G3 := hnl G3 Ga hOka (fun b hb => (hg3 b hb).2)
        have hl3 := hlb.kx hk3 (fun h => h.1.elim hOka.1 (fun h => by omega)) (fun h => h.1.elim hOka.2 (fun h => by omega))
        refine ⟨hOk3, hl3, ?_, fun b hb => ⟨by rw [World.putObj_size]; exact hb.elim (fun hb => (hg3 b hb).1) (fun hb => by have := hl3.lt; omega), hb.elim (fun hb => hGa b (hg3 b hb).2) (fun hb => .inl ((hGg b).2 (.inr hb)))⟩⟩
        have k1 : Kx (fun b => (Gg b ∨ lo x ≤ b) ∧ ∀ y ∈ pre ++ [x], ¬ Fz y b) W Wa := hka.more fun b hb => ⟨hb.1.imp (fun h => (hGg b).2 (.inl h)) id, hb.2⟩
        have k2 := k1.trans hkb (fun b hb => by subst hb; exact .inl ⟨.inl hrec, hFr⟩)
        have k3 := k2.trans hk3 (fun b hb => .inl ⟨hGa b hb.1, hb.2⟩)
        exact k3.trans (Kx.put (X := fun b => b = w.heap.size + 1) _ _ (.loop (rec_ st pe)) rfl) (fun b hb => by subst hb; exact .inl ⟨.inl hrec, hFr⟩)
      intro e3 a3 W3 hp3
      have hput : ∀ (G3 : Nat → Prop) (st : LoopState) (pe : Option Code), Ok G3 → Kx (fun b => (w.heap.size ≤ b ∧ ¬ G3 b) ∧ ∀ y ∈ pre ++ [x], ¬ Fz y b) W3 (W3.putObj (w.heap.size + 1) (.loop (rec_ st pe))) := fun G3 st pe h => Kx.put _ _ _ ⟨⟨by omega, h.2⟩, hFr⟩
      cases e3 with
      | normal =>
        obtain ⟨G3, hk3, hg3, hi3⟩ := hp3
        obtain ⟨o3, l3, kk, gg⟩ := hall .ready none hk3 hg3
        exact ⟨_, _, run_endRound none l3.rc, .inl ⟨rfl, Gl G3, ⟨hLx, G3, fun _ => Iff.rfl, o3, hI _ _ _ _ hi3 ((hput G3 _ _ o3).more fun _ h => ⟨.inr h.1, h.2⟩), l3.turn _⟩, kk, gg⟩⟩
      | ret =>
        obtain ⟨G3, hk3, hg3, hi3⟩ := hp3
        obtain ⟨o3, l3, kk, gg⟩ := hall .done (some .ret) hk3 hg3
        exact ⟨_, _, run_endRound (some .ret) l3.rc, .inr ⟨rfl, Gl G3, ⟨hLx, G3, .ret, fun _ => Iff.rfl, o3, hIx _ _ _ _ _ hi3 (hput G3 _ _ o3), l3.turn _⟩, kk, gg⟩⟩
      | exit id =>
        obtain ⟨G3, hk3, hg3, hi3⟩ := hp3
        obtain ⟨o3, l3, kk, gg⟩ := hall .done (some (.exit id)) hk3 hg3
        exact ⟨_, _, run_endRound (some (.exit id)) l3.rc, .inr ⟨rfl, Gl G3, ⟨hLx, G3, .exit id, fun _ => Iff.rfl, o3, hIx _ _ _ _ _ hi3 (hput G3 _ _ o3), l3.turn _⟩, kk, gg⟩⟩
      | goto t =>
        obtain ⟨G3, hk3, hg3, hi3⟩ := hp3
        obtain ⟨o3, l3, kk, gg⟩ := hall .done (some (.goto t)) hk3 hg3
        exact ⟨_, _, run_endRound (some (.goto t)) l3.rc, .inr ⟨rfl, Gl G3, ⟨hLx, G3, .goto t, fun _ => Iff.rfl, o3, hIx _ _ _ _ _ hi3 (hput G3 _ _ o3), l3.turn _⟩, kk, gg⟩⟩
      | panic ch => exact hp3.elim
      | outgrown => exact hp3.elim
    | ret => exact hp.elim
    | exit id => exact hp.elim
    | goto t => exact hp.elim
    | panic ch => exact hp.elim
    | outgrown => exact hp.elim
  · -- behind the iterator
    rintro e W2 ⟨⟨v, rfl⟩, (⟨xs, Gg, hS, ⟨hLo, G, hGg, hOk, hi, hl⟩, hEn⟩ | ⟨pre, Gg, hSp, ⟨hLo, G, c, hGg, hOk, hi, hl⟩, hEn⟩)⟩
    · have hput : ∀ o : Obj, Kx (fun b => b = w.heap.size + 1) W2 (W2.putObj (w.heap.size + 1) o) := fun o => Kx.put _ _ o rfl
      exact ⟨none, _, run_endLoop hl.rc (by simp [rec_]), hdone _ xs G _ (Nat.le_refl _) hOk.1 hS (hI _ _ _ _ hi ((hput _).more fun b hb => by subst hb; exact ⟨.inr ⟨by omega, hOk.2⟩, hLF _ hLo⟩)) (hE _ _ _ _ hEn (fun b hb => (hGg b).2 (hb.imp id (fun h => by omega))) ((hput _).more fun b hb => by subst hb; exact (hGg _).2 (.inr ⟨by omega, by omega⟩))) ((World.putObj_heap_other (by omega)).trans hl.dm)⟩
    · have hput : ∀ o : Obj, Kx (fun b => b = w.heap.size + 1) W2 (W2.putObj (w.heap.size + 1) o) := fun o => Kx.put _ _ o rfl
      exact ⟨some c, _, run_endLoop hl.rc (by simp [rec_]), hstop _ c pre G _ (Nat.le_refl _) hOk.1 hSp (hIx _ _ _ _ _ hi ((hput _).more fun b hb => by subst hb; exact ⟨⟨by omega, hOk.2⟩, hLF _ hLo⟩)) (hE _ _ _ _ hEn (fun b hb => (hGg b).2 (hb.imp id (fun h => by omega))) ((hput _).more fun b hb => by subst hb; exact (hGg _).2 (.inr ⟨by omega, by omega⟩))) ((World.putObj_heap_other (by omega)).trans hl.dm)⟩
end Go.Lec
