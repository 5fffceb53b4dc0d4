/- A range over a function whose body panics in some round: the statement is left by that panic. Nothing here speaks of the program. -/
import Derived.Test.YtjcifmbbdofjiaaRangeX
namespace Go.Lec
open Go.RowKit
variable {P : Program} {n : Nat}
/-- As wpIn at the widest fence, but of one function's frames alone. -/
def wpAt (P : Program) (f0 : FuncId) (c : Code) (Q : Exit → Act → World → Prop) (a : Act) (w : World) : Prop :=
  ∀ (b : Frame) (k : List Item) (cs : List Frame), b.roundOf = none → b.fn = f0 → ∃ e a' w', Q e a' w' ∧ ArrivesIn (Machine.fenced P Fence.wide) P (lone (b.atR a (.code c :: k)) cs w) b k cs e a' w'
theorem wpAt_seq {f0 : FuncId} {x y : Code} {Q : Exit → Act → World → Prop} {a : Act} {w : World} (h : x.wp P (Exit.then (fun a w => wpAt P f0 y Q a w) (fun _ _ _ => False)) a w) : wpAt P f0 (.seq x y) Q a w := by
  intro b k cs hro hb
  obtain ⟨e, a1, w1, hq, harr⟩ := (wpIn_wide (n := 0)).2 h b (.code y :: k) cs hro trivial (room_wide _)
  cases e with
  | normal =>
    obtain ⟨e2, a2, w2, hq2, harr2⟩ := hq b k cs hro hb
    exact ⟨e2, a2, w2, hq2, .of_steps (.head (fenced_wide _ _) stepR_seq harr) harr2⟩
  | ret => exact hq.elim
  | exit id => exact hq.elim
  | goto t => exact hq.elim
  | panic ch => exact hq.elim
  | outgrown => exact hq.elim
theorem wpAt_seq_k {f0 : FuncId} {x y : Code} {Q : Exit → Act → World → Prop} {a : Act} {w : World} (h : ∀ K : Act → World → Prop, (∀ a w, wpAt P f0 y Q a w → K a w) → x.wp P (Exit.then K (fun _ _ _ => False)) a w) : wpAt P f0 (.seq x y) Q a w :=
  wpAt_seq (h _ fun _ _ h => h)
theorem wpAt_left {f0 : FuncId} {x y : Code} {R : List PanicEntry → Act → World → Prop} {a : Act} {w : World} (h : wpAt P f0 x (fun e a w => ∃ ch, e = .panic ch ∧ R ch a w) a w) : wpAt P f0 (.seq x y) (fun e a w => ∃ ch, e = .panic ch ∧ R ch a w) a w := by
  intro b k cs hro hb
  obtain ⟨e, a1, w1, ⟨ch, rfl, hq⟩, todo, hs⟩ := h b (.code y :: k) cs hro hb
  exact ⟨.panic ch, a1, w1, ⟨ch, rfl, hq⟩, todo, .head (fenced_wide _ _) stepR_seq hs⟩
theorem wpAt_block {f0 : FuncId} {x : Code} {id : Nat} {R : List PanicEntry → Act → World → Prop} {a : Act} {w : World} (h : wpAt P f0 x (fun e a w => ∃ ch, e = .panic ch ∧ R ch a w) a w) : wpAt P f0 (.block id x) (fun e a w => ∃ ch, e = .panic ch ∧ R ch a w) a w := by
  intro b k cs hro hb
  obtain ⟨e, a1, w1, ⟨ch, rfl, hq⟩, todo, hs⟩ := h b (.inBlock id :: k) cs hro hb
  exact ⟨.panic ch, a1, w1, ⟨ch, rfl, hq⟩, todo, .head (fenced_wide _ _) stepR_block hs⟩
/-- A function that panics, its deferred calls taken in. -/
theorem calls_at {f : FuncId} {fn : Func} {c : Code} {args : Array Value} {w : World} {R : Ending → World → Prop} (hf : P.funcs[f]? = some fn) (hb : fn.body = some c)
    (h : wpAt P f c (fun e a w => ∃ ch, e = .panic ch ∧ LeavesInM Fence.wide n P fn a.tmps R a.defers (.panicking ch) w) { tmps := args ++ Array.replicate (fn.ntmps - args.size) undef, defers := [] } w) : Calls P f args w R := by
  refine (callsIn_wide (n := n)).1 ⟨trivial, fun cs hr => ?_⟩
  let b : Frame := { (default : Frame) with fn := f, kind := .normal, roundOf := none }
  have henter : Frame.enter P f args .normal = b.atR { tmps := args ++ Array.replicate (fn.ntmps - args.size) undef, defers := [] } [.code c] := by simp [Frame.enter, Frame.atR, hf, hb, b]
  obtain ⟨e, a', w', ⟨ch, rfl, hq⟩, harr⟩ := h b [] cs rfl rfl
  rw [← henter] at harr
  obtain ⟨todo, hs⟩ := harr
  obtain ⟨e', w2, fr, hR, hs2, hfn, hl⟩ := leaves_stepsInM a'.defers (.panicking ch) w' { b.atR a' todo with mode := .panicking ch } cs rfl rfl rfl hf rfl trivial hr hq
  exact ⟨e', w2, fr, hR, ComesIn.of_steps hs hs2, hfn, hl⟩
/-- A round that panics. -/
theorem round_panics {l : Nat} {f : FuncId} {fn : Func} {tmps : Array Value} {assign body : Code} {w : World} {R : Ending → World → Prop} (hf : P.funcs[f]? = some fn)
    (h : assign.wpIn (Fence.wide.inRound l) n P (Exit.then (fun a₁ w₁ => ∃ w₂, (Instr.beginRound l).run P w₁ = .ok () w₂ ∧ body.wpIn (Fence.wide.inRound l) n P (fun e a w => ∃ ch, e = .panic ch ∧ a.defers = [] ∧ R (.panicked ch) w) a₁ w₂) (fun _ _ _ => False)) { tmps := tmps, defers := [] } w) :
    RoundIn Fence.wide n P l f tmps assign body w R := by
  refine ⟨trivial, fun c cs hr => ?_⟩
  let b : Frame := { (default : Frame) with fn := f, kind := .normal, roundOf := some l }
  have hb0 : Frame.round l f tmps assign body .normal = b.atR { tmps := tmps, defers := [] } [.code assign, .beginRound, .code body] := by simp [Frame.round, Frame.atR, b]
  obtain ⟨e, a₁, w₁, hq, harr⟩ := h b [.beginRound, .code body] (c :: cs) rfl trivial (room_wide _)
  rw [← hb0] at harr
  cases e with
  | normal =>
    obtain ⟨w₂, hbr, hbody⟩ := hq
    obtain ⟨e₂, a₂, w₃, ⟨ch, rfl, hd, hR⟩, todo, hs⟩ := hbody b [] (c :: cs) rfl trivial (room_wide _)
    have hl : ({ b.atR a₂ todo with mode := .panicking ch } : Frame).leaving P w₃ (.panicked ch) := ⟨rfl, hd, fn, hf⟩
    exact ⟨.panicked ch, w₃, hR, (StepsIn.trans harr (.one (fenced_wide _ _) (stepR_beginRound rfl hbr))).trans (StepsIn.trans hs (.one (fenced_wide _ _) (step_leave_panicked hl)))⟩
  | ret => exact hq.elim
  | exit id => exact hq.elim
  | goto t => exact hq.elim
  | panic ch => exact hq.elim
  | outgrown => exact hq.elim
/-- The statement, where the iterator passes a panic up. -/
theorem wpAt_range {f0 : FuncId} {g : Operand} {ps : Array Tmp} {assign body : Code} {Q : Exit → Act → World → Prop} {a : Act} {w : World} {l : Nat} {mark : List Deferred} {w₁ w₁' w₂ : World} {d : Deferred} {f : FuncId} {args : Array Value}
    (he : (Instr.enterLoop f0 a.tmps ps assign body none).run P w = .ok (l, mark) w₁) (hres : (resolve a.eval (rangeCall g l) 0).run P w₁ = .ok d w₁') (hinv : (invoke d.target d.args).run P w₁' = .ok (.enter f args) w₂)
    (hc : CallsIn Fence.wide n P f args w₂ (fun e w₃ => ∃ ch, e = .panicked ch ∧ Q (.panic ch) { a with defers := mark ++ a.defers } w₃)) : wpAt P f0 (.rangeFunc g ps assign body) Q a w := by
  intro b k cs hro hb
  rw [← hro, ← hb] at he
  obtain ⟨e, w₃, fr, ⟨ch, rfl, hq⟩, hsteps, hfn, hleave⟩ := hc.2 (b.atR { a with defers := mark ++ a.defers } (.inRangeFunc l :: k) :: cs) (room_wide _)
  refine ⟨.panic ch, _, w₃, hq, .inRangeFunc l :: k, .head (fenced_wide _ _) (stepR_rangeFunc (P := P) (b := b) (a := a) (k := k) (cs := cs) (w := w) he hres hinv) (StepsIn.trans hsteps (.one (fenced_wide _ _) ?_))⟩
  rw [← Frame.raise_atR]
  exact step_leave_panicked hleave
/-- A range over a function that ends by a panic: rounds go on, or one panics. -/
theorem range_P {α : Type} {f0 : FuncId} {fn0 : Func} {g : Operand} {ps : Array Tmp} {assign body : Code} {Q : Exit → Act → World → Prop} {a : Act} {w : World} (hf0 : P.funcs[f0]? = some fn0)
    {gf : Nat} {lb : Array Value} (hg : a.eval g = .func (.func gf) #[] lb) (eg : ∀ args w, (callFunc gf args).run P w = .ok (.enter gf args) w)
    {encs : α → Array Value} {Y : List α → α → World → Prop} {Kp : World → World → Prop} {S Sp : List α → Prop} {N : Nat} {w0 : World} (hseq : SeqX P n gf lb encs Y Kp S Sp N w0)
    (hKt : ∀ {A B C : World}, Kp A B → Kp B C → Kp A C) (hKb : ∀ (W : World) (l : Nat) (o o' : Obj), w.heap.size ≤ l → W.heap[l]? = some o → o.isCells = false → o.isWalk = false → Kp W (W.putObj l o')) (hb0 : Below w0.heap.size w0 w) (hps : ∀ x, (encs x).size = ps.size)
    (I : List α → World → Prop) (Ip : List PanicEntry → World → Prop) (hI : OwnFrom w.heap.size I) (h0 : I [] w)
    (Ax : List α → α → Act → World → Prop) (hAx : ∀ pre x, OwnFrom w.heap.size (Ax pre x))
    (hassign : ∀ (l : Nat) (pre : List α) (x : α) (W : World), I pre W → Y pre x W →
      assign.wpIn (Fence.wide.inRound l) (n - 1) P (Exit.then (fun a' W' => KeepsFrom w.heap.size W W' ∧ Kp W W' ∧ I pre W' ∧ Ax pre x a' W') (fun _ _ _ => False)) { tmps := (ps.zip (encs x)).foldl (fun t (p, v) => t.setIfInBounds p v) a.tmps, defers := [] } W)
    (hbody : ∀ (l : Nat) (pre : List α) (x : α), pre.length < N →
      (∀ a' W, I pre W → Ax pre x a' W → body.wpIn (Fence.wide.inRound l) (n - 1) P (ownPostG w.heap.size Kp I (fun _ _ _ => False) (pre ++ [x]) W) a' W) ∨
      (∀ a' W, I pre W → Ax pre x a' W → body.wpIn (Fence.wide.inRound l) (n - 1) P (fun e a'' W' => ∃ ch, e = .panic ch ∧ a''.defers = [] ∧ KeepsFrom w.heap.size W W' ∧ Ip ch W') a' W))
    (hdone : ∀ (xs : List α) (W : World), S xs → I xs W → False)
    (hpanic : ∀ (D : Nat) (ch : List PanicEntry) (W : World), w.heap.size ≤ D → Ip ch W → W.heap[D]? = some (.deferred (some [])) → Q (.panic ch) { a with defers := { target := .collected D, args := #[] } :: a.defers } W) :
    wpAt P f0 (.rangeFunc g ps assign body) Q a w := by
  let rec_ : LoopState → Option Code → Loop := fun st pe => { state := st, pending := pe, fn := f0, tmps := a.tmps, params := ps, assign, body, defers := w.heap.size }
  obtain ⟨W1, hW1⟩ : ∃ W1, W1 = (w.alloc (.deferred (some []))).alloc (.loop (rec_ .ready none)) := ⟨_, rfl⟩
  have hL : Laid w.heap.size (rec_ .ready none) W1 := hW1 ▸ laid_new w _
  have hsz : W1.heap.size = w.heap.size + 2 := by rw [hW1]; simp
  have hlow : ∀ {A : World} {row : Option Nat}, (∀ k, row = some k → W1.heap.size ≤ k ∧ ∃ o : Obj, A.heap[k]? = some o ∧ o.isWalk = true) → ∀ k, row = some k → w.heap.size ≤ k ∧ ∃ o : Obj, A.heap[k]? = some o ∧ o.isCells = false := by
    intro A row h k hk
    obtain ⟨hB, o, ho, hw⟩ := h k hk
    exact ⟨by omega, o, ho, Obj.not_cells_of_walk hw⟩
  have hI1 : I [] W1 := by rw [hW1]; exact hI.alloc _ (hI.alloc _ h0)
  have hb1 : Below w0.heap.size w0 W1 := by
    rw [hW1]; exact hb0.trans ((((Below.refl _ w).alloc (Nat.le_refl _) _).alloc (by simp) _).mono hb0.size)
  refine wpAt_range (n := n) (l := w.heap.size + 1) (mark := [{ target := .collected w.heap.size, args := #[] }]) (w₁ := W1) (w₁' := W1) (w₂ := W1) (d := { target := .fn (.func gf) lb, args := #[.func (.yield (w.heap.size + 1)) #[] #[]] }) (f := gf)
    (args := #[.func (.yield (w.heap.size + 1)) #[] #[]] ++ lb) (by rw [hW1]; exact run_enterLoop_outer _ _ _ _ _) (by simp only [resolve, hg]; simp [go_sem]) (by simp [invoke, go_sem, eg]) ?_
  refine (hseq (w.heap.size + 1) (fun pre W => I pre W ∧ Laid w.heap.size (rec_ .ready none) W) (fun _ _ => False) (fun ch W => Ip ch W ∧ W.heap[w.heap.size]? = some (.deferred (some []))) W1 hb1
    (fun s A B row hs hgr hr => ⟨hI s A B row hs.1 hgr (hlow hr), hs.2.walk hgr (fun k hk => (hr k hk).2)⟩) ?_ ⟨hI1, hL⟩).mono ?_
  · rintro pre x W ⟨hi, hl⟩ hy hlen
    refine ⟨f0, _, assign, body, run_yield hl.rc (hps x), ?_⟩
    rcases hbody (w.heap.size + 1) pre x hlen with hB | hB
    · refine roundIn_of_wpIn trivial (wpIn_mono (hassign (w.heap.size + 1) pre x W hi hy) ?_)
      intro e a' Wa hp
      cases e with
      | normal =>
        obtain ⟨hkf, hkp, hia, hax⟩ := hp
        have hla := hl.keep hkf (Nat.le_refl _)
        have hlb := hla.turn (rec_ .busy none)
        refine ⟨_, run_beginRound hla.rc rfl, wpIn_mono (hB a' _ (hI.putObj _ hia (by omega) hla.rc rfl) ((hAx pre x).putObj _ hax (by omega) hla.rc rfl)) ?_⟩
        have hkb := hKb Wa (w.heap.size + 1) _ (.loop (rec_ .busy none)) (by omega) hla.rc rfl rfl
        intro e3 a3 W3 hp3
        cases e3 with
        | normal =>
          obtain ⟨hk3, hkp3, hi3⟩ := hp3
          have hl3 := hlb.keep hk3 (Nat.le_refl _)
          exact ⟨_, _, run_endRound none hl3.rc, .inl ⟨rfl, ⟨hI.putObj _ hi3 (by omega) hl3.rc rfl, hl3.turn _⟩, hKt hkp (hKt (hKt hkb hkp3) (hKb _ _ _ _ (by omega) hl3.rc rfl rfl))⟩⟩
        | ret => exact hp3.2.elim
        | exit id => exact hp3.2.elim
        | goto t => exact hp3.2.elim
        | panic ch => exact hp3.elim
        | outgrown => exact hp3.elim
      | ret => exact hp.elim
      | exit id => exact hp.elim
      | goto t => exact hp.elim
      | panic ch => exact hp.elim
      | outgrown => exact hp.elim
    · refine round_panics hf0 (wpIn_mono (hassign (w.heap.size + 1) pre x W hi hy) ?_)
      intro e a' Wa hp
      cases e with
      | normal =>
        obtain ⟨hkf, hkp, hia, hax⟩ := hp
        have hla := hl.keep hkf (Nat.le_refl _)
        have hlb := hla.turn (rec_ .busy none)
        refine ⟨_, run_beginRound hla.rc rfl, wpIn_mono (hB a' _ (hI.putObj _ hia (by omega) hla.rc rfl) ((hAx pre x).putObj _ hax (by omega) hla.rc rfl)) ?_⟩
        rintro e3 a3 W3 ⟨ch, rfl, hd, hk3, hip⟩
        exact ⟨ch, rfl, hd, .inr (.inr ⟨ch, rfl, hip, (hlb.keep hk3 (Nat.le_refl _)).dm⟩)⟩
      | ret => exact hp.elim
      | exit id => exact hp.elim
      | goto t => exact hp.elim
      | panic ch => exact hp.elim
      | outgrown => exact hp.elim
  · rintro e W2 (⟨⟨v, rfl⟩, (⟨xs, hS, hi, hl⟩ | ⟨pre, hSp, hf⟩)⟩ | ⟨ch, rfl, hip, hdm⟩)
    · exact (hdone xs _ hS hi).elim
    · exact hf.elim
    · exact ⟨ch, rfl, hpanic _ ch _ (Nat.le_refl _) hip hdm⟩
end Go.Lec
