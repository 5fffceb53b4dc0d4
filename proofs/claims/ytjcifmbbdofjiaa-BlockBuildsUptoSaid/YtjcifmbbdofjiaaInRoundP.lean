/- A region that draws its order, within a round of a loop over a function, whose last operation may panic: it may be walked as one outside. -/
import Derived.Test.YtjcifmbbdofjiaaInRound
namespace Go.Lec
variable {P : Program} {ops : Array Oper} {Q : Exit → Act → World → Prop} {md : Region.Mode} {l n : Nat}
/-- The way on, and a panic. -/
def onP (Q : Exit → Act → World → Prop) : Exit → Act → World → Prop
  | .normal, a, w => Q .normal a w
  | .panic c, a, w => Q (.panic c) a w
  | _, _, _ => False
theorem onP_ok {a : Act} {w : World} (h : Q .normal a w) : onP Q .normal a w := h
theorem onP_lets (Q : Exit → Act → World → Prop) : ¬ LetsOut (onP Q) := fun ⟨_, _, h⟩ => h
theorem wpInP_of_op {o : Oper} {a : Act} {w : World} {K : Act → World → Prop} (hd : ∀ c, o.op ≠ .defer c) (h : o.wp P a w K (onP Q)) : o.wpIn (Fence.wide.inRound l) n P a w K Q := by
  refine ⟨fun _ _ => trivial, ?_⟩
  rw [Oper.semAt_eq _ _ _ hd]
  unfold Oper.wp at h
  generalize (execOp a.eval o).run P w = r at *
  cases r with
  | ok x w' =>
    cases x with
    | value v => exact h
    | skip => exact h
    | defer d => exact h
    | enter f args =>
      refine ⟨fun hh => (by simp [Fence.wide] at hh), ?_⟩
      refine CallsIn.inRound l (CallsIn.mono (callsIn_wide.2 h) ?_)
      intro e w'' he
      cases e with
      | returned v => exact he
      | panicked c => exact he
      | outgrown => exact (onP_lets Q he).elim
    | row row args => exact ⟨fun hh => (by simp [Fence.wide] at hh), rows_wide h⟩
    | _ => exact h.elim
  | halt x w' => cases x <;> first | exact h.elim | exact h
theorem wpOpInP_of_op {i : Nat} {a : Act} {w : World} {K : Act → World → Prop} (hd : noDefers ops = true) (h : wpOp P ops (onP Q) i K a w) : wpOpIn (Fence.wide.inRound l) n P ops Q i K a w := by
  unfold wpOp at h
  unfold wpOpIn
  split
  · rename_i hn; simpa [hn] using h
  · rename_i o ho
    simp only [ho] at h
    split
    · rename_i hw
      simp only [hw, if_true] at h
      rcases h with h | ⟨_, h⟩
      · exact wpInP_of_op (noDefers_spec hd ho) h
      · exact (onP_lets Q h).elim
    · rename_i hw
      simp only [hw] at h
      exact ⟨fun _ _ => trivial, h⟩
theorem wpAnyInP_of_any (hd : noDefers ops = true) : ∀ (fuel : Nat) (listed : Array Bool) (a : Act) (w : World), wpAny P md ops (onP Q) fuel listed a w → wpAnyIn (Fence.wide.inRound l) n P md ops Q fuel listed a w
  | 0, _, _, _, h => h
  | fuel + 1, _, _, _, h => ⟨h.1, fun i hi => wpOpIn_mono (fun a w k => wpAnyInP_of_any hd fuel _ a w k) (wpOpInP_of_op hd (h.2 i hi))⟩
theorem wpIn_region_roundP {S : World → Prop} {id : Nat} {a : Act} {w : World} (hm : P.follows .mixedOrders = true) (hd : noDefers ops = true)
    (h : wpAnyH P .any ops (onP Q) S ops.size (Array.replicate ops.size false) a w.drew) : (Code.region id ops true).wpIn (Fence.wide.inRound l) n P Q a w :=
  wpIn_region_any hm (wpAnyInP_of_any hd _ _ _ _ (wpAny_of_held _ _ _ _ h))
end Go.Lec
