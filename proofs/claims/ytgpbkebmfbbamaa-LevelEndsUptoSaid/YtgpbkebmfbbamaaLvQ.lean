/- Layer 24: the levels' sizes, one by one: the iterator. -/
import Derived.RangeFuncNested
import Derived.RangeFuncBound
import Derived.RangeFuncCalls
import Derived.RangeFuncLeaves
import Derived.RangeFuncBox
import Derived.Shelf.Abstract
import Derived.Shelf.RegionOpen
import Derived.OwnWalkIn
import Derived.TacticsInMore
import Derived.LoopNIn
import Derived.LoopIn
import Derived.Test.YtgpbkebmfbbamaaLvP
namespace Go.Lec
open Go.RowKit
/-- What has come when k rounds are over. -/
def upto {α : Type} (f : Nat → α) (k : Nat) : List α := (List.range k).map f
theorem upto_succ {α : Type} (f : Nat → α) (k : Nat) : upto f (k + 1) = upto f k ++ [f k] := by simp [upto, List.range_succ]
theorem upto_length {α : Type} (f : Nat → α) (k : Nat) : (upto f k).length = k := by simp [upto]
theorem grown_of_below {w w' : World} (h : Below w.heap.size w w') : w.grownBy w' none := ⟨h.os, h.tape, h.output, h.size, fun k hk _ => h.block k hk⟩
end Go.Lec
namespace Go.Proofs.Ytgpbkebmfbbamaa
open Go.RowKit Go.Lec Go.Shelf
attribute [local go_sem] Oper.semAt_some

/-- One of the seven lists, out of the array by value. -/
theorem run_index7 (s : St) (k : Nat) (hk : k < 7) (w : World) : (Instr.index 24 (.agg #[.slice (s.A 0) (s.n 0) (s.c 0), .slice (s.A 1) (s.n 1) (s.c 1), .slice (s.A 2) (s.n 2) (s.c 2), .slice (s.A 3) (s.n 3) (s.c 3), .slice (s.A 4) (s.n 4) (s.c 4), .slice (s.A 5) (s.n 5) (s.c 5), .slice (s.A 6) (s.n 6) (s.c 6)]) (.int .i64 k)).run Try.prog w = .ok (.slice (s.A k) (s.n k) (s.c k)) w := by
  match k, hk with
  | 0, _ => simp [Instr.index, part, asAgg, asIntOf, go_sem, run_underlying Try.underlying24]
  | 1, _ => simp [Instr.index, part, asAgg, asIntOf, go_sem, run_underlying Try.underlying24]
  | 2, _ => simp [Instr.index, part, asAgg, asIntOf, go_sem, run_underlying Try.underlying24]
  | 3, _ => simp [Instr.index, part, asAgg, asIntOf, go_sem, run_underlying Try.underlying24]
  | 4, _ => simp [Instr.index, part, asAgg, asIntOf, go_sem, run_underlying Try.underlying24]
  | 5, _ => simp [Instr.index, part, asAgg, asIntOf, go_sem, run_underlying Try.underlying24]
  | 6, _ => simp [Instr.index, part, asAgg, asIntOf, go_sem, run_underlying Try.underlying24]

theorem c_Each (w : World) (s : St) : Calls Try.prog 44 #[.agg s.arr] w fun e w' => e = .returned (.func (.func 62) #[] #[.pointer (some ⟨w.heap.size, 0, none⟩)]) ∧ w' = w.alloc (.cells s.arr 26) := by
  have hmf : ∀ (fn : Fn) (first cap : Array Value) (w : World), (Instr.makeFunc fn first cap).run Try.prog w = .ok (.func fn first cap) w := fun _ _ _ _ => rfl
  go_enter Try.func44, Try.ntmps44
  go_wp2
  go_ret
  exact ⟨rfl, rfl⟩

/-- A level's number. -/
def lvFin (j : Nat) : Fin 7 := ⟨j % 7, Nat.mod_lt _ (by decide)⟩
theorem lvFin_val {k : Nat} (hk : k < 7) : lvFin k = ⟨k, hk⟩ := by simp [lvFin, Nat.mod_eq_of_lt hk]

set_option maxRecDepth 100000 in
set_option maxHeartbeats 2000000 in
theorem each1_in (n : Nat) (hn : 1 ≤ n) (l Bs n₀ : Nat) (s : St) (J Jx : List (Fin 7) → World → Prop) (W : World) (hJa : AbidesFrom W.heap.size J)
    (hY : ∀ pre x W, J pre W → pre.length < 7 → YieldAt Fence.wide (n - 1) Try.prog l #[.int .i64 (x.1 : Int), .int .i64 (mtSize (s.L x.1))] W fun e W' =>
      (e = .returned (.bool true) ∧ J (pre ++ [x]) W' ∧ Below n₀ W W') ∨ (e = .returned (.bool false) ∧ Jx (pre ++ [x]) W'))
    (hBs : Bk W Bs 26 s.arr) (hs : s.ok W n₀) (hn₀ : n₀ ≤ W.heap.size) (h0 : J [] W) :
    CallsIn Fence.wide n Try.prog 62 #[.func (.yield l) #[] #[], .pointer (some ⟨Bs, 0, none⟩)] W fun e W' => (∃ v, e = .returned v) ∧
      ((∃ ys, ys = upto lvFin 7 ∧ J ys W') ∨ (∃ pre, (∃ k, k ≤ 7 ∧ pre = upto lvFin k) ∧ Jx pre W')) := by
  have qs := hBs.cell
  refine callsIn_of_wp Try.func62 rfl trivial ?_ rfl
  simp only [Try.ntmps62, List.size_toArray, List.length_cons, List.length_nil, Nat.reduceAdd, Nat.reduceSub, Array.replicate_succ, Array.replicate_zero, List.push_toArray, List.append_toArray, List.nil_append, List.cons_append]
  gi_wp2
  gi_loopw [7] (fun i wr => ∃ k : Nat, k ≤ 7 ∧ i = .int .i64 k ∧ J (upto lvFin k) wr ∧ Below n₀ W wr) (fun i _ => 7 - (intOf i).toNat)
  case atStart => exact ⟨0, Nat.zero_le _, rfl, h0, Below.refl _ _⟩
  case round =>
    obtain ⟨k, hk, rfl, hJs, hnx⟩ := hrel
    clear qs
    by_cases hlt : k < 7
    · have hix := run_index7 s k hlt
      obtain ⟨hlm, hlc, hln⟩ := (hs.below hnx (Nat.le_refl _)) k hlt
      have hnr : n₀ ≤ wr.heap.size := by have := hnx.size; omega
      have HS := Lib.hid (c_Size wr (c := s.c k) hlm hnr (by omega))
      clear hlm hlc hln
      gi_wp2_with (refine ⟨trivial, ?_⟩; gi_at_call 63; refine (callsIn_wide.2 HS.out).mono ?_; rintro e w1 ⟨rfl, hb⟩; have hJ1 := hJa _ wr w1 none hJs (grown_of_below hb) (fun r e => by cases e); obtain ⟨fn, tmps, assign, body, hy, hR⟩ := hY _ ⟨k, hlt⟩ w1 hJ1 (by rw [upto_length]; exact hlt); dsimp only at hy)
      refine hR.mono ?_
      rintro e W3 (⟨rfl, hJ3, hk3⟩ | ⟨rfl, hJx3⟩)
      · gi_wp2
        go_roundw
        case rel => exact ⟨k + 1, by omega, by simp, by rw [upto_succ, lvFin_val hlt]; exact hJ3, hnx.trans ((hb.mono hnr).trans hk3)⟩
        case measure => simp [intOf]; omega
      · gi_wp2
        refine bodyPost_ret (results_none rfl _ _ _) rfl ?_
        exact ⟨⟨_, rfl⟩, .inr ⟨_, ⟨k + 1, by omega, by rw [upto_succ, lvFin_val hlt]⟩, hJx3⟩⟩
    · obtain rfl : k = 7 := by omega
      gi_wp2
      go_end0
      exact ⟨⟨_, rfl⟩, .inl ⟨_, rfl, hJs⟩⟩
/-- 'Each' hands back a value that tells the levels' sizes, one by one, and stops where it is told to. -/
theorem each_stops (n : Nat) (hn : 1 ≤ n) (Bs n₀ : Nat) (s : St) (w : World) (hBs : Bk w Bs 26 s.arr) (hs : s.ok w n₀) (hn₀ : n₀ ≤ w.heap.size) :
    SeqStopsK Fence.wide n Try.prog 62 #[.pointer (some ⟨Bs, 0, none⟩)] (fun x : Fin 7 => #[Value.int .i64 (x.1 : Int), Value.int .i64 (mtSize (s.L x.1))]) (Below n₀) (fun ys => ys = upto lvFin 7) (fun pre => ∃ k, k ≤ 7 ∧ pre = upto lvFin k) 7 w := fun l J Jx W hW hJ _ hY h0 =>
  each1_in n hn l Bs n₀ s J Jx W hJ hY (hBs.below hW hBs.lt) (hs.below hW hn₀) (by have := hW.size; omega) h0
end Go.Proofs.Ytgpbkebmfbbamaa
