/- Layer 20: slices.All of pairs: the iterator. -/
import Derived.RangeFuncNested
import Derived.RangeFuncBound
import Derived.RangeFuncCalls
import Derived.RangeFuncLeaves
import Derived.RangeFuncBox
import Derived.Shelf.Abstract
import Derived.Shelf.RegionOpen
import Derived.OwnWalkIn
import Derived.TacticsInMore
import Derived.LoopNIn
import Derived.LoopIn
import Derived.Test.YtjcifmbbdofjiaaBlQ
namespace Go.Lec
open Go.RowKit
/-- What has come when k rounds are over. -/
def upto {α : Type} (f : Nat → α) (k : Nat) : List α := (List.range k).map f
theorem upto_succ {α : Type} (f : Nat → α) (k : Nat) : upto f (k + 1) = upto f k ++ [f k] := by simp [upto, List.range_succ]
theorem upto_length {α : Type} (f : Nat → α) (k : Nat) : (upto f k).length = k := by simp [upto]
theorem grown_of_below {w w' : World} (h : Below w.heap.size w w') : w.grownBy w' none := ⟨h.os, h.tape, h.output, h.size, fun k hk _ => h.block k hk⟩
/-- A pair of a list, beside its number. -/
def Px (L : List Pr) : Type := { x : Nat × Pr // L[x.1]? = some x.2 }
end Go.Lec
namespace Go.Proofs.Ytjcifmbbdofjiaa
open Go.RowKit Go.Lec Go.Shelf
attribute [local go_sem] Oper.semAt_some
set_option maxRecDepth 40000 in
theorem c_All (w : World) {A : Option Addr} {n c : Nat} : Calls Try.prog 48 #[.slice A n c] w fun e w' => e = .returned (.func (.func 62) #[] #[.pointer (some ⟨w.heap.size, 0, none⟩)]) ∧ w' = w.alloc (.cells #[.slice A n c] 22) := by
  have hmf : ∀ (fn : Fn) (first cap : Array Value) (w : World), (Instr.makeFunc fn first cap).run Try.prog w = .ok (.func fn first cap) w := fun _ _ _ _ => rfl
  go_enter Try.func48, Try.ntmps48
  go_wp2
  go_ret
  exact ⟨rfl, rfl⟩
set_option maxRecDepth 100000 in
set_option maxHeartbeats 2000000 in
theorem all1_in (n : Nat) (hn : 1 ≤ n) (l Bs n₀ : Nat) {L : List Pr} {A : Option Addr} {N c : Nat} (J Jx : List (Px L) → World → Prop) (W : World) (hJa : AbidesFrom W.heap.size J)
    (hY : ∀ pre x W, J pre W → pre.length < N → YieldAt Fence.wide (n - 1) Try.prog l #[.int .i64 (x.1.1 : Int), x.1.2.val] W fun e W' =>
      (e = .returned (.bool true) ∧ J (pre ++ [x]) W' ∧ Below n₀ W W') ∨ (e = .returned (.bool false) ∧ Jx (pre ++ [x]) W'))
    (hBs : Bk W Bs 22 #[.slice A N c]) (hs : Prs W n₀ A N L) (hn₀ : n₀ ≤ W.heap.size) (hN : N ≤ 1099511627776) (h0 : J [] W) :
    CallsIn Fence.wide n Try.prog 62 #[.func (.yield l) #[] #[], .pointer (some ⟨Bs, 0, none⟩)] W fun e W' => (∃ v, e = .returned v) ∧
      ((∃ ys, True ∧ J ys W') ∨ (∃ pre, True ∧ Jx pre W')) := by
  have qs := hBs.cell 0
  refine callsIn_of_wp Try.func62 rfl trivial ?_ rfl
  simp only [Try.ntmps62, List.size_toArray, List.length_cons, List.length_nil, Nat.reduceAdd, Nat.reduceSub, Array.replicate_succ, Array.replicate_zero, List.push_toArray, List.append_toArray, List.nil_append, List.cons_append]
  gi_wp2
  gi_loopw [7] (fun i wr => ∃ (k : Nat) (pre : List (Px L)), k ≤ N ∧ i = .int .i64 k ∧ pre.length = k ∧ J pre wr ∧ Below n₀ W wr) (fun i _ => N - (intOf i).toNat)
  case atStart => exact ⟨0, [], Nat.zero_le _, rfl, rfl, h0, Below.refl _ _⟩
  case round =>
    obtain ⟨k, pre, hk, rfl, hpl, hJs, hnx⟩ := hrel
    clear qs
    by_cases hlt : k < N
    · obtain ⟨b, o, m, rfl, hbB, hmk, _, hmok, hcell⟩ := hs.cell2 hlt
      obtain ⟨c0, c1⟩ := hcell wr hnx
      have hnr : n₀ ≤ wr.heap.size := by have := hnx.size; omega
      have lbr : b < wr.heap.size := by omega
      have HB := Bk.new_ wr 35 #[.slice m.A1 m.n1 m.c1, .slice m.A2 m.n2 m.c2]
      have hb1 := (Below.refl wr.heap.size wr).alloc (Nat.le_refl _) (.cells #[.slice m.A1 m.n1 m.c1, .slice m.A2 m.n2 m.c2] 35)
      have hJ1 := hJa _ wr _ none hJs (grown_of_below hb1) (fun r e => by cases e)
      have g0 := HB.cell 0
      have g1 := HB.cell 1
      obtain ⟨fn, tmps, assign, body, hy, hR⟩ := hY pre ⟨(k, m), hmk⟩ _ hJ1 (by omega)
      dsimp only [Pr.val] at hy
      have Hpl := Lib.hid hpl
      clear hcell hmok HB hpl
      have hki : (k : Int) < (N : Int) := by omega
      gi_wp2
      refine hR.mono ?_
      rintro e W3 (⟨rfl, hJ3, hk3⟩ | ⟨rfl, hJx3⟩)
      · gi_wp2
        go_roundw
        case rel => exact ⟨k + 1, _, by omega, by simp, by rw [List.length_append, Hpl.out]; rfl, hJ3, hnx.trans ((hb1.mono hnr).trans hk3)⟩
        case measure => simp [intOf]; omega
      · gi_wp2
        refine bodyPost_ret (results_none rfl _ _ _) rfl ?_
        exact ⟨⟨_, rfl⟩, .inr ⟨_, trivial, hJx3⟩⟩
    · obtain rfl : k = N := by omega
      gi_wp2
      go_end0
      exact ⟨⟨_, rfl⟩, .inl ⟨_, trivial, hJs⟩⟩
/-- 'All' hands back a value that tells the pairs, one by one, and stops where it is told to. -/
theorem all_stops (n : Nat) (hn : 1 ≤ n) (Bs n₀ : Nat) {L : List Pr} {A : Option Addr} {N c : Nat} (w : World) (hBs : Bk w Bs 22 #[.slice A N c]) (hs : Prs w n₀ A N L) (hn₀ : n₀ ≤ w.heap.size) (hN : N ≤ 1099511627776) :
    SeqStopsK Fence.wide n Try.prog 62 #[.pointer (some ⟨Bs, 0, none⟩)] (fun x : Px L => #[Value.int .i64 (x.1.1 : Int), x.1.2.val]) (Below n₀) (fun _ => True) (fun _ => True) N w := fun l J Jx W hW hJ _ hY h0 =>
  all1_in n hn l Bs n₀ J Jx W hJ hY (hBs.below hW hBs.lt) (hs.below hW hn₀) (by have := hW.size; omega) hN h0
end Go.Proofs.Ytjcifmbbdofjiaa
