/- Layer 20: Each hands back an iterator. -/
import Derived.Test.YtjcifmbbdofjiaaBlW
namespace Go.Proofs.Ytjcifmbbdofjiaa
open Go.RowKit Go.Lec Go.Op Go.Shelf
set_option maxRecDepth 40000 in
theorem c_Each (w : World) (pa : Option Addr) (A : Option Addr) (n c : Nat) : Calls Try.prog 27 #[.pointer pa, .slice A n c] w fun e w' =>
    e = .returned (.func (.func 44) #[] #[.pointer (some ⟨w.heap.size, 0, none⟩), .pointer (some ⟨w.heap.size + 1, 0, none⟩)]) ∧ w' = (w.alloc (.cells #[.pointer pa] 45)).alloc (.cells #[.slice A n c] 25) := by
  have hmf : ∀ (fn : Fn) (first cap : Array Value) (w : World), (Instr.makeFunc fn first cap).run Try.prog w = .ok (.func fn first cap) w := fun _ _ _ _ => rfl
  go_enter Try.func27, Try.ntmps27
  go_wp2
  go_ret
  exact ⟨rfl, rfl⟩
theorem run_neq_seq (w : World) (g : Fn) (f c : Array Value) : (binOp .neq 60 (.func g f c) .nilFunc).run Try.prog w = .ok (.bool true) w := by
  have h : ∀ d : Nat, (Op.equalIn (d + 1) 60 (.func g f c) .nilFunc).run Try.prog w = .ok false w := fun d => by
    simp [Op.equalIn, run_underlying Try.underlying60]
  simp only [binOp]
  simp [Op.equal, Op.maxDepth, h 9999]
end Go.Proofs.Ytjcifmbbdofjiaa
