/- Layer 17: a log that nobody made: the walks, and the law's. -/
import Derived.LoopN
import Derived.Test.YtgilnjngphhhlaaGreatFsNo
import Derived.Test.YtgilnjngphhhlaaGreatWalP
namespace Go.Proofs.YtgilnjngphhhlaaGreat
open Go.RowKit Go.Lec Go.Op Go.Shelf
attribute [local go_sem] Oper.semAt_some
set_option maxRecDepth 40000 in
theorem l_is_none (w : World) : Calls Tryz.prog 21 #[.pointer none] w fun e w' => e = .returned (.bool false) ∧ w' = w := by
  go_enter Tryz.func21, Tryz.ntmps21
  go_wp2
  go_ret
  exact ⟨rfl, rfl⟩
set_option maxRecDepth 40000 in
theorem l_is_no (w : World) (lb : Nat) (q : w.cell? ⟨lb, 0, none⟩ = some (.int .i64 0)) : Calls Tryz.prog 21 #[.pointer (some ⟨lb, 0, none⟩)] w fun e w' => e = .returned (.bool false) ∧ w' = w := by
  go_enter Tryz.func21, Tryz.ntmps21
  go_wp2
  go_ret
  exact ⟨rfl, rfl⟩
/-- In worlds that meet C, pa is no log. -/
structure NoLg (pa : Option Addr) (C : World → Prop) : Prop where
  is : ∀ W, C W → Calls Tryz.prog 21 #[.pointer pa] W fun e w' => e = .returned (.bool false) ∧ w' = W
  below : ∀ W W', C W → Below W.heap.size W W' → C W'
theorem noLg_nil : NoLg none (fun _ => True) := ⟨fun W _ => l_is_none W, fun _ _ _ _ => trivial⟩
theorem noLg_zero (lb : Nat) : NoLg (some ⟨lb, 0, none⟩) (fun W => W.cell? ⟨lb, 0, none⟩ = some (.int .i64 0)) :=
  ⟨fun W h => l_is_no W lb h, fun W W' h hb => (hb.cell (p := ⟨lb, 0, none⟩) (World.block_lt_of_cell? W _ h)).trans h⟩
section
variable {pa : Option Addr} {C : World → Prop}
set_option maxRecDepth 40000 in
theorem n_lAppend (h : NoLg pa C) (w : World) (hC : C w) (A : Option Addr) (n c : Nat) (s : Bool) : Calls Tryz.prog 6 #[.pointer pa, .slice A n c, .bool s] w fun e w' => e = .returned (.int .i64 170) ∧ w' = w := by
  have H := Lib.hid (h.is w hC)
  go_enter Tryz.func6, Tryz.ntmps6
  go_wp2_with (first | (go_at_call 21; refine H.out.mono ?_; rintro e w1 ⟨rfl, rfl⟩))
  go_ret
  exact ⟨rfl, rfl⟩
set_option maxRecDepth 40000 in
theorem n_lSync (h : NoLg pa C) (w : World) (hC : C w) : Calls Tryz.prog 7 #[.pointer pa] w fun e w' => e = .returned (.int .i64 170) ∧ w' = w := by
  have H := Lib.hid (h.is w hC)
  go_enter Tryz.func7, Tryz.ntmps7
  go_wp2_with (first | (go_at_call 21; refine H.out.mono ?_; rintro e w1 ⟨rfl, rfl⟩))
  go_ret
  exact ⟨rfl, rfl⟩
set_option maxRecDepth 40000 in
theorem n_lCount (h : NoLg pa C) (w : World) (hC : C w) : Calls Tryz.prog 9 #[.pointer pa] w fun e w' => e = .returned (.int .i64 0) ∧ w' = w := by
  have H := Lib.hid (h.is w hC)
  go_enter Tryz.func9, Tryz.ntmps9
  go_wp2_with (first | (go_at_call 21; refine H.out.mono ?_; rintro e w1 ⟨rfl, rfl⟩))
  go_ret
  exact ⟨rfl, rfl⟩
set_option maxRecDepth 40000 in
theorem n_lSize (h : NoLg pa C) (w : World) (hC : C w) : Calls Tryz.prog 10 #[.pointer pa] w fun e w' => e = .returned (.int .i64 0) ∧ w' = w := by
  have H := Lib.hid (h.is w hC)
  go_enter Tryz.func10, Tryz.ntmps10
  go_wp2_with (first | (go_at_call 21; refine H.out.mono ?_; rintro e w1 ⟨rfl, rfl⟩))
  go_ret
  exact ⟨rfl, rfl⟩
set_option maxRecDepth 40000 in
theorem n_lName (h : NoLg pa C) (w : World) (hC : C w) : Calls Tryz.prog 11 #[.pointer pa] w fun e w' => e = .returned (.string ⟨#[]⟩) ∧ w' = w := by
  have H := Lib.hid (h.is w hC)
  go_enter Tryz.func11, Tryz.ntmps11
  go_wp2_with (first | (go_at_call 21; refine H.out.mono ?_; rintro e w1 ⟨rfl, rfl⟩))
  go_ret
  exact ⟨rfl, rfl⟩
end
set_option maxRecDepth 40000 in
theorem l_Each0 (w : World) (pa : Option Addr) : Calls Tryz.prog 12 #[.pointer pa] w fun e w' =>
    e = .returned (.func (.func 26) #[] #[.pointer (some ⟨w.heap.size, 0, none⟩)]) ∧ w' = w.alloc (.cells #[.pointer pa] 24) := by
  have hmf : ∀ (fn : Fn) (first cap : Array Value) (w : World), (Instr.makeFunc fn first cap).run Tryz.prog w = .ok (.func fn first cap) w := fun _ _ _ _ => rfl
  go_enter Tryz.func12, Tryz.ntmps12
  go_wp2
  go_ret
  exact ⟨rfl, rfl⟩
set_option maxRecDepth 100000 in
theorem lEach_none (n : Nat) (hn : 1 ≤ n) (bi n₀ : Nat) {pa : Option Addr} {C : World → Prop} (h : NoLg pa C) (w : World) (hB : Bk w bi 24 #[.pointer pa]) (hC : C w) :
    SeqStopsK Fence.wide n Tryz.prog 26 #[.pointer (some ⟨bi, 0, none⟩)] (fun _ : Empty => #[Value.int .i64 0, Value.slice none 0 0]) (Below n₀) (fun _ => True) (fun _ => True) 0 w := by
  intro l J Jx W hW hJ _ hY h0
  have q := (hB.below hW hB.lt).cell 0
  have HI := Lib.hid (h.is W (h.below w W hC hW))
  clear hB hC
  refine callsIn_of_wp Tryz.func26 rfl trivial ?_ rfl
  simp only [Tryz.ntmps26, List.size_toArray, List.length_cons, List.length_nil, Nat.reduceAdd, Nat.reduceSub, Array.replicate_succ, Array.replicate_zero, List.push_toArray, List.append_toArray, List.nil_append, List.cons_append]
  gi_wp2_with (refine ⟨trivial, ?_⟩; gi_at_call 21; refine (callsIn_wide.2 HI.out).mono ?_; rintro e w1 ⟨rfl, rfl⟩)
  refine bodyPost_ret (results_none rfl _ _ _) rfl ?_
  exact ⟨⟨_, rfl⟩, .inl ⟨[], trivial, h0⟩⟩
/-- The file system is none: nothing is created, nothing is opened. -/
theorem noneAt0 (w : World) : NoneAt w none := fun W _ => c_is_none W
set_option maxRecDepth 40000 in
theorem n_lCreate (w : World) (s : ByteArray) : Calls Tryz.prog 13 #[.pointer none, .string s] w fun e w' => e = .returned (.tuple #[.pointer none, .int .i64 12]) ∧ w' = w := by
  have H := Lib.hid (n_Create w none s (noneAt0 w))
  go_enter Tryz.func13, Tryz.ntmps13
  go_wp2_with (first | (go_at_call 27; refine H.out.mono ?_; rintro e w1 ⟨rfl, rfl⟩))
  go_ret2
  exact ⟨rfl, rfl⟩
set_option maxRecDepth 40000 in
theorem n_lOpen (w : World) (s : ByteArray) : Calls Tryz.prog 14 #[.pointer none, .string s] w fun e w' => e = .returned (.tuple #[.pointer none, .int .i64 12]) ∧ w' = w := by
  have H := Lib.hid (n_Size w none s (noneAt0 w))
  go_enter Tryz.func14, Tryz.ntmps14
  go_wp2_with (first | (go_at_call 29; refine H.out.mono ?_; rintro e w1 ⟨rfl, rfl⟩))
  go_ret2
  exact ⟨rfl, rfl⟩
end Go.Proofs.YtgilnjngphhhlaaGreat
