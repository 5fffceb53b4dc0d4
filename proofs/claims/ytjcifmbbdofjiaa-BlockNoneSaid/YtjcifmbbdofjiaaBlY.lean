/- Layer 20: an iterator that is none: the walks. -/
import Derived.Test.YtjcifmbbdofjiaaBlX
namespace Go.Proofs.Ytjcifmbbdofjiaa
open Go.RowKit Go.Lec Go.Op Go.Shelf
/-- In worlds that meet C, pv is no iterator. -/
structure NoIt (pv : Value) (C : World → Prop) : Prop where
  is : ∀ W, C W → Calls Try.prog 39 #[pv] W fun e w' => e = .returned (.bool false) ∧ w' = W
  below : ∀ W W', C W → Below W.heap.size W W' → C W'
theorem noIt_nil : NoIt (.pointer none) (fun _ => True) := ⟨fun W _ => c_Iis_none W, fun _ _ _ _ => trivial⟩
theorem noIt_zero (it : Nat) : NoIt (.pointer (some ⟨it, 0, none⟩)) (fun W => W.cell? ⟨it, 0, none⟩ = some (.int .i64 0)) :=
  ⟨fun W h => c_Iis_no W it h, fun W W' h hb => (hb.cell (p := ⟨it, 0, none⟩) (World.block_lt_of_cell? W _ h)).trans h⟩
theorem NoIt.drewN {pa : Option Addr} {C : World → Prop} (h : NoIt (.pointer pa) C) {W : World} (hC : C W) (n : Nat) : C (W.drewN n) := h.below W _ hC (belowN (Below.refl _ _) n)
set_option maxRecDepth 40000 in
theorem c_First_no {pa : Option Addr} {C : World → Prop} (h : NoIt (.pointer pa) C) (w : World) (hC : C w) : Calls Try.prog 21 #[.pointer pa] w fun e w' => e = .returned (.bool false) ∧ Below w.heap.size w w' := by
  go_enter Try.func21, Try.ntmps21
  go_wp2_with (first | (go_at_call 39; refine (h.is w hC).mono ?_; rintro e w' ⟨rfl, rfl⟩))
  go_ret
  exact ⟨rfl, Below.refl _ _⟩
set_option maxRecDepth 40000 in
theorem c_Looked_no {pa : Option Addr} {C : World → Prop} (h : NoIt (.pointer pa) C) (w : World) (hC : C w) : Calls Try.prog 20 #[.pointer pa] w fun e w' => e = .returned (.int .i64 0) ∧ Below w.heap.size w w' := by
  go_enter Try.func20, Try.ntmps20
  go_wp2_with (first | (go_at_call 39; refine (h.is w hC).mono ?_; rintro e w' ⟨rfl, rfl⟩))
  go_ret
  exact ⟨rfl, Below.refl _ _⟩
set_option maxRecDepth 40000 in
theorem c_Next_no {pa : Option Addr} {C : World → Prop} (h : NoIt (.pointer pa) C) (w : World) (hC : C w) : Calls Try.prog 22 #[.pointer pa] w fun e w' => e = .returned (.bool false) ∧ Below w.heap.size w w' := by
  have HI := Lib.hid (fun nq : Nat => h.is (w.drewN nq) (h.drewN hC nq))
  go_enter Try.func22, Try.ntmps22
  go_wp2
  go_quiet (first | (go_at_call 39; exact Calls.quiet_of_same (HI.out _)))
  go_wp2
  go_ret
  exact ⟨rfl, belowN (Below.refl _ _) _⟩
set_option maxRecDepth 40000 in
theorem c_Seek_no {pa : Option Addr} {C : World → Prop} (h : NoIt (.pointer pa) C) (w : World) (hC : C w) (k : Value) : Calls Try.prog 23 #[.pointer pa, k] w fun e w' => e = .returned (.bool false) ∧ Below w.heap.size w w' := by
  have hb := (Below.refl w.heap.size w).alloc (Nat.le_refl _) (.cells #[.pointer pa] 45)
  have HI := Lib.hid (h.is _ (h.below w _ hC hb))
  have q := (Bk.new_ w 45 #[.pointer pa]).cell 0
  go_enter Try.func23, Try.ntmps23
  go_wp2_with (first | (go_at_call 39; refine HI.out.mono ?_; rintro e w' ⟨rfl, rfl⟩))
  go_ret
  exact ⟨rfl, hb⟩
set_option maxRecDepth 40000 in
theorem c_Pair_no {pa : Option Addr} {C : World → Prop} (h : NoIt (.pointer pa) C) (w : World) (hC : C w) :
    Calls Try.prog 26 #[.pointer pa] w fun e w' => e = .returned (.tuple #[.agg #[.slice none 0 0, .slice none 0 0], .bool false]) ∧ Below w.heap.size w w' := by
  have hb1 := (Below.refl w.heap.size w).alloc (Nat.le_refl _) (.cells #[.slice none 0 0, .slice none 0 0] 35)
  have hC1 := h.below w _ hC hb1
  have bT := Bk.new_ w 35 #[.slice none 0 0, .slice none 0 0]
  have HI := Lib.hid (fun nq : Nat => h.is ((w.alloc (.cells #[.slice none 0 0, .slice none 0 0] 35)).drewN nq) (h.drewN hC1 nq))
  obtain ⟨W1, hW1⟩ : ∃ W, W = w.alloc (.cells #[.slice none 0 0, .slice none 0 0] 35) := ⟨_, rfl⟩
  rw [← hW1] at hb1 bT HI
  have z := bT.frz
  go_enter Try.func26, Try.ntmps26
  go_wp2
  rw [← hW1]
  clear hW1
  go_quiet (first | (go_at_call 39; exact Calls.quiet_of_same (HI.out _)))
  have hbf := ((belowN hb1 nq).setCell (p := ⟨w.heap.size, 0, none⟩) (Nat.le_refl _) (.slice none 0 0)).setCell (p := ⟨w.heap.size, 1, none⟩) (Nat.le_refl _) (.slice none 0 0)
  have bT2 := ((bT.drewN nq).set_ 0 (.slice none 0 0)).set_ 1 (.slice none 0 0)
  have g0 := bT2.cell 0
  have g1 := bT2.cell 1
  have r := (bT.drewN nq).cell
  go_wp2
  refine bodyPost_ret (v := .tuple #[.agg #[.slice none 0 0, .slice none 0 0], .bool false]) (by simp [results, Try.results26, go_sem, g0, g1]) rfl ?_
  exact ⟨rfl, hbf⟩
set_option maxRecDepth 40000 in
theorem c_Each (w : World) (pa : Option Addr) (A : Option Addr) (n c : Nat) : Calls Try.prog 27 #[.pointer pa, .slice A n c] w fun e w' =>
    e = .returned (.func (.func 44) #[] #[.pointer (some ⟨w.heap.size, 0, none⟩), .pointer (some ⟨w.heap.size + 1, 0, none⟩)]) ∧ w' = (w.alloc (.cells #[.pointer pa] 45)).alloc (.cells #[.slice A n c] 25) := by
  have hmf : ∀ (fn : Fn) (first cap : Array Value) (w : World), (Instr.makeFunc fn first cap).run Try.prog w = .ok (.func fn first cap) w := fun _ _ _ _ => rfl
  go_enter Try.func27, Try.ntmps27
  go_wp2
  go_ret
  exact ⟨rfl, rfl⟩
set_option maxRecDepth 100000 in
theorem each_none (n : Nat) (hn : 1 ≤ n) (bi n₀ : Nat) (bf : Value) {pa : Option Addr} {C : World → Prop} (h : NoIt (.pointer pa) C) (w : World) (hB : Bk w bi 45 #[.pointer pa]) (hC : C w) :
    SeqStopsK Fence.wide n Try.prog 44 #[.pointer (some ⟨bi, 0, none⟩), bf] (fun _ : Empty => #[Value.slice none 0 0, Value.slice none 0 0]) (Below n₀) (fun _ => True) (fun _ => True) 0 w := by
  intro l J Jx W hW hJ _ hY h0
  have q := (hB.below hW hB.lt).cell 0
  have HI := Lib.hid (h.is W (h.below w W hC hW))
  clear hB hC
  refine callsIn_of_wp Try.func44 rfl trivial ?_ rfl
  simp only [Try.ntmps44, List.size_toArray, List.length_cons, List.length_nil, Nat.reduceAdd, Nat.reduceSub, Array.replicate_succ, Array.replicate_zero, List.push_toArray, List.append_toArray, List.nil_append, List.cons_append]
  gi_wp2_with (refine ⟨trivial, ?_⟩; gi_at_call 39; refine (callsIn_wide.2 HI.out).mono ?_; rintro e w1 ⟨rfl, rfl⟩)
  refine bodyPost_ret (results_none rfl _ _ _) rfl ?_
  exact ⟨⟨_, rfl⟩, .inl ⟨[], trivial, h0⟩⟩
theorem run_neq_seq (w : World) (g : Fn) (f c : Array Value) : (binOp .neq 60 (.func g f c) .nilFunc).run Try.prog w = .ok (.bool true) w := by
  have h : ∀ d : Nat, (Op.equalIn (d + 1) 60 (.func g f c) .nilFunc).run Try.prog w = .ok false w := fun d => by
    simp [Op.equalIn, run_underlying Try.underlying60]
  simp only [binOp]
  simp [Op.equal, Op.maxDepth, h 9999]
end Go.Proofs.Ytjcifmbbdofjiaa
