/- Layer 1: the small functions: the walks. -/
import Derived.Test.YtgilnjngphhhlaaGreatFsRel
import Derived.Deep.RegionLawGrows
import Derived.Lib.SliceRun
import Derived.Laws.LoneSync
import Derived.IntWalk
namespace Go.Lec
open Go.RowKit
/-- What an append that may not write in place leaves: the bytes, in what was there or in a new row. -/
def ClipP (w : World) (A : Option Addr) (n0 : Nat) (xs : List Value) (n : Nat) (v : Value) (w' : World) : Prop :=
  ∃ A' c', v = .slice A' n c' ∧ n ≤ c' ∧ Rd w' w'.heap.size A' n xs ∧ (0 < n → ∀ p, A' = some p → (A = some p ∧ 0 < n0) ∨ w.heap.size ≤ p.block) ∧ Below w.heap.size w w'
section
variable {P : Program} {w : World} {ops : Array Oper} {o : Oper} {a : Act} {Q : Exit → Act → World → Prop} {K : Act → World → Prop} {E : Prop}
/-- append to a slice that has no room, at a step of a region that draws its order. -/
theorem step_app_clip {t e : TypeId} {z : Value} {by_ : Nat} (hgd : o.guard = none) (s x : Operand)
    (ho : o.op = .call { callee := .builtin .append, args := #[s, x], argTypes := #[t, t] }) (hT : SlT P t e z by_) (hby : by_ ≤ 128)
    {xs news : List Value} {n m c : Nat} {A B : Option Addr} (hs : a.eval s = .slice A n n) (hr0 : Rd w w.heap.size A n xs) (hx : a.eval x = .slice B m c) (hr : Rd w w.heap.size B m news)
    (h1 : ∀ u ∈ news, u.oneCell' = true) (hlen : n + m ≤ 1099511627776)
    (h : ∀ v' w', ClipP w A n (xs ++ news) (n + m) v' w' → K (a.put o.dst v') w') :
    if Region.wanted o (yielded ops a.tmps) = true then Oper.wp P o a w K Q else E := by
  obtain ⟨i, hi, hz, hsz, hbb'⟩ := hT.info
  have hbb : (n + m) * by_ ≤ 140737488355328 := Nat.le_trans (Nat.mul_le_mul hlen hby) (by decide)
  rcases Nat.eq_zero_or_pos m with h0 | h0
  · have hw : Region.wanted o (yielded ops a.tmps) = true := by simp [Region.wanted, hgd]
    rw [if_pos hw]
    subst h0
    have hn : news = [] := List.eq_nil_of_length_eq_zero hr.1
    subst hn
    have hrun : (Builtin.append_ #[t, t] o.type #[.slice A n n, .slice B 0 c]).run P w = .ok (.slice A n n) w := by
      rcases Nat.eq_zero_or_pos n with hn | hn
      · subst hn
        cases A <;> cases B <;> simp [Builtin.append_, run_underlying hT.ut, sizeOf, typeInfo, hi, Builtin.lenOf, Builtin.firstCells, loadCells, loadCellsFrom, storeCells]
      · obtain ⟨b, of, rfl, _, _⟩ := hr0.2 hn
        cases B <;> simp [Builtin.append_, run_underlying hT.ut, sizeOf, typeInfo, hi, Builtin.lenOf, Builtin.firstCells, loadCells, loadCellsFrom, storeCells]
    unfold Oper.wp execOp
    simp only [ho, resolve, invoke, builtin, Sem.run_bind, Sem.run_pure, Result.andThen_ok, List.map_toArray, List.map_cons, List.map_nil, hs, hx, hrun]
    refine h _ _ ⟨A, n, rfl, Nat.le_refl _, ?_, fun h0 p hp => .inl ⟨hp, h0⟩, Below.refl _ _⟩
    rw [List.append_nil]
    exact hr0
  · obtain ⟨b, of, rfl, _, hc⟩ := hr.2 h0
    refine step_append_grows hgd s x t ho e i z 1 by_ hT.ut hi hz hsz hbb' hT.zc (by decide) A n n xs hs ?_ (by have := hr0.1; omega) ?_ ⟨b, of, none⟩ m c news hx (by have := hr.1; omega) ?_ h1 (by omega) (by unfold maxLen; omega) hbb ?_
    · intro hA
      rcases Nat.eq_zero_or_pos n with hn | hn
      · exact ⟨hn, hn⟩
      · obtain ⟨b', o', e, _⟩ := hr0.2 hn; rw [hA] at e; cases e
    · intro b' hA j u hu
      rcases Nat.eq_zero_or_pos n with hn | hn
      · have : xs = [] := List.eq_nil_of_length_eq_zero (by rw [hr0.1, hn])
        rw [this] at hu; cases hu
      · obtain ⟨b2, o2, e, _, hc2⟩ := hr0.2 hn
        rw [hA] at e; cases e
        rw [Addr.add_lit]
        exact hc2 j u hu
    · intro j u hu
      rw [Addr.add_lit]
      exact hc j u hu
    · intro v' w' hown hg
      have hl : (xs ++ news).length = n + m := by rw [List.length_append, hr0.1, hr.1]
      obtain ⟨A', c', rfl, hc'⟩ := OwnK.shape (k := 1) hown
      have hb : Below w.heap.size w w' := below_of_grownNone hg
      refine h _ _ ⟨A', c', rfl, hc', ?_, fun _ p hp => .inr ?_, hb⟩
      · have hown' : Own w' w.heap.size e (.slice A' (n + m) c') (xs ++ news) := by unfold Own; rw [hl]; exact hown
        exact Own.rd hown'
      · subst hp; exact (World.ownsRow.lt hown p.block rfl).1
where
  below_of_grownNone {w w' : World} (h : w.grownBy w' none) : Below w.heap.size w w' := (Below.refl _ _).grown h (Nat.le_refl _) (fun k e => by cases e)
end
end Go.Lec
namespace Go.Proofs.YtgilnjngphhhlaaGreat
open Go.RowKit Go.Lec Go.Fsy Go.Op
theorem info5 : (Tryz.prog.info? 5).map (fun i => (i.zero, i.size, i.bytes)) = some (some (.int .u8 0), 1, 1) := by kernel_rfl
theorem slb : SlT Tryz.prog 22 5 (.int .u8 0) 1 := ⟨Tryz.underlying22, info_parts info5, rfl⟩
theorem info3 : (Tryz.prog.info? 3).map (fun i => (i.zero, i.size, i.bytes)) = some (some (.int .i64 0), 1, 8) := by kernel_rfl
theorem sln : SlT Tryz.prog 42 3 (.int .i64 0) 8 := ⟨Tryz.underlying42, info_parts info3, rfl⟩
theorem infoC : (Tryz.prog.info? 108).map (fun i => (i.zero, i.size, i.bytes)) = some (some .nilIface, 1, 16) := by kernel_rfl
theorem slc : SlT Tryz.prog 87 108 .nilIface 16 := ⟨Tryz.underlying87, info_parts infoC, rfl⟩
theorem infoM : (Tryz.prog.info? 99).map (fun i => (i.zero, i.size, i.bytes)) = some (some (.agg #[.string ⟨#[]⟩, .string ⟨#[]⟩, .pointer none]), 3, 40) := by kernel_rfl
theorem slm : SlK Tryz.prog 72 99 (.agg #[.string ⟨#[]⟩, .string ⟨#[]⟩, .pointer none]) 40 3 := ⟨Tryz.underlying72, info_parts infoM, rfl, by decide⟩
set_option maxRecDepth 40000 in
theorem c_is_none (w : World) : Calls Tryz.prog 32 #[.pointer none] w fun e w' => e = .returned (.bool false) ∧ w' = w := by
  go_enter Tryz.func32, Tryz.ntmps32
  go_wp2
  go_ret
  exact ⟨rfl, rfl⟩
set_option maxRecDepth 40000 in
theorem c_is_no (w : World) (fb : Nat) (q : w.cell? ⟨fb, 0, none⟩ = some (.int .i64 0)) : Calls Tryz.prog 32 #[.pointer (some ⟨fb, 0, none⟩)] w fun e w' => e = .returned (.bool false) ∧ w' = w := by
  go_enter Tryz.func32, Tryz.ntmps32
  go_wp2
  go_ret
  exact ⟨rfl, rfl⟩
set_option maxRecDepth 40000 in
theorem c_is (w : World) (fb : Nat) (q : w.cell? ⟨fb, 0, none⟩ = some (.int .i64 1)) : Calls Tryz.prog 32 #[.pointer (some ⟨fb, 0, none⟩)] w fun e w' => e = .returned (.bool true) ∧ w' = w := by
  go_enter Tryz.func32, Tryz.ntmps32
  go_wp2
  go_ret
  exact ⟨rfl, rfl⟩
set_option maxRecDepth 40000 in
theorem c_aAdd (w : World) (fb i : Nat) (x : Int) (hx : 0 ≤ x) (hx2 : x ≤ 1099511627776) (q : w.cell? ⟨fb, i, none⟩ = some (.int .i64 x)) (z : w.frozen? ⟨fb, i, none⟩ = false) :
    Calls Tryz.prog 55 #[.pointer (some ⟨fb, i, none⟩), .int .i64 1] w fun e w' => e = .returned (.int .i64 (x + 1)) ∧ w' = w.setCell ⟨fb, i, none⟩ (.int .i64 (x + 1)) := by
  have hd := run_call_add (P := Tryz.prog) Tryz.func63 (by kernel_rfl) (by kernel_rfl) (by kernel_rfl) .i64 (by kernel_rfl) (x := x) (y := 1) (s := x + 1) q z (by simp [go_sem, IntWalk.i64_in (x + 1) (by omega)])
  go_enter Tryz.func55, Tryz.ntmps55
  go_wp2
  go_ret
  exact ⟨rfl, rfl⟩
set_option maxRecDepth 40000 in
theorem c_aStore (w : World) (fb i : Nat) (x y : Int) (q : w.cell? ⟨fb, i, none⟩ = some (.int .i64 x)) (z : w.frozen? ⟨fb, i, none⟩ = false) :
    Calls Tryz.prog 34 #[.pointer (some ⟨fb, i, none⟩), .int .i64 y] w fun e w' => e = .returned (.tuple #[]) ∧ w' = w.setCell ⟨fb, i, none⟩ (.int .i64 y) := by
  have hd := run_call_store (P := Tryz.prog) Tryz.func49 (by kernel_rfl) (by kernel_rfl) (by kernel_rfl) (by kernel_rfl) (k := .i64) (y := y) q z
  go_enter Tryz.func34, Tryz.ntmps34
  go_wp2
  go_end0
  exact ⟨rfl, rfl⟩
set_option maxRecDepth 40000 in
theorem c_survive (w : World) (k : Int) (n : Nat) (hk1 : -9223372036854775808 ≤ k) (hk2 : k ≤ 9223372036854775807) (hn : n ≤ 1099511627776) :
    Calls Tryz.prog 46 #[.int .i64 k, .int .i64 (n : Int)] w fun e w' => e = .returned (.int .i64 (survive k n : Nat)) ∧ w = w' := by
  by_cases hk : k < 0
  · rw [survive, if_pos hk]
    go_enter Tryz.func46, Tryz.ntmps46
    go_wp2
    go_ret
    exact ⟨rfl, rfl⟩
  · rw [survive, if_neg hk]
    have hz : (((n : Int) + 1) == 0) = false := by rw [beq_eq_false_iff_ne]; omega
    have hm : k % ((n : Int) + 1) = ((k.toNat % (n + 1) : Nat) : Int) := by
      rw [Int.natCast_emod]
      congr 1
      omega
    have hk0 : 0 ≤ k := by omega
    obtain ⟨r, hr⟩ : ∃ r, r = k.toNat % (n + 1) := ⟨_, rfl⟩
    rw [← hr] at hm ⊢
    have Hr := Lib.hid hr
    clear hr
    go_enter Tryz.func46, Tryz.ntmps46
    go_wp2
    go_ret
    exact ⟨rfl, rfl⟩
set_option maxRecDepth 40000 in
theorem c_Clip (w : World) {A : Option Addr} {n c : Nat} (hc : n ≤ c) (_hn : n ≤ 1099511627776) (_hA : A = none → n = 0) :
    Calls Tryz.prog 140 #[.slice A n c] w fun e w' => e = .returned (.slice A n n) ∧ w = w' := by
  have h1 : (n : Int) ≤ (c : Int) := by omega
  go_enter Tryz.func140, Tryz.ntmps140
  go_wp2
  go_ret
  exact ⟨rfl, rfl⟩
set_option maxRecDepth 40000 in
theorem c_CloneB (w : World) {B : Nat} {A : Option Addr} {n c : Nat} {l : List UInt8} (hr : Rd w B A n (bcs l)) (hB : B ≤ w.heap.size) (hn : n ≤ 1099511627776) :
    Calls Tryz.prog 25 #[.slice A n c] w fun e w' => ∃ A' c', e = .returned (.slice A' n c') ∧ n ≤ c' ∧ RdP (fun b => w.heap.size ≤ b) w' A' n (bcs l) ∧ Below w.heap.size w w' := by
  have hk := Lib.run_eql_slice_nil (P := Tryz.prog) w 22 5 A n c 0 0 Tryz.underlying22
  have hln := hr.1
  rw [bcs_length] at hln
  have Hln := Lib.hid hln; clear hln
  go_enter Tryz.func25, Tryz.ntmps25
  cases A with
  | none =>
    have h0 : n = 0 := by
      rcases Nat.eq_zero_or_pos n with h | h
      · exact h
      · obtain ⟨b, o, e, _⟩ := hr.2 h; cases e
    subst h0
    obtain rfl : l = [] := List.eq_nil_of_length_eq_zero Hln.out
    go_wp2
    go_ret
    exact ⟨_, _, rfl, Nat.le_refl _, RdP.nil_, Below.refl _ _⟩
  | some a =>
    go_wp2_with (first
      | (at_builtin; (refine wpList_app_rd (m := n) rfl _ _ rfl slb rfl (Lec.Own.lit w [] (Nat.le_refl _) (by simp)) rfl (hr.alloc hB _) bcs_one (by simp; omega) (by decide) (by simp) ?_); intro v2 w2 ho2 hb2 hg2))
    rw [List.nil_append] at ho2
    obtain ⟨A2, c2, rfl, hc2⟩ := ho2.shapeN (n := n) (by rw [bcs_length, Hln.out])
    go_ret
    refine ⟨_, _, rfl, hc2, RdP.new_ (e := 5) (c := c2) ?_, ?_⟩
    · have := ho2
      unfold Lec.Own at this
      rwa [bcs_length, Hln.out] at this
    · exact ((Below.refl _ _).alloc (Nat.le_refl _) _).trans hb2
set_option maxRecDepth 40000 in
set_option maxHeartbeats 800000 in
theorem c_addedLay (w : World) {A B : Option Addr} {n c m d : Nat} {l b : List UInt8} (hr : Rd w w.heap.size A n (bcs l)) (hc : n ≤ c) (hb : Rd w w.heap.size B m (bcs b)) (hn : n + m ≤ 1099511627776) :
    Calls Tryz.prog 138 #[.agg #[.slice B m d], .slice A n c] w fun e w' => ∃ v, e = .returned v ∧ ClipP w A n (bcs (l ++ b)) (n + m) v w' := by
  have hA : A = none → n = 0 := fun h => by
    rcases Nat.eq_zero_or_pos n with h0 | h0
    · exact h0
    · obtain ⟨_, _, e, _⟩ := hr.2 h0; rw [h] at e; cases e
  have hP := (Bk.new_ w 95 #[.slice B m d]).cell 0
  have hbl := (Below.refl w.heap.size w).alloc (Nat.le_refl _) (.cells #[.slice B m d] 95)
  have hr1 := (hr.below hbl (Nat.le_refl _)).more hbl.size
  have hb1 := (hb.below hbl (Nat.le_refl _)).more hbl.size
  have hcl := Lib.hid (fun W => c_Clip W (A := A) hc (by omega) hA)
  have HR := Lib.hid (show ∀ W : World, Below (w.alloc (.cells #[.slice B m d] 95)).heap.size (w.alloc (.cells #[.slice B m d] 95)) W → Rd W W.heap.size A n (bcs l) ∧ Rd W W.heap.size B m (bcs b) from fun W h => ⟨(hr1.below h (Nat.le_refl _)).more h.size, (hb1.below h (Nat.le_refl _)).more h.size⟩)
  clear hr hb hr1 hb1
  go_enter Tryz.func138, Tryz.ntmps138
  go_wp2
  go_region_held3 (fun W' => W'.cell? ⟨w.heap.size, 0, none⟩ = some (.slice B m d))
    (first | assumption | go_keep)
    (first | (go_at_call 140; refine (hcl.out _).mono ?_; rintro e w1 ⟨rfl, rfl⟩) | (refine at_app (.tmp 6) (.tmp 8) ?_; go_loud (refine step_app_clip rfl (.tmp 6) (.tmp 8) rfl slb (by decide) rfl (HR.out _ (Below.refl _ _).drew).1 rfl (HR.out _ (Below.refl _ _).drew).2 bcs_one hn ?_); intro v1 w1 hv1; obtain ⟨A1, c1, rfl, hc1, hR1, hN1, hB1⟩ := hv1; have q1 := (hB1.cell (p := ⟨w.heap.size, 0, none⟩) (by simp)).trans hP))
  all_goals
    go_wp2
    go_ret
    exact ⟨_, rfl, A1, c1, rfl, hc1, by rw [bcs_append]; exact hR1, fun h0 p hp => (hN1 h0 p hp).imp_right (fun h => by have h' : (w.alloc (.cells #[.slice B m d] 95)).heap.size ≤ p.block := h; simp at h'; omega), hbl.drew.trans (hB1.mono (by simp))⟩
set_option maxRecDepth 40000 in
set_option maxHeartbeats 800000 in
theorem c_addedPart (w : World) {A B : Option Addr} {n c m d : Nat} {l b : List UInt8} (k : Int) (hk1 : -9223372036854775808 ≤ k) (hk2 : k ≤ 9223372036854775807) (hr : Rd w w.heap.size A n (bcs l)) (hc : n ≤ c) (hb : Rd w w.heap.size B m (bcs b)) (hd : m ≤ d) (hn : n + m ≤ 1099511627776) :
    Calls Tryz.prog 139 #[.agg #[.slice B m d], .slice A n c, .int .i64 k] w fun e w' => ∃ v, e = .returned (.tuple #[v, .bool (survive k m == m)]) ∧ ClipP w A n (bcs (l ++ b.take (survive k m))) (n + survive k m) v w' := by
  have hA : A = none → n = 0 := fun h => by
    rcases Nat.eq_zero_or_pos n with h0 | h0
    · exact h0
    · obtain ⟨_, _, e, _⟩ := hr.2 h0; rw [h] at e; cases e
  have hP := (Bk.new_ w 95 #[.slice B m d]).cell 0
  have hbl := (Below.refl w.heap.size w).alloc (Nat.le_refl _) (.cells #[.slice B m d] 95)
  have hr1 := (hr.below hbl (Nat.le_refl _)).more hbl.size
  have hb1 := (hb.below hbl (Nat.le_refl _)).more hbl.size
  have hcl := Lib.hid (fun W => c_Clip W (A := A) hc (by omega) hA)
  have hsv := survive_le k m
  have HS := Lib.hid (fun W => c_survive W k m hk1 hk2 (by omega))
  obtain ⟨sv, hs⟩ : ∃ sv, sv = survive k m := ⟨_, rfl⟩
  rw [← hs] at hsv HS ⊢
  have HR := Lib.hid (show ∀ W : World, Below (w.alloc (.cells #[.slice B m d] 95)).heap.size (w.alloc (.cells #[.slice B m d] 95)) W → Rd W W.heap.size A n (bcs l) ∧ Rd W W.heap.size B sv (bcs (b.take sv)) from fun W h => ⟨(hr1.below h (Nat.le_refl _)).more h.size, by rw [bcs_take]; exact ((hb1.below h (Nat.le_refl _)).more h.size).take_ hsv⟩)
  have hi1 : (sv : Int) ≤ (d : Int) := by omega
  have hi0 : (0 : Int) ≤ (sv : Int) := by omega
  clear hr hb hr1 hb1 hs hk1 hk2
  go_enter Tryz.func139, Tryz.ntmps139
  go_wp2_with (first | (go_at_call 46; refine (HS.out _).mono ?_; rintro e w1 ⟨rfl, rfl⟩))
  go_region_held3 (fun W' => W'.cell? ⟨w.heap.size, 0, none⟩ = some (.slice B m d))
    (first | assumption | go_keep)
    (first | (go_at_call 140; refine (hcl.out _).mono ?_; rintro e w1 ⟨rfl, rfl⟩) | (refine at_app (.tmp 15) (.tmp 19) ?_; go_loud (refine step_app_clip rfl (.tmp 15) (.tmp 19) rfl slb (by decide) rfl (HR.out _ (Below.refl _ _).drew).1 rfl (HR.out _ (Below.refl _ _).drew).2 bcs_one (by omega) ?_); intro v1 w1 hv1; obtain ⟨A1, c1, rfl, hc1, hR1, hN1, hB1⟩ := hv1; have q1 := (hB1.cell (p := ⟨w.heap.size, 0, none⟩) (by simp)).trans hP))
  all_goals
    go_wp2
    go_ret2
    refine ⟨_, ?_, A1, c1, rfl, hc1, by rw [bcs_append]; exact hR1, fun h0 p hp => (hN1 h0 p hp).imp_right (fun h => by have h' : (w.alloc (.cells #[.slice B m d] 95)).heap.size ≤ p.block := h; simp at h'; omega), hbl.drew.trans (hB1.mono (by simp))⟩
    rw [show (sv == m) = ((sv : Int) == (m : Int)) from by rw [Bool.eq_iff_iff]; simp; constructor <;> intro h <;> omega]
    rfl
set_option maxRecDepth 40000 in
set_option maxHeartbeats 800000 in
theorem c_cutLay (w : World) {A : Option Addr} {n c k : Nat} {l : List UInt8} (hr : Rd w w.heap.size A n (bcs l)) (hc : n ≤ c) (hk : k ≤ n) (hn : n ≤ 1099511627776) :
    Calls Tryz.prog 136 #[.agg #[.int .i64 (k : Int)], .slice A n c] w fun e w' => ∃ A' c', e = .returned (.slice A' k c') ∧ k ≤ c' ∧ RdP (fun b => w.heap.size ≤ b) w' A' k (bcs (l.take k)) ∧ Below w.heap.size w w' := by
  have hP := (Bk.new_ w 92 #[.int .i64 (k : Int)]).cell 0
  have hbl := (Below.refl w.heap.size w).alloc (Nat.le_refl _) (.cells #[.int .i64 (k : Int)] 92)
  have hr1 := ((hr.below hbl (Nat.le_refl _)).more hbl.size).take_ hk
  rw [← bcs_take] at hr1
  have HC := Lib.hid (c_CloneB (w.alloc (.cells #[.int .i64 (k : Int)] 92)) (c := c) hr1 (Nat.le_refl _) (by omega))
  have hi1 : (k : Int) ≤ (c : Int) := by omega
  have hi0 : (0 : Int) ≤ (k : Int) := by omega
  clear hr hr1
  go_enter Tryz.func136, Tryz.ntmps136
  go_wp2_with (first | (go_at_call 25; refine HC.out.mono ?_; rintro e w1 ⟨A1, c1, rfl, hc1, hR1, hB1⟩))
  go_ret
  exact ⟨_, _, rfl, hc1, hR1.more (fun b h => by simp at h; omega), hbl.trans (hB1.mono hbl.size)⟩
set_option maxRecDepth 40000 in
set_option maxHeartbeats 800000 in
theorem c_cutPart (w : World) {A : Option Addr} {n c k : Nat} {l : List UInt8} (q : Int) (hr : Rd w w.heap.size A n (bcs l)) (hc : n ≤ c) (hk : k ≤ n) (hn : n ≤ 1099511627776) (hq1 : -9223372036854775808 ≤ q) (hq2 : q ≤ 9223372036854775807) :
    Calls Tryz.prog 137 #[.agg #[.int .i64 (k : Int)], .slice A n c, .int .i64 q] w fun e w' => ∃ v, e = .returned (.tuple #[v, .bool (Fsy.part l q (.cut k)).2]) ∧ ClipP w A n (bcs (Fsy.part l q (.cut k)).1) (Fsy.part l q (.cut k)).1.length v w' := by
  have hP := (Bk.new_ w 92 #[.int .i64 (k : Int)]).cell 0
  have hbl := (Below.refl w.heap.size w).alloc (Nat.le_refl _) (.cells #[.int .i64 (k : Int)] 92)
  have hr1 := (hr.below hbl (Nat.le_refl _)).more hbl.size
  have HC := Lib.hid (c_cutLay (w.alloc (.cells #[.int .i64 (k : Int)] 92)) (c := c) hr1 hc hk hn)
  have hln : l.length = n := by have := hr.1; rwa [bcs_length] at this
  have hlk : (l.take k).length = k := by rw [List.length_take]; omega
  by_cases hq : q < 0 ∨ q % 2 = 1
  · have hp : Fsy.part l q (.cut k) = (l.take k, true) := by rw [Fsy.part, if_pos hq]
    rw [hp]
    simp only [hlk]
    clear hp hr hr1 hln hlk
    by_cases h0 : q < 0
    · clear hq
      go_enter Tryz.func137, Tryz.ntmps137
      go_wp2_with (first | (go_at_call 136; refine HC.out.mono ?_; rintro e w1 ⟨A1, c1, rfl, hc1, hR1, hB1⟩))
      go_ret2
      exact ⟨_, rfl, A1, c1, rfl, hc1, hR1.rd, fun h0 p hp => .inr (by have := hR1.lie h0 p hp; simp at this; omega), hbl.trans (hB1.mono hbl.size)⟩
    · have h1 : q % 2 = 1 := by omega
      have h2 : ((q % 2 : Int) == 0) = false := by rw [h1]; rfl
      have h3 : 0 ≤ q := by omega
      have h4 : decide (q < 0) = false := decide_eq_false h0
      clear hq h1 h0
      go_enter Tryz.func137, Tryz.ntmps137
      go_wp2_with (first | (go_at_call 136; refine HC.out.mono ?_; rintro e w1 ⟨A1, c1, rfl, hc1, hR1, hB1⟩))
      go_ret2
      exact ⟨_, rfl, A1, c1, rfl, hc1, hR1.rd, fun h0 p hp => .inr (by have := hR1.lie h0 p hp; simp at this; omega), hbl.trans (hB1.mono hbl.size)⟩
  · have hp : Fsy.part l q (.cut k) = (l, false) := by rw [Fsy.part, if_neg hq]
    rw [hp]
    simp only [hln]
    have h2 : ((q % 2 : Int) == 0) = true := by rw [beq_iff_eq]; omega
    have h3 : 0 ≤ q := by omega
    have h4 : decide (q < 0) = false := decide_eq_false (by omega)
    clear hp hq hlk
    have HR := Lib.hid hr1
    clear hr hr1
    go_enter Tryz.func137, Tryz.ntmps137
    go_wp2
    go_ret2
    exact ⟨_, rfl, A, c, rfl, hc, HR.out, fun h0 p hp => .inl ⟨hp, h0⟩, hbl⟩
end Go.Proofs.YtgilnjngphhhlaaGreat
