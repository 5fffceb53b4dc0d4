/- Layer 16: the first bytes that stand above all that begin alike: what they are, and both functions' walks. -/
import Derived.Test.YteokhnjjneeeeaaIkN
import Derived.Lib.SliceRun
namespace Go.Lec
open Go.RowKit
/-- How many bytes are left when those that are 255 at the end are cut off. -/
def trimN (l : List UInt8) : Nat → Nat
  | 0 => 0
  | n + 1 => if l[n]? = some 255 then trimN l n else n + 1
theorem trimN_le (l : List UInt8) : ∀ n, trimN l n ≤ n
  | 0 => Nat.le_refl _
  | n + 1 => by
    unfold trimN
    split
    · exact Nat.le_succ_of_le (trimN_le l n)
    · exact Nat.le_refl _
/-- What stands above all that begins with l, where there is such a thing. -/
def aboveB (l : List UInt8) : List UInt8 :=
  let n := trimN l l.length
  if n = 0 then [] else (l.take n).set (n - 1) (l.getD (n - 1) 0 + 1)
def aboveF (l : List UInt8) : Bool := decide (trimN l l.length ≠ 0)
theorem Own.some_ {w : World} {B : Nat} {e : TypeId} {A : Option Addr} {n c : Nat} {xs : List Value} (h : Own w B e (.slice A n c) xs) (hn : 0 < n) : ∃ g, A = some ⟨g, 0, none⟩ := by
  rcases h.2 with ⟨hv, h0⟩ | ⟨g, cap, cur, hv, _⟩
  · simp only [Value.slice.injEq] at hv; omega
  · simp only [Value.slice.injEq] at hv
    exact ⟨g, hv.1⟩
theorem Own.cut_ {w : World} {B : Nat} {e : TypeId} {A : Option Addr} {n c : Nat} {xs : List Value} (h : Own w B e (.slice A n c) xs) {k : Nat} (hk : k ≤ n) : Own w B e (.slice A k c) (xs.take k) := by
  have hl := h.len_
  refine ⟨by rw [List.length_take]; omega, ?_⟩
  rcases h.2 with ⟨hv, h0⟩ | ⟨g, cap, cur, hv, hb, hh, hc, hm, hs, ht⟩
  · simp only [Value.slice.injEq] at hv
    obtain ⟨rfl, rfl, rfl⟩ := hv
    obtain rfl : k = 0 := by omega
    exact .inl ⟨rfl, by simp⟩
  · simp only [Value.slice.injEq] at hv
    obtain ⟨rfl, hn, rfl⟩ := hv
    refine .inr ⟨g, c, cur, by rw [List.length_take, Nat.min_eq_left (by omega)], hb, hh, by rw [List.length_take]; omega, hm, hs, ?_⟩
    conv => rhs; rw [← ht]
    rw [List.take_take, List.length_take, Nat.mul_one, Nat.mul_one]
theorem own_last {w : World} {B g c j : Nat} {e : TypeId} {l : List UInt8} (h : Own w B e (.slice (some ⟨g, 0, none⟩) (j + 1) c) (bcs (l.take (j + 1)))) (hj : j < l.length) : w.cell? ⟨g, j, none⟩ = some (.int .u8 (l[j].toNat : Int)) := by
  rw [h.cellAt j (Nat.lt_succ_self _), bcs_take, List.getElem?_take, if_pos (Nat.lt_succ_self _)]
  exact bcs_get hj
theorem bcs_set (l : List UInt8) (k : Nat) (x : UInt8) : (bcs l).set k (bcell x) = bcs (l.set k x) := by simp [bcs]
theorem byte_255 (x : UInt8) : (((x.toNat : Int)) == 255) = decide (x = 255) := by
  rw [Bool.eq_iff_iff]
  simp only [beq_iff_eq, decide_eq_true_eq]
  constructor
  · intro h; exact UInt8.toNat_inj.1 (by simpa using (by omega : x.toNat = 255))
  · rintro rfl; rfl
theorem byte_up (x : UInt8) (h : x ≠ 255) : ((x.toNat : Int) + 1) % 256 = ((x + 1).toNat : Int) := by
  have h1 : x.toNat ≠ 255 := fun e => h (UInt8.toNat_inj.1 (by simpa using e))
  have := x.toNat_lt
  rw [UInt8.toNat_add]
  simp
end Go.Lec
namespace Go.Proofs.Yteokhnjjneeeeaa
open Go.RowKit Go.Lec

set_option maxHeartbeats 400000 in
theorem c_Clone (w : World) {B : Nat} {A : Option Addr} {n c : Nat} {l : List UInt8} (hr : Rd w B A n (bcs l)) (hB : B ≤ w.heap.size) (hn : n ≤ 1099511627) :
    Calls Try.prog 35 #[.slice A n c] w (RetB 5 w l) := by
  have hk := Lib.run_eql_slice_nil (P := Try.prog) w 22 5 A n c 0 0 Try.underlying22
  have hln := hr.1
  rw [bcs_length] at hln
  have Hln := Lib.hid hln; clear hln
  go_enter Try.func35, Try.ntmps35
  cases A with
  | none =>
    have h0 : n = 0 := by
      rcases Nat.eq_zero_or_pos n with h | h
      · exact h
      · obtain ⟨b, o, e, _⟩ := hr.2 h; cases e
    subst h0
    obtain rfl : l = [] := List.eq_nil_of_length_eq_zero Hln.out
    go_wp2
    go_ret
    exact ⟨_, rfl, Own.nil_ _ _ _, Below.refl _ _⟩
  | some a =>
    go_wp2_with (first
      | (at_builtin; (refine wpList_app_sl rfl (.tmp 5) (.tmp 6) rfl slb (by decide) rfl (Own.lit w [] (Nat.le_refl _) (by simp)) ((Below.refl _ _).alloc (Nat.le_refl _) _) (by simp) rfl (hr.alloc hB _) bcs_one (by simp; omega) ?_); intro v2 w2 ho2 hb2 hs2))
    go_ret
    exact ⟨_, rfl, by simpa using ho2, hb2⟩

/-- What both functions answer. -/
def AbvPost (w : World) (l : List UInt8) (e : Ending) (w' : World) : Prop :=
  ∃ v, e = .returned (.tuple #[v, .bool (aboveF l)]) ∧ Own w' w.heap.size 5 v (bcs (aboveB l)) ∧ Below w.heap.size w w'

/-- What a slice's length is, as a measure. -/
def lenOf : Value → Nat
  | .slice _ n _ => n
  | _ => 0

set_option maxHeartbeats 1600000 in
theorem c_Above (w : World) {B : Nat} {A : Option Addr} {n c : Nat} {l : List UInt8} (hr : Rd w B A n (bcs l)) (hB : B ≤ w.heap.size) (hn : n ≤ 1099511627) :
    Calls Try.prog 24 #[.slice A n c] w (AbvPost w l) := by
  have hln := hr.1
  rw [bcs_length] at hln
  have Hln := Lib.hid hln; clear hln
  go_enter Try.func24, Try.ntmps24
  go_wp2_with fail
  refine (c_Clone w hr hB hn).mono ?_
  rintro e w1 ⟨v, rfl, ho, hb⟩
  obtain ⟨A1, c1, rfl, hc1⟩ := ho.shapeN (n := n) (by rw [bcs_length]; exact Hln.out)
  go_wp2_with fail
  go_loopw [4] (fun v wr => ∃ k, k ≤ n ∧ v = .slice A1 k c1 ∧ trimN l k = trimN l n ∧ wr = w1) (fun v _ => lenOf v)
  case atStart => exact ⟨n, Nat.le_refl _, rfl, rfl, rfl⟩
  case round =>
    obtain ⟨k, hk, rfl, htr, rfl⟩ := hrel
    have Htr := Lib.hid htr; clear htr
    cases k with
    | zero =>
      have h0 : aboveF l = false := by
        unfold aboveF
        rw [Hln.out, ← Htr.out]
        rfl
      have h1 : aboveB l = [] := by
        unfold aboveB
        dsimp only
        rw [Hln.out, ← Htr.out]
        rfl
      have H0 := Lib.hid h0
      have H1 := Lib.hid h1
      clear h0 h1
      go_wp2
      go_ret2
      unfold AbvPost
      rw [H0.out, H1.out]
      exact ⟨_, rfl, Own.nil_ _ _ _, hb⟩
    | succ j =>
      obtain ⟨g, rfl⟩ := ho.some_ (by omega : 0 < n)
      have hjl : j < l.length := by rw [Hln.out]; omega
      have hcell : wr.cell? ⟨g, j, none⟩ = some (.int .u8 (l[j].toNat : Int)) := by rw [ho.cellAt j (by omega)]; exact bcs_get hjl
      have hfz := ho.frozenAt j
      have hw1 : IntKind.i64.wrap (j : Int) = j := IntWalk.i64_in _ (by omega)
      have hw2 : IntKind.i64.wrap ((j : Int) + 1 - 1) = j := by rw [show (j : Int) + 1 - 1 = j by omega]; exact hw1
      have hpos : (0 : Int) < (j : Int) + 1 := by omega
      have hpos0 : (0 : Int) ≤ (j : Int) := by omega
      have hjj : (j : Int) < (j : Int) + 1 := by omega
      have hz : ((j : Int) + 1 == 0) = false := by rw [beq_eq_false_iff_ne]; omega
      have hcut : ∀ W, (Instr.slice 22 (.slice (some ⟨g, 0, none⟩) (j + 1) c1) none (some (.int .i64 (j : Int))) none).run Try.prog W = .ok (.slice (some ⟨g, 0, none⟩) j c1) W := fun W => run_cutH slb (some ⟨g, 0, none⟩) (j + 1) c1 j (by omega) .i64 _ rfl W
      have hb255 := byte_255 l[j]
      have Hhk := Lib.hid hk
      by_cases h255 : l[j] = 255
      · rw [decide_eq_true h255] at hb255
        have hst : trimN l j = trimN l n := by
          rw [← Htr.out]
          show _ = if l[j]? = some 255 then trimN l j else j + 1
          rw [if_pos (by rw [List.getElem?_eq_getElem hjl, h255])]
        have Hst := Lib.hid hst
        clear hst h255
        go_wp2_with fail
        go_roundw
        case rel => exact ⟨j, by omega, rfl, Hst.out, trivial⟩
        case measure => simp [lenOf]
      · rw [decide_eq_false h255] at hb255
        have hst : trimN l n = j + 1 := by
          rw [← Htr.out]
          show (if l[j]? = some 255 then trimN l j else j + 1) = _
          rw [if_neg]
          rw [List.getElem?_eq_getElem hjl]
          intro h
          exact h255 (by injection h)
        have hup := byte_up l[j] h255
        obtain ⟨y, hy⟩ : ∃ y, y = l[j] + 1 := ⟨_, rfl⟩
        rw [← hy] at hup
        have Hy := Lib.hid hy
        have h0 : aboveF l = true := by
          unfold aboveF
          rw [Hln.out, hst]
          simp
        have h1 : aboveB l = (l.take (j + 1)).set j y := by
          rw [hy]
          unfold aboveB
          dsimp only
          rw [Hln.out, hst, if_neg (by omega), Nat.add_sub_cancel, List.getD_eq_getElem?_getD, List.getElem?_eq_getElem hjl]
          rfl
        have H0 := Lib.hid h0
        have H1 := Lib.hid h1
        clear h0 h1 hst h255 hy
        go_wp2
        go_ret2
        unfold AbvPost
        rw [H0.out, H1.out, ← bcs_set, bcs_take]
        refine ⟨_, rfl, ?_, Below.setCell hb ho.base_.1 _⟩
        have hst := (ho.stored j (bcell y)).cut_ (k := j + 1) Hhk.out
        rw [List.take_set] at hst
        exact hst

set_option maxHeartbeats 1600000 in
theorem c_rAbove (w : World) {B : Nat} {A : Option Addr} {n c : Nat} {l : List UInt8} (hr : Rd w B A n (bcs l)) (hB : B ≤ w.heap.size) (hc : n ≤ c) (hn : n ≤ 1099511627) :
    Calls Try.prog 25 #[.slice A n c] w (AbvPost w l) := by
  have hln := hr.1
  rw [bcs_length] at hln
  have Hln := Lib.hid hln; clear hln
  go_enter Try.func25, Try.ntmps25
  go_wp2_with fail
  go_loopw [4] (fun v wr => ∃ k : Nat, k ≤ n ∧ v = .int .i64 k ∧ trimN l k = trimN l n ∧ wr = w) (fun v _ => (intOf v).toNat)
  case atStart => exact ⟨n, Nat.le_refl _, rfl, rfl, rfl⟩
  case round =>
    obtain ⟨k, hk, rfl, htr, rfl⟩ := hrel
    have Htr := Lib.hid htr; clear htr
    cases k with
    | zero =>
      have h0 : aboveF l = false := by
        unfold aboveF
        rw [Hln.out, ← Htr.out]
        rfl
      have h1 : aboveB l = [] := by
        unfold aboveB
        dsimp only
        rw [Hln.out, ← Htr.out]
        rfl
      have H0 := Lib.hid h0
      have H1 := Lib.hid h1
      clear h0 h1
      go_wp2
      go_ret2
      unfold AbvPost
      rw [H0.out, H1.out]
      exact ⟨_, rfl, Own.nil_ _ _ _, Below.refl _ _⟩
    | succ j =>
      obtain ⟨b, o, rfl, hbB, hcell⟩ := hr.byte (by omega : j < n)
      have hjl : j < l.length := by rw [Hln.out]; omega
      have hcell := hcell j hjl
      have hw1 : IntKind.i64.wrap (j : Int) = j := IntWalk.i64_in _ (by omega)
      have hw2 : IntKind.i64.wrap ((j : Int) + 1 - 1) = j := by rw [show (j : Int) + 1 - 1 = j by omega]; exact hw1
      have hpos : (0 : Int) < (j : Int) + 1 := by omega
      have hpos0 : (0 : Int) ≤ (j : Int) := by omega
      have hjj : (j : Int) < (j : Int) + 1 := by omega
      have hjn : (j : Int) < (n : Int) := by omega
      have hz : ((j : Int) + 1 == 0) = false := by rw [beq_eq_false_iff_ne]; omega
      have hcut : ∀ W, (Instr.slice 22 (.slice (some ⟨b, o, none⟩) n c) none (some (.int .i64 ((j : Int) + 1))) none).run Try.prog W = .ok (.slice (some ⟨b, o, none⟩) (j + 1) c) W := fun W => run_cutH slb (some ⟨b, o, none⟩) n c (j + 1) (by omega) .i64 _ rfl W
      have hb255 := byte_255 l[j]
      have Hhk := Lib.hid hk
      by_cases h255 : l[j] = 255
      · rw [decide_eq_true h255] at hb255
        have hst : trimN l j = trimN l n := by
          rw [← Htr.out]
          show _ = if l[j]? = some 255 then trimN l j else j + 1
          rw [if_pos (by rw [List.getElem?_eq_getElem hjl, h255])]
        have Hst := Lib.hid hst
        clear hst h255
        go_wp2_with fail
        go_roundw
        case rel => exact ⟨j, by omega, by go_num, Hst.out, trivial⟩
        case measure => simp [intOf]
      · rw [decide_eq_false h255] at hb255
        have hst : trimN l n = j + 1 := by
          rw [← Htr.out]
          show (if l[j]? = some 255 then trimN l j else j + 1) = _
          rw [if_neg]
          rw [List.getElem?_eq_getElem hjl]
          intro h
          exact h255 (by injection h)
        have hup := byte_up l[j] h255
        obtain ⟨y, hy⟩ : ∃ y, y = l[j] + 1 := ⟨_, rfl⟩
        rw [← hy] at hup
        have Hy := Lib.hid hy
        have h0 : aboveF l = true := by
          unfold aboveF
          rw [Hln.out, hst]
          simp
        have h1 : aboveB l = (l.take (j + 1)).set j y := by
          rw [hy]
          unfold aboveB
          dsimp only
          rw [Hln.out, hst, if_neg (by omega), Nat.add_sub_cancel, List.getD_eq_getElem?_getD, List.getElem?_eq_getElem hjl]
          rfl
        have H0 := Lib.hid h0
        have H1 := Lib.hid h1
        clear h0 h1 hst h255 hy
        have ht := hr.take_ (k := j + 1) Hhk.out
        rw [← bcs_take] at ht
        have hlt2 : (bcs (l.take (j + 1))).length = j + 1 := by rw [bcs_length, List.length_take]; omega
        have Hlt2 := Lib.hid hlt2
        clear hlt2 hjn hpos
        go_wp2_with (first
          | (at_builtin; (refine wpList_app_sl rfl (.tmp 22) (.tmp 25) rfl slb (by decide) rfl (Own.lit wr [] (Nat.le_refl _) (by simp)) ((Below.refl _ _).alloc (Nat.le_refl _) _) (by simp) rfl (ht.alloc hB _) bcs_one (by simp; omega) ?_); intro v2 w2 ho2 hb2 hs2; rw [List.nil_append] at ho2; obtain ⟨A3, c3, rfl, hc3⟩ := ho2.shapeN Hlt2.out; obtain ⟨g, rfl⟩ := ho2.some_ (Nat.succ_pos j); have hcell3 := own_last ho2 hjl; have hfz := ho2.frozenAt j))
        go_ret2
        unfold AbvPost
        rw [H0.out, H1.out, ← bcs_set]
        exact ⟨_, rfl, (ho2.stored j (bcell y)), Below.setCell hb2 ho2.base_.1 _⟩
end Go.Proofs.Yteokhnjjneeeeaa
