/- Layer 20: the walk of BlockReads. -/
import Derived.Test.YtjcifmbbdofjiaaBlRf
import Derived.Test.YtjcifmbbdofjiaaSeK
import Derived.Test.YtjcifmbbdofjiaaBlW
namespace Go.Lec
open Go.RowKit
theorem Rd.num {w : World} {B n k : Nat} {A : Option Addr} {l : List Nat} (h : Rd w B A n (ncs l)) (hk : k < n) : ∃ b o, A = some ⟨b, o, none⟩ ∧ b < B ∧ w.cell? ⟨b, o + k, none⟩ = some (.int .i64 ((l[k]?.getD 0 : Nat) : Int)) := by
  obtain ⟨b, o, e, hb, hc⟩ := h.2 (by omega)
  have hkl : k < l.length := by have := h.1; rw [ncs_length] at this; omega
  refine ⟨b, o, e, hb, hc k _ ?_⟩
  rw [List.getElem?_eq_getElem hkl]
  simp [ncs, hkl]
theorem prs_nil (w : World) (B : Nat) : Prs w B none 0 [] := ⟨⟨rfl, fun h => absurd h (by omega)⟩, fun m h => by cases h⟩
end Go.Lec
namespace Go.Proofs.Ytjcifmbbdofjiaa
open Go.RowKit Go.Lec Go.Op
set_option maxRecDepth 40000 in
set_option maxHeartbeats 1600000 in
theorem c_SameInts (w : World) {B1 B2 n c1 c2 : Nat} {A1 A2 : Option Addr} {l : List Nat} (h1 : Rd w B1 A1 n (ncs l)) (h2 : Rd w B2 A2 n (ncs l)) (hB1 : B1 ≤ w.heap.size) (hB2 : B2 ≤ w.heap.size) (hn : n ≤ 1099511627776) :
    Calls Try.prog 19 #[.slice A1 n c1, .slice A2 n c2] w fun e w' => e = .returned (.bool true) ∧ Below w.heap.size w w' := by
  go_enter Try.func19, Try.ntmps19
  go_wp2
  go_loopw [5] (fun i wr => ∃ k : Nat, k ≤ n ∧ i = .int .i64 k ∧ Below w.heap.size w wr) (fun i _ => n - (intOf i).toNat)
  case atStart => exact ⟨0, Nat.zero_le _, rfl, Below.refl _ _⟩
  case round =>
    obtain ⟨k, hk, rfl, hb⟩ := hrel
    by_cases hlt : k < n
    · obtain ⟨b1, o1, rfl, _, q1⟩ := (h1.below hb hB1).num hlt
      obtain ⟨b2, o2, rfl, _, q2⟩ := (h2.below hb hB2).num hlt
      have i1 : (0 : Int) ≤ (k : Int) := by omega
      have i2 : (k : Int) < (n : Int) := by omega
      clear h1 h2
      go_wp2
      go_quiet (fail)
      go_wp2
      go_roundw
      case rel => exact ⟨k + 1, by omega, by go_num, belowN hb _⟩
      case measure => simp [intOf]; omega
    · obtain rfl : k = n := by omega
      go_wp2
      go_ret
      exact ⟨rfl, hb⟩
set_option maxRecDepth 100000 in
set_option maxHeartbeats 4000000 in
theorem w_BlockReads (w : World) {B n c : Nat} {A : Option Addr} {b : List UInt8} (hr : Rd w B A n (bcs b)) (hB : B ≤ w.heap.size) (hc : n ≤ c) :
    Calls Try.prog 4 #[.slice A n c] w fun e w' => e = .returned (.bool true) ∧ Below w.heap.size w w' := by
  have HA := Lib.hid (c_awake w)
  by_cases hn : n ≤ 4000
  · have d0 : decide ((4000 : Int) < (n : Int)) = false := decide_eq_false (by omega)
    have HLb := Lib.hid hr.1
    have HRd := Lib.hid (fun (W : World) (A' : Option Addr) (c' : Nat) (h : Rd W W.heap.size A' n (bcs b)) (hc' : n ≤ c') => c_BlRead W (c := c') h hc' (Nat.le_refl _) (by omega))
    have HRr := Lib.hid (fun (W : World) (h : Below w.heap.size w W) => c_rBlRead W (hr.below h hB) (Nat.le_trans hB h.size) hc hn)
    have HRs := Lib.hid (fun (W : World) (h : Below w.heap.size w W) => c_BlRestarts W (hr.below h hB) hc (Nat.le_trans hB h.size) (by omega))
    have HRt := Lib.hid (fun (W : World) (h : Below w.heap.size w W) => c_rRestarts W (hr.below h hB) (Nat.le_trans hB h.size) hc hn)
    have HNw := Lib.hid (fun (W : World) (h : Below w.heap.size w W) => c_New W (hr.below h hB) hc (Nat.le_trans hB h.size) (by omega))
    go_enter Try.func4, Try.ntmps4
    go_wp2_with fail
    refine HA.out.mono ?_
    rintro e w1 ⟨rfl, hb1⟩
    cases hck : ckB b with
    | error err =>
      have he := ckB_err hck
      have hne : (err == 0) = false := by rw [beq_eq_false_iff_ne]; omega
      have HRd1 := Lib.hid (fun W A' c' h hc' => (HRd.out W A' c' h hc').mono (R' := fun e w' => e = .returned (.tuple #[.slice none 0 0, .int .i64 err]) ∧ Below W.heap.size W w') (by
        rintro e w' (⟨l, ps, A, n, c, O, hk, he, hP, hO, hb⟩ | ⟨err', hk, he, hb⟩) <;> (rw [hck] at hk; cases hk)
        exact ⟨he, hb⟩))
      have HRr1 := Lib.hid (fun W h => (HRr.out W h).mono (R' := fun e w' => e = .returned (.tuple #[.slice none 0 0, .int .i64 err]) ∧ Below W.heap.size W w') (by
        rintro e w' (⟨l, ev, A, n, c, O, hk, he, hP, hO, ht, hb⟩ | ⟨err', hk, he, hb⟩) <;> (rw [hck] at hk; cases hk)
        exact ⟨he, hb⟩))
      have HRs1 := Lib.hid (fun W h => (HRs.out W h).mono (R' := fun e w' => e = .returned (.tuple #[.slice none 0 0, .int .i64 err]) ∧ Below W.heap.size W w') (by
        rintro e w' (⟨l, ps, A, c, hk, he, hP, hb⟩ | ⟨err', hk, he, hb⟩) <;> (rw [hck] at hk; cases hk)
        exact ⟨he, hb⟩))
      have HRt1 := Lib.hid (fun W h => (HRt.out W h).mono (R' := fun e w' => e = .returned (.tuple #[.slice none 0 0, .int .i64 err]) ∧ Below W.heap.size W w') (by
        rintro e w' (⟨l, ps, A, c, hk, he, hP, hb⟩ | ⟨err', hk, he, hb⟩) <;> (rw [hck] at hk; cases hk)
        exact ⟨he, hb⟩))
      have HNw1 := Lib.hid (fun W h => (HNw.out W h).mono (R' := fun e w' => e = .returned (.tuple #[.pointer none, .int .i64 err]) ∧ Below W.heap.size W w') (by
        rintro e w' (⟨l, ps, it, L, A, n, c, X, hk, he, _, _, _, hb⟩ | ⟨err', hk, he, hb⟩) <;> (rw [hck] at hk; cases hk)
        exact ⟨he, hb⟩))
      have HSm := Lib.hid (fun W : World => c_SameP W (c1 := 0) (c2 := 0) (prs_nil W 0) (prs_nil W 0) (Nat.zero_le _) rfl (by omega))
      have HSi := Lib.hid (fun W : World => c_SameInts W (c1 := 0) (c2 := 0) (l := []) (Rd.nil_ (w := W) (B := 0) (A := none)) (Rd.nil_ (w := W) (B := 0) (A := none)) (Nat.zero_le _) (Nat.zero_le _) (by omega))
      clear hck HRd HRr HRs HRt HNw
      go_wp2_with (first
        | (at_builtin; (refine wpList_app_rd (m := n) rfl _ _ rfl slb rfl (Lec.Own.nil_ w1 w1.heap.size 5) rfl (hr.below hb1 hB) bcs_one (by simp; omega) (by decide) (Nat.le_refl _) ?_); intro v2 w2 ho2 hb2 _; rw [List.nil_append] at ho2; obtain ⟨A2, c2, rfl, hc2⟩ := ho2.shapeN (n := n) HLb.out; have hr2 := Lec.Own.rd ho2; have hbw2 : Below w.heap.size w w2 := hb1.trans (hb2.mono hb1.size))
        | (go_at_call 13; (with_reducible refine (HRd1.out w2 A2 c2 hr2 hc2).mono ?_); rintro e w3 ⟨rfl, hb3⟩; have hbw3 : Below w.heap.size w w3 := hbw2.trans (hb3.mono hbw2.size))
        | (go_at_call 15; (with_reducible refine (HRr1.out w3 hbw3).mono ?_); rintro e w4 ⟨rfl, hb4⟩; have hbw4 : Below w.heap.size w w4 := hbw3.trans (hb4.mono hbw3.size))
        | (go_at_call 14; (with_reducible refine (HSm.out w4).mono ?_); rintro e w5 ⟨rfl, hb5⟩; have hbw5 : Below w.heap.size w w5 := hbw4.trans (hb5.mono hbw4.size))
        | (go_at_call 16; (with_reducible refine (HRs1.out w5 hbw5).mono ?_); rintro e w6 ⟨rfl, hb6⟩; have hbw6 : Below w.heap.size w w6 := hbw5.trans (hb6.mono hbw5.size))
        | (go_at_call 17; (with_reducible refine (HRt1.out w6 hbw6).mono ?_); rintro e w7 ⟨rfl, hb7⟩; have hbw7 : Below w.heap.size w w7 := hbw6.trans (hb7.mono hbw6.size))
        | (go_at_call 18; (with_reducible refine (HNw1.out w7 hbw7).mono ?_); rintro e w8 ⟨rfl, hb8⟩; have hbw8 : Below w.heap.size w w8 := hbw7.trans (hb8.mono hbw7.size))
        | (go_at_call 19; (with_reducible refine (HSi.out w8).mono ?_); rintro e w9 ⟨rfl, hb9⟩; have hbw9 : Below w.heap.size w w9 := hbw8.trans (hb9.mono hbw8.size)))
      go_ret
      exact ⟨rfl, hbw9⟩
    | ok p =>
      obtain ⟨l0, ps0⟩ := p
      obtain ⟨np, hnp⟩ : ∃ x, x = ps0.length := ⟨_, rfl⟩
      have HRd1 := Lib.hid (fun W A' c' h hc' => (HRd.out W A' c' h hc').mono (R' := fun e w' => ∃ A n c O, e = .returned (.tuple #[.slice A n c, .int .i64 0]) ∧ Prs w' w'.heap.size A n O ∧ O.map Pr.pl = l0.map En.pr ∧ Below W.heap.size W w') (by
        rintro e w' (⟨l, ps, A, n, c, O, hk, he, hP, hO, hb⟩ | ⟨err', hk, he, hb⟩) <;> (rw [hck] at hk; cases hk)
        exact ⟨A, n, c, O, he, hP, hO, hb⟩))
      have HRr1 := Lib.hid (fun W h => (HRr.out W h).mono (R' := fun e w' => ∃ A n c O, e = .returned (.tuple #[.slice A n c, .int .i64 0]) ∧ Prs w' w'.heap.size A n O ∧ O.map Pr.pl = l0.map En.pr ∧ n ≤ 16777216 ∧ np ≤ 16777216 ∧ Below W.heap.size W w') (by
        rintro e w' (⟨l, ev, A, n, c, O, hk, he, hP, hO, ht, hb⟩ | ⟨err', hk, he, hb⟩) <;> (rw [hck] at hk; cases hk)
        have h1 := tot_len l
        have h2 := plTo_len l ev l.length
        have h3 := hP.len
        have h4 := congrArg List.length hO
        rw [List.length_map] at h4
        exact ⟨A, n, c, O, he, hP, by rw [hO, ens_pr], by omega, by omega, hb⟩))
      have HRs1 := Lib.hid (fun W h => (HRs.out W h).mono (R' := fun e w' => ∃ A c, e = .returned (.tuple #[.slice A np c, .int .i64 0]) ∧ Rd w' w'.heap.size A np (ncs ps0) ∧ Below W.heap.size W w') (by
        rintro e w' (⟨l, ps, A, c, hk, he, hP, hb⟩ | ⟨err', hk, he, hb⟩) <;> (rw [hck] at hk; cases hk)
        rw [← hnp] at he hP
        exact ⟨A, c, he, hP, hb⟩))
      have HRt1 := Lib.hid (fun W h => (HRt.out W h).mono (R' := fun e w' => ∃ A c, e = .returned (.tuple #[.slice A np c, .int .i64 0]) ∧ Rd w' w'.heap.size A np (ncs ps0) ∧ Below W.heap.size W w') (by
        rintro e w' (⟨l, ps, A, c, hk, he, hP, hb⟩ | ⟨err', hk, he, hb⟩) <;> (rw [hck] at hk; cases hk)
        rw [← hnp] at he hP
        exact ⟨A, c, he, hP, hb⟩))
      have HNw1 := Lib.hid (fun W h => (HNw.out W h).mono (R' := fun e w' => ∃ it, e = .returned (.tuple #[.pointer (some ⟨it, 0, none⟩), .int .i64 0]) ∧ Below W.heap.size W w') (by
        rintro e w' (⟨l, ps, it, L, A, n, c, X, hk, he, _, _, _, hb⟩ | ⟨err', hk, he, hb⟩) <;> (rw [hck] at hk; cases hk)
        exact ⟨it, he, hb⟩))
      clear hck HRd HRr HRs HRt HNw hnp
      go_wp2_with (first
        | (at_builtin; (refine wpList_app_rd (m := n) rfl _ _ rfl slb rfl (Lec.Own.nil_ w1 w1.heap.size 5) rfl (hr.below hb1 hB) bcs_one (by simp; omega) (by decide) (Nat.le_refl _) ?_); intro v2 w2 ho2 hb2 _; rw [List.nil_append] at ho2; obtain ⟨A2, c2, rfl, hc2⟩ := ho2.shapeN (n := n) HLb.out; have hr2 := Lec.Own.rd ho2; have hbw2 : Below w.heap.size w w2 := hb1.trans (hb2.mono hb1.size))
        | (go_at_call 13; (with_reducible refine (HRd1.out w2 A2 c2 hr2 hc2).mono ?_); rintro e w3 ⟨A3, n3, c3, O3, rfl, hP3, hO3, hb3⟩; have HO3 := Lib.hid hO3; have HP3 := Lib.hid hP3; clear hO3 hP3; have hbw3 : Below w.heap.size w w3 := hbw2.trans (hb3.mono hbw2.size))
        | (go_at_call 15; (with_reducible refine (HRr1.out w3 hbw3).mono ?_); rintro e w4 ⟨A4, n4, c4, O4, rfl, hP4, hO4, hn4, hnp, hb4⟩; have hl34 : n3 ≤ 16777216 := (by have h1 := HP3.out.len; have h2 := hP4.len; have h3 := congrArg List.length (HO3.out.trans hO4.symm); rw [List.length_map, List.length_map] at h3; omega); have HSm := Lib.hid (c_SameP w4 (c1 := c3) (c2 := c4) (HP3.out.below hb4 (Nat.le_refl _) |>.more hb4.size) hP4 (Nat.le_refl _) (HO3.out.trans hO4.symm) (by omega)); clear hP4 hO4; have hbw4 : Below w.heap.size w w4 := hbw3.trans (hb4.mono hbw3.size))
        | (go_at_call 14; (with_reducible refine HSm.out.mono ?_); rintro e w5 ⟨rfl, hb5⟩; have hbw5 : Below w.heap.size w w5 := hbw4.trans (hb5.mono hbw4.size))
        | (go_at_call 16; (with_reducible refine (HRs1.out w5 hbw5).mono ?_); rintro e w6 ⟨A6, c6, rfl, hR6, hb6⟩; have hbw6 : Below w.heap.size w w6 := hbw5.trans (hb6.mono hbw5.size))
        | (go_at_call 17; (with_reducible refine (HRt1.out w6 hbw6).mono ?_); rintro e w7 ⟨A7, c7, rfl, hR7, hb7⟩; have hbw7 : Below w.heap.size w w7 := hbw6.trans (hb7.mono hbw6.size))
        | (go_at_call 18; (with_reducible refine (HNw1.out w7 hbw7).mono ?_); rintro e w8 ⟨it, rfl, hb8⟩; have hbw8 : Below w.heap.size w w8 := hbw7.trans (hb8.mono hbw7.size); have HSi := Lib.hid (c_SameInts w8 (c1 := c6) (c2 := c7) ((hR6.below hb7 (Nat.le_refl _)).below (hb8.mono hb7.size) (Nat.le_refl _)) (hR7.below hb8 (Nat.le_refl _)) (Nat.le_trans hb7.size hb8.size) hb8.size (by omega)))
        | (go_at_call 19; (with_reducible refine HSi.out.mono ?_); rintro e w9 ⟨rfl, hb9⟩; have hbw9 : Below w.heap.size w w9 := hbw8.trans (hb9.mono hbw8.size)))
      go_ret
      exact ⟨rfl, hbw9⟩
  · have d0 : decide ((4000 : Int) < (n : Int)) = true := decide_eq_true (by omega)
    go_enter Try.func4, Try.ntmps4
    go_wp2_with fail
    refine HA.out.mono ?_
    rintro e w1 ⟨rfl, hb1⟩
    go_wp2
    go_ret
    exact ⟨rfl, hb1⟩
end Go.Proofs.Ytjcifmbbdofjiaa
