/- Layer 17: the document's piece. -/
import Derived.Test.YtgilnjngphhhlaaWalA
namespace Go.Proofs.Ytgilnjngphhhlaa
open Go.RowKit Go.Lec

theorem le4 (x : Nat) : bcs (le 4 x) = [.int .u8 (x % 256 : Nat), .int .u8 (x / 256 % 256 : Nat), .int .u8 (x / 65536 % 256 : Nat), .int .u8 (x / 16777216 % 256 : Nat)] := by
  simp [le, bcs, List.range_succ, bcell_ofNat]
theorem le2 (x : Nat) : bcs (le 2 x) = [.int .u8 (x % 256 : Nat), .int .u8 (x / 256 % 256 : Nat)] := by
  simp [le, bcs, List.range_succ, bcell_ofNat]

set_option maxRecDepth 20000 in
set_option maxHeartbeats 1600000 in
theorem c_rPiece (w : World) (kind : UInt8) {B : Nat} {A : Option Addr} {n c : Nat} {l : List UInt8} (hr : Rd w B A n (bcs l)) (hB : B ≤ w.heap.size) (hn : n ≤ 2000) :
    Calls Try.prog 14 #[.int .i64 (kind.toNat : Int), .slice A n c] w (RetB w (pieceL kind l)) := by
  have hln := hr.1
  rw [bcs_length] at hln
  have Hln := Lib.hid hln; clear hln
  have hk1 : IntKind.u8.wrap (kind.toNat : Int) = (kind.toNat : Int) := by have := kind.toNat_lt; rw [IntKind.wrap_u8]; omega
  obtain ⟨M, hM⟩ : ∃ M, M = maskOf (crcOf (kind :: l)) := ⟨_, rfl⟩
  have HM := Lib.hid hM
  clear hM
  have hMl := M.isLt
  obtain ⟨X, hX⟩ : ∃ X, X = crcOf (kind :: l) := ⟨_, rfl⟩
  rw [← hX] at HM
  have HX := Lib.hid hX
  clear hX
  have HS : ∀ W A' c' , Rd W W.heap.size A' (n + 1) (bcs (kind :: l)) → Calls Try.prog 21 #[.slice A' (n + 1) c'] W fun e w' => e = .returned (.int .u32 (X.toNat : Int)) ∧ w' = W := by
    intro W A' c' h
    rw [HX.out]
    exact c_rSum W h (by omega)
  have HS := Lib.hid HS
  have HK : ∀ W, Calls Try.prog 20 #[.int .u32 (X.toNat : Int)] W fun e w' => e = .returned (.int .u32 (M.toNat : Int)) ∧ w' = W := by
    intro W
    rw [HM.out]
    exact c_rMask W X
  have HK := Lib.hid HK
  go_enter Try.func14, Try.ntmps14
  go_wp2_with (first
    | (at_builtin; go_loud (refine wpList_app_sl rfl (.tmp 9) (.tmp 10) rfl slb (by decide) rfl (Own.lit w [.int .u8 (kind.toNat : Int)] (Nat.le_refl _) (by simp [maxLen])) ((Below.refl _ _).alloc (Nat.le_refl _) _) (by simp) rfl (hr.alloc hB _) bcs_one (by simp only [List.length_cons, List.length_nil]; omega) ?_); intro v1 w1 ho1 hb1' hs1; obtain ⟨A1, c1, rfl, hc1⟩ := ho1.shapeN (n := n + 1) (by rw [List.length_append, List.length_singleton, bcs_length, Hln.out]; omega))
    | (go_at_call 21; (with_reducible refine (HS.out _ _ _ ho1.rd).mono ?_); rintro e w2 ⟨rfl, rfl⟩)
    | (go_at_call 20; (with_reducible refine (HK.out _).mono ?_); rintro e w3 ⟨rfl, rfl⟩)
    | (at_builtin; (refine wpList_app_sl rfl (.tmp 35) (.tmp 36) rfl slb (by decide) rfl (Own.lit w3 [.int .u8 ((M.toNat : Int) % 256), .int .u8 ((M.toNat : Int) / 256 % 256), .int .u8 ((M.toNat : Int) / 65536 % 256), .int .u8 ((M.toNat : Int) / 16777216), .int .u8 ((n : Int) % 256), .int .u8 ((n : Int) / 256), .int .u8 (kind.toNat : Int)] hs1 (by simp [maxLen])) (hb1'.alloc hs1 _) (Nat.le_trans hs1 (by simp)) rfl ((hr.below hb1' hB).alloc (Nat.le_trans hB hs1) _) bcs_one (by simp only [List.length_cons, List.length_nil]; omega) ?_); intro v4 w4 ho4 hb4 hs4))
  go_ret
  refine ⟨_, rfl, ?_, hb4⟩
  have e : [.int .u8 ((M.toNat : Int) % 256), .int .u8 ((M.toNat : Int) / 256 % 256), .int .u8 ((M.toNat : Int) / 65536 % 256), .int .u8 ((M.toNat : Int) / 16777216), .int .u8 ((n : Int) % 256), .int .u8 ((n : Int) / 256), .int .u8 (kind.toNat : Int)] ++ bcs l = bcs (pieceL kind l) := by
    rw [pieceL, ← HX.out, ← HM.out, Hln.out, bcs_append, bcs_append, le4, le2]
    have h1 : ((M.toNat / 16777216 % 256 : Nat) : Int) = (M.toNat : Int) / 16777216 := by omega
    have h2 : ((n / 256 % 256 : Nat) : Int) = (n : Int) / 256 := by omega
    rw [h1, h2]
    rfl
  rw [e] at ho4
  exact ho4
end Go.Proofs.Ytgilnjngphhhlaa
