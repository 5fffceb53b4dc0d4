/- Layer 1: a file system that nobody made: the walks. (Printed by gen_no.py.) -/
import Derived.Test.YtaanmnplfppdeaaFsAw
import Derived.Test.YtaanmnplfppdeaaFsX6
namespace Go.Proofs.Ytaanmnplfppdeaa
open Go.RowKit Go.Lec Go.Fsy Go.Op Go.Maps
/-- It is none, from here on. -/
def NoneAt (w : World) (pv : Option Addr) : Prop := ∀ W, Below w.heap.size w W → Calls Try.prog 22 #[.pointer pv] W fun e W' => e = .returned (.bool false) ∧ W' = W
theorem NoneAt.below {w w' : World} {pv : Option Addr} (h : NoneAt w pv) (hb : Below w.heap.size w w') : NoneAt w' pv := fun W hW => h W (hb.trans (hW.mono hb.size))
theorem noneAt_nil (w : World) : NoneAt w none := fun W _ => c_is_none W
theorem noneAt_zero {w : World} {b : Nat} {t : TypeId} {cs : Array Value} (h : Bk w b t cs) (h0 : cs[0]? = some (.int .i64 0)) : NoneAt w (some ⟨b, 0, none⟩) := fun W hW => c_is_no W b (((h.below hW h.lt).cell 0).trans h0)
set_option maxRecDepth 40000 in
theorem n_op (w : World) (pv : Option Addr) (h : NoneAt w pv) : Calls Try.prog 24 #[.pointer pv] w fun e w' => e = .returned (.tuple #[.int .i64 0, .int .i64 12]) ∧ w' = w := by
  have H := Lib.hid (h w (Below.refl _ _))
  clear h
  go_enter Try.func24, Try.ntmps24
  go_wp2_with (first | (go_at_call 22; refine H.out.mono ?_; rintro e w1 ⟨rfl, rfl⟩))
  go_ret2
  exact ⟨rfl, rfl⟩
set_option maxRecDepth 100000 in
theorem n_Create (w : World) (pv : Option Addr) (s : ByteArray) (h : NoneAt w pv) : Calls Try.prog 7 #[.pointer pv, .string s] w fun e w' => e = .returned (.int .i64 12) ∧ w' = w := by
  have H := Lib.hid (n_op w pv h)
  clear h
  go_enter Try.func7, Try.ntmps7
  go_wp2_with (first | (go_at_call 24; refine H.out.mono ?_; rintro e w1 ⟨rfl, rfl⟩))
  go_ret
  exact ⟨rfl, rfl⟩
set_option maxRecDepth 100000 in
theorem n_Append (w : World) (pv : Option Addr) (s : ByteArray) (A : Option Addr) (n c : Nat) (h : NoneAt w pv) : Calls Try.prog 8 #[.pointer pv, .string s, .slice A n c] w fun e w' => e = .returned (.int .i64 12) ∧ w' = w := by
  have H := Lib.hid (n_op w pv h)
  clear h
  go_enter Try.func8, Try.ntmps8
  go_wp2_with (first | (go_at_call 24; refine H.out.mono ?_; rintro e w1 ⟨rfl, rfl⟩))
  go_ret
  exact ⟨rfl, rfl⟩
set_option maxRecDepth 100000 in
theorem n_Cut (w : World) (pv : Option Addr) (s : ByteArray) (k : Int) (h : NoneAt w pv) : Calls Try.prog 9 #[.pointer pv, .string s, .int .i64 k] w fun e w' => e = .returned (.int .i64 12) ∧ w' = w := by
  have H := Lib.hid (n_op w pv h)
  clear h
  go_enter Try.func9, Try.ntmps9
  go_wp2_with (first | (go_at_call 24; refine H.out.mono ?_; rintro e w1 ⟨rfl, rfl⟩))
  go_ret
  exact ⟨rfl, rfl⟩
set_option maxRecDepth 100000 in
theorem n_Sync (w : World) (pv : Option Addr) (s : ByteArray) (h : NoneAt w pv) : Calls Try.prog 10 #[.pointer pv, .string s] w fun e w' => e = .returned (.int .i64 12) ∧ w' = w := by
  have H := Lib.hid (n_op w pv h)
  clear h
  go_enter Try.func10, Try.ntmps10
  go_wp2_with (first | (go_at_call 24; refine H.out.mono ?_; rintro e w1 ⟨rfl, rfl⟩))
  go_ret
  exact ⟨rfl, rfl⟩
set_option maxRecDepth 100000 in
theorem n_Rename (w : World) (pv : Option Addr) (s : ByteArray) (s2 : ByteArray) (h : NoneAt w pv) : Calls Try.prog 11 #[.pointer pv, .string s, .string s2] w fun e w' => e = .returned (.int .i64 12) ∧ w' = w := by
  have H := Lib.hid (n_op w pv h)
  clear h
  go_enter Try.func11, Try.ntmps11
  go_wp2_with (first | (go_at_call 24; refine H.out.mono ?_; rintro e w1 ⟨rfl, rfl⟩))
  go_ret
  exact ⟨rfl, rfl⟩
set_option maxRecDepth 100000 in
theorem n_Remove (w : World) (pv : Option Addr) (s : ByteArray) (h : NoneAt w pv) : Calls Try.prog 12 #[.pointer pv, .string s] w fun e w' => e = .returned (.int .i64 12) ∧ w' = w := by
  have H := Lib.hid (n_op w pv h)
  clear h
  go_enter Try.func12, Try.ntmps12
  go_wp2_with (first | (go_at_call 24; refine H.out.mono ?_; rintro e w1 ⟨rfl, rfl⟩))
  go_ret
  exact ⟨rfl, rfl⟩
set_option maxRecDepth 100000 in
theorem n_SyncDir (w : World) (pv : Option Addr) (h : NoneAt w pv) : Calls Try.prog 13 #[.pointer pv] w fun e w' => e = .returned (.int .i64 12) ∧ w' = w := by
  have H := Lib.hid (n_op w pv h)
  clear h
  go_enter Try.func13, Try.ntmps13
  go_wp2_with (first | (go_at_call 24; refine H.out.mono ?_; rintro e w1 ⟨rfl, rfl⟩))
  go_ret
  exact ⟨rfl, rfl⟩
set_option maxRecDepth 100000 in
theorem n_Read (w : World) (pv : Option Addr) (s : ByteArray) (a b : Int) (h : NoneAt w pv) : Calls Try.prog 5 #[.pointer pv, .string s, .int .i64 a, .int .i64 b] w fun e w' => e = .returned (.tuple #[.slice none 0 0, .int .i64 12]) ∧ w' = w := by
  have H := Lib.hid (h w (Below.refl _ _))
  clear h
  go_enter Try.func5, Try.ntmps5
  go_wp2_with (first | (go_at_call 22; refine H.out.mono ?_; rintro e w1 ⟨rfl, rfl⟩))
  go_ret2
  exact ⟨rfl, rfl⟩
set_option maxRecDepth 100000 in
theorem n_Size (w : World) (pv : Option Addr) (s : ByteArray) (h : NoneAt w pv) : Calls Try.prog 6 #[.pointer pv, .string s] w fun e w' => e = .returned (.tuple #[.int .i64 0, .int .i64 12]) ∧ w' = w := by
  have H := Lib.hid (h w (Below.refl _ _))
  clear h
  go_enter Try.func6, Try.ntmps6
  go_wp2_with (first | (go_at_call 22; refine H.out.mono ?_; rintro e w1 ⟨rfl, rfl⟩))
  go_ret2
  exact ⟨rfl, rfl⟩
set_option maxRecDepth 100000 in
theorem n_Safe (w : World) (pv : Option Addr) (h : NoneAt w pv) : Calls Try.prog 16 #[.pointer pv] w fun e w' => e = .returned (.slice none 0 0) ∧ w' = w := by
  have H := Lib.hid (h w (Below.refl _ _))
  clear h
  go_enter Try.func16, Try.ntmps16
  go_wp2_with (first | (go_at_call 22; refine H.out.mono ?_; rintro e w1 ⟨rfl, rfl⟩))
  go_ret
  exact ⟨rfl, rfl⟩
set_option maxRecDepth 100000 in
theorem n_Ops (w : World) (pv : Option Addr) (h : NoneAt w pv) : Calls Try.prog 17 #[.pointer pv] w fun e w' => e = .returned (.int .i64 0) ∧ w' = w := by
  have H := Lib.hid (h w (Below.refl _ _))
  clear h
  go_enter Try.func17, Try.ntmps17
  go_wp2_with (first | (go_at_call 22; refine H.out.mono ?_; rintro e w1 ⟨rfl, rfl⟩))
  go_ret
  exact ⟨rfl, rfl⟩
set_option maxRecDepth 100000 in
theorem n_Dead (w : World) (pv : Option Addr) (h : NoneAt w pv) : Calls Try.prog 18 #[.pointer pv] w fun e w' => e = .returned (.bool true) ∧ w' = w := by
  have H := Lib.hid (h w (Below.refl _ _))
  clear h
  go_enter Try.func18, Try.ntmps18
  go_wp2_with (first | (go_at_call 22; refine H.out.mono ?_; rintro e w1 ⟨rfl, rfl⟩))
  go_ret
  exact ⟨rfl, rfl⟩
set_option maxRecDepth 100000 in
theorem n_Clone (w : World) (pv : Option Addr) (h : NoneAt w pv) : Calls Try.prog 20 #[.pointer pv] w fun e w' => e = .returned (.pointer none) ∧ w' = w := by
  have H := Lib.hid (h w (Below.refl _ _))
  clear h
  go_enter Try.func20, Try.ntmps20
  go_wp2_with (first | (go_at_call 22; refine H.out.mono ?_; rintro e w1 ⟨rfl, rfl⟩))
  go_ret
  exact ⟨rfl, rfl⟩
set_option maxRecDepth 40000 in
theorem n_Used (w : World) (pv : Option Addr) (h : NoneAt w pv) : Calls Try.prog 19 #[.pointer pv] w fun e w' => e = .returned (.int .i64 0) ∧ w' = w := by
  have H := Lib.hid (n_Dead w pv h)
  clear h
  go_enter Try.func19, Try.ntmps19
  go_wp2_with (first | (go_at_call 18; refine H.out.mono ?_; rintro e w1 ⟨rfl, rfl⟩))
  go_ret
  exact ⟨rfl, rfl⟩
set_option maxRecDepth 40000 in
theorem n_Start (w : World) (pv : Option Addr) (a b : Int) (A1 A2 A3 : Option Addr) (m1 m2 m3 d1 d2 d3 : Nat) (h : NoneAt w pv) : Calls Try.prog 14 #[.pointer pv, .agg #[.int .i64 a, .slice A1 m1 d1, .slice A2 m2 d2, .slice A3 m3 d3, .int .i64 b]] w fun e w' => e = .returned (.int .i64 12) ∧ Below w.heap.size w w' := by
  have H := Lib.hid (h (w.alloc (.cells #[.int .i64 a, .slice A1 m1 d1, .slice A2 m2 d2, .slice A3 m3 d3, .int .i64 b] 25)) ((Below.refl _ _).alloc (Nat.le_refl _) _))
  clear h
  go_enter Try.func14, Try.ntmps14
  go_wp2_with (first | (go_at_call 22; refine H.out.mono ?_; rintro e w1 ⟨rfl, rfl⟩))
  go_ret
  exact ⟨rfl, (Below.refl _ _).alloc (Nat.le_refl _) _⟩
set_option maxRecDepth 40000 in
theorem n_Files (w : World) (pv : Option Addr) (h : NoneAt w pv) : Calls Try.prog 15 #[.pointer pv] w fun e w' => e = .returned (.slice none 0 0) ∧ Below w.heap.size w w' := by
  have H := Lib.hid (h (w.alloc (.cells #[.pointer pv] 29)) ((Below.refl _ _).alloc (Nat.le_refl _) _))
  clear h
  go_enter Try.func15, Try.ntmps15
  go_wp2_with (first | (go_at_call 22; refine H.out.mono ?_; rintro e w1 ⟨rfl, rfl⟩))
  go_ret
  exact ⟨rfl, (Below.refl _ _).alloc (Nat.le_refl _) _⟩
end Go.Proofs.Ytaanmnplfppdeaa
