/- Layer 1: a file system that nobody made: the walks. (Printed by gen_no.py.) -/
import Derived.Test.YtgilnjngphhhlaaGreatFsX1
namespace Go.Proofs.YtgilnjngphhhlaaGreat
open Go.RowKit Go.Lec Go.Fsy Go.Op Go.Maps
/-- It is none, from here on. -/
def NoneAt (w : World) (pv : Option Addr) : Prop := ∀ W, Below w.heap.size w W → Calls Tryz.prog 32 #[.pointer pv] W fun e W' => e = .returned (.bool false) ∧ W' = W
theorem NoneAt.below {w w' : World} {pv : Option Addr} (h : NoneAt w pv) (hb : Below w.heap.size w w') : NoneAt w' pv := fun W hW => h W (hb.trans (hW.mono hb.size))
theorem noneAt_nil (w : World) : NoneAt w none := fun W _ => c_is_none W
theorem noneAt_zero {w : World} {b : Nat} {t : TypeId} {cs : Array Value} (h : Bk w b t cs) (h0 : cs[0]? = some (.int .i64 0)) : NoneAt w (some ⟨b, 0, none⟩) := fun W hW => c_is_no W b (((h.below hW h.lt).cell 0).trans h0)
set_option maxRecDepth 40000 in
theorem n_op (w : World) (pv : Option Addr) (h : NoneAt w pv) : Calls Tryz.prog 38 #[.pointer pv] w fun e w' => e = .returned (.tuple #[.int .i64 0, .int .i64 12]) ∧ w' = w := by
  have H := Lib.hid (h w (Below.refl _ _))
  clear h
  go_enter Tryz.func38, Tryz.ntmps38
  go_wp2_with (first | (go_at_call 32; refine H.out.mono ?_; rintro e w1 ⟨rfl, rfl⟩))
  go_ret2
  exact ⟨rfl, rfl⟩
set_option maxRecDepth 100000 in
theorem n_Create (w : World) (pv : Option Addr) (s : ByteArray) (h : NoneAt w pv) : Calls Tryz.prog 27 #[.pointer pv, .string s] w fun e w' => e = .returned (.int .i64 12) ∧ w' = w := by
  have H := Lib.hid (n_op w pv h)
  clear h
  go_enter Tryz.func27, Tryz.ntmps27
  go_wp2_with (first | (go_at_call 38; refine H.out.mono ?_; rintro e w1 ⟨rfl, rfl⟩))
  go_ret
  exact ⟨rfl, rfl⟩
set_option maxRecDepth 100000 in
theorem n_Append (w : World) (pv : Option Addr) (s : ByteArray) (A : Option Addr) (n c : Nat) (h : NoneAt w pv) : Calls Tryz.prog 23 #[.pointer pv, .string s, .slice A n c] w fun e w' => e = .returned (.int .i64 12) ∧ w' = w := by
  have H := Lib.hid (n_op w pv h)
  clear h
  go_enter Tryz.func23, Tryz.ntmps23
  go_wp2_with (first | (go_at_call 38; refine H.out.mono ?_; rintro e w1 ⟨rfl, rfl⟩))
  go_ret
  exact ⟨rfl, rfl⟩
set_option maxRecDepth 100000 in
theorem n_Cut (w : World) (pv : Option Addr) (s : ByteArray) (k : Int) (h : NoneAt w pv) : Calls Tryz.prog 22 #[.pointer pv, .string s, .int .i64 k] w fun e w' => e = .returned (.int .i64 12) ∧ w' = w := by
  have H := Lib.hid (n_op w pv h)
  clear h
  go_enter Tryz.func22, Tryz.ntmps22
  go_wp2_with (first | (go_at_call 38; refine H.out.mono ?_; rintro e w1 ⟨rfl, rfl⟩))
  go_ret
  exact ⟨rfl, rfl⟩
set_option maxRecDepth 100000 in
theorem n_Sync (w : World) (pv : Option Addr) (s : ByteArray) (h : NoneAt w pv) : Calls Tryz.prog 24 #[.pointer pv, .string s] w fun e w' => e = .returned (.int .i64 12) ∧ w' = w := by
  have H := Lib.hid (n_op w pv h)
  clear h
  go_enter Tryz.func24, Tryz.ntmps24
  go_wp2_with (first | (go_at_call 38; refine H.out.mono ?_; rintro e w1 ⟨rfl, rfl⟩))
  go_ret
  exact ⟨rfl, rfl⟩
set_option maxRecDepth 100000 in
theorem n_SyncDir (w : World) (pv : Option Addr) (h : NoneAt w pv) : Calls Tryz.prog 28 #[.pointer pv] w fun e w' => e = .returned (.int .i64 12) ∧ w' = w := by
  have H := Lib.hid (n_op w pv h)
  clear h
  go_enter Tryz.func28, Tryz.ntmps28
  go_wp2_with (first | (go_at_call 38; refine H.out.mono ?_; rintro e w1 ⟨rfl, rfl⟩))
  go_ret
  exact ⟨rfl, rfl⟩
set_option maxRecDepth 100000 in
theorem n_Read (w : World) (pv : Option Addr) (s : ByteArray) (a b : Int) (h : NoneAt w pv) : Calls Tryz.prog 30 #[.pointer pv, .string s, .int .i64 a, .int .i64 b] w fun e w' => e = .returned (.tuple #[.slice none 0 0, .int .i64 12]) ∧ w' = w := by
  have H := Lib.hid (h w (Below.refl _ _))
  clear h
  go_enter Tryz.func30, Tryz.ntmps30
  go_wp2_with (first | (go_at_call 32; refine H.out.mono ?_; rintro e w1 ⟨rfl, rfl⟩))
  go_ret2
  exact ⟨rfl, rfl⟩
set_option maxRecDepth 100000 in
theorem n_Size (w : World) (pv : Option Addr) (s : ByteArray) (h : NoneAt w pv) : Calls Tryz.prog 29 #[.pointer pv, .string s] w fun e w' => e = .returned (.tuple #[.int .i64 0, .int .i64 12]) ∧ w' = w := by
  have H := Lib.hid (h w (Below.refl _ _))
  clear h
  go_enter Tryz.func29, Tryz.ntmps29
  go_wp2_with (first | (go_at_call 32; refine H.out.mono ?_; rintro e w1 ⟨rfl, rfl⟩))
  go_ret2
  exact ⟨rfl, rfl⟩
set_option maxRecDepth 100000 in
theorem n_Dead (w : World) (pv : Option Addr) (h : NoneAt w pv) : Calls Tryz.prog 65 #[.pointer pv] w fun e w' => e = .returned (.bool true) ∧ w' = w := by
  have H := Lib.hid (h w (Below.refl _ _))
  clear h
  go_enter Tryz.func65, Tryz.ntmps65
  go_wp2_with (first | (go_at_call 32; refine H.out.mono ?_; rintro e w1 ⟨rfl, rfl⟩))
  go_ret
  exact ⟨rfl, rfl⟩
set_option maxRecDepth 40000 in
theorem n_Used (w : World) (pv : Option Addr) (h : NoneAt w pv) : Calls Tryz.prog 57 #[.pointer pv] w fun e w' => e = .returned (.int .i64 0) ∧ w' = w := by
  have H := Lib.hid (n_Dead w pv h)
  clear h
  go_enter Tryz.func57, Tryz.ntmps57
  go_wp2_with (first | (go_at_call 65; refine H.out.mono ?_; rintro e w1 ⟨rfl, rfl⟩))
  go_ret
  exact ⟨rfl, rfl⟩
set_option maxRecDepth 40000 in
theorem n_Start (w : World) (pv : Option Addr) (a b : Int) (A1 A2 A3 : Option Addr) (m1 m2 m3 d1 d2 d3 : Nat) (h : NoneAt w pv) : Calls Tryz.prog 17 #[.pointer pv, .agg #[.int .i64 a, .slice A1 m1 d1, .slice A2 m2 d2, .slice A3 m3 d3, .int .i64 b]] w fun e w' => e = .returned (.int .i64 12) ∧ Below w.heap.size w w' := by
  have H := Lib.hid (h (w.alloc (.cells #[.int .i64 a, .slice A1 m1 d1, .slice A2 m2 d2, .slice A3 m3 d3, .int .i64 b] 44)) ((Below.refl _ _).alloc (Nat.le_refl _) _))
  clear h
  go_enter Tryz.func17, Tryz.ntmps17
  go_wp2_with (first | (go_at_call 32; refine H.out.mono ?_; rintro e w1 ⟨rfl, rfl⟩))
  go_ret
  exact ⟨rfl, (Below.refl _ _).alloc (Nat.le_refl _) _⟩
end Go.Proofs.YtgilnjngphhhlaaGreat
