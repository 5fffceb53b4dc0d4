/- Layer 2: the reader: made, asked where it stands and what went wrong. -/
import Derived.Test.YtjcifmbbdofjiaaCdE
import Derived.Test.YtjcifmbbdofjiaaByX
namespace Go.Proofs.Ytjcifmbbdofjiaa
open Go.RowKit Go.Lec
/-- A reader in block R: its bytes, where it stands, its error. -/
structure Rdr (W : World) (R B : Nat) (A : Option Addr) (n c : Nat) (l : List UInt8) (at_ : Nat) (e : Int) : Prop where
  bk : Bk W R 115 #[.int .i64 1, .slice A n c, .int .i64 at_, .int .i64 e]
  rd : Rd W B A n (bcs l)
  cap : n ≤ c
  low : B ≤ R
  in_ : at_ ≤ n
section
variable {W W' : World} {R B : Nat} {A : Option Addr} {n c : Nat} {l : List UInt8} {at_ : Nat} {e : Int}
theorem Rdr.below {C : Nat} (h : Rdr W R B A n c l at_ e) (hb : Below C W W') (hC : R < C) : Rdr W' R B A n c l at_ e := ⟨h.bk.below hb hC, h.rd.below hb (Nat.le_trans h.low (Nat.le_of_lt hC)), h.cap, h.low, h.in_⟩
theorem Rdr.len (h : Rdr W R B A n c l at_ e) : l.length = n := by have := h.rd.1; rwa [bcs_length] at this
end
/-- What New answers. -/
def NewPost (w : World) (l : List UInt8) (e : Ending) (w' : World) : Prop := ∃ (R B : Nat) (A : Option Addr) (c : Nat), e = .returned (.pointer (some ⟨R, 0, none⟩)) ∧ w.heap.size ≤ R ∧ Rdr w' R B A l.length c l 0 0 ∧ Below w.heap.size w w'

set_option maxRecDepth 40000 in
set_option maxHeartbeats 800000 in
theorem c_RNew (w : World) {B : Nat} {A : Option Addr} {n c : Nat} {l : List UInt8} (hr : Rd w B A n (bcs l)) (hB : B ≤ w.heap.size) (hn : n ≤ 1099511627776) :
    Calls Try.prog 66 #[.slice A n c] w (NewPost w l) := by
  go_enter Try.func66, Try.ntmps66
  go_wp2_with fail
  refine (c_Clone w hr hB (by omega)).mono ?_
  rintro e w1 ⟨v, rfl, ho, hb⟩
  obtain ⟨A1, c1, rfl, hc1⟩ := ho.shape
  rw [bcs_length] at *
  have hsz := hb.size
  go_wp2
  go_ret
  refine ⟨w1.heap.size, w1.heap.size, A1, c1, rfl, hsz, ⟨Bk.new_ w1 115 _, ?_, hc1, Nat.le_refl _, Nat.zero_le _⟩, hb.alloc hsz _⟩
  exact (Lec.Own.rd ho).alloc (Nat.le_refl _) _

theorem c_Ris (W : World) {R B : Nat} {A : Option Addr} {n c : Nat} {l : List UInt8} {at_ : Nat} {e : Int} (h : Rdr W R B A n c l at_ e) :
    Calls Try.prog 76 #[.pointer (some ⟨R, 0, none⟩)] W fun e w' => e = .returned (.bool true) ∧ W = w' := by
  have q := h.bk.cell
  go_enter Try.func76, Try.ntmps76
  go_wp2
  go_ret
  exact ⟨rfl, rfl⟩
theorem c_RAt (W : World) {R B : Nat} {A : Option Addr} {n c : Nat} {l : List UInt8} {at_ : Nat} {e : Int} (h : Rdr W R B A n c l at_ e) :
    Calls Try.prog 67 #[.pointer (some ⟨R, 0, none⟩)] W fun e w' => e = .returned (.int .i64 at_) ∧ W = w' := by
  have q := h.bk.cell
  go_enter Try.func67, Try.ntmps67
  go_wp2_with (first | (go_at_call 76; refine (c_Ris _ h).mono ?_; rintro e w' ⟨rfl, rfl⟩))
  go_ret
  exact ⟨rfl, rfl⟩
theorem c_RErr (W : World) {R B : Nat} {A : Option Addr} {n c : Nat} {l : List UInt8} {at_ : Nat} {e : Int} (h : Rdr W R B A n c l at_ e) :
    Calls Try.prog 69 #[.pointer (some ⟨R, 0, none⟩)] W fun e' w' => e' = .returned (.int .i64 e) ∧ W = w' := by
  have q := h.bk.cell
  go_enter Try.func69, Try.ntmps69
  go_wp2_with (first | (go_at_call 76; refine (c_Ris _ h).mono ?_; rintro e w' ⟨rfl, rfl⟩))
  go_ret
  exact ⟨rfl, rfl⟩
end Go.Proofs.Ytjcifmbbdofjiaa
