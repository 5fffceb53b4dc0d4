/- Layer 2: a reader that has failed reads nothing more: the walks. -/
import Derived.Test.YtjcifmbbdofjiaaCdJ
namespace Go.Proofs.Ytjcifmbbdofjiaa
open Go.RowKit Go.Lec
set_option maxRecDepth 40000 in
set_option maxHeartbeats 800000 in
theorem c_onU_bad (w : World) {R B : Nat} {A : Option Addr} {n c : Nat} {l : List UInt8} {at_ : Nat} {e : Int} (h : Rdr w R B A n c l at_ e) (he : e ≠ 0) :
    Calls Try.prog 77 #[.pointer (some ⟨R, 0, none⟩), .func (.func 78) #[] #[]] w fun e w' => e = .returned (.int .u64 0) ∧ Below w.heap.size w w' := by
  have lR := h.bk.lt
  have he' : ((e : Int) != 0) = true := by simpa using he
  clear he
  go_enter Try.func77, Try.ntmps77
  go_wp2_with fail
  obtain ⟨H0, H1, H2, hsz, hBl⟩ := Bk.new3 w 104 #[.pointer (some ⟨R, 0, none⟩)] 117 #[.func (.func 78) #[] #[]] 91 #[.int .u64 0]
  generalize (((w.alloc (.cells #[.pointer (some ⟨R, 0, none⟩)] 104)).alloc (.cells #[.func (.func 78) #[] #[]] 117)).alloc (.cells #[.int .u64 0] 91)) = W3 at *
  have hR3 := h.below hBl lR
  have q3 := hR3.bk.cell
  refine (c_Ris W3 hR3).mono ?_
  rintro e w' ⟨rfl, rfl⟩
  have g0 := H0.cell 0
  go_wp2
  go_ret
  exact ⟨rfl, hBl⟩
set_option maxRecDepth 40000 in
set_option maxHeartbeats 800000 in
theorem c_onB_bad (w : World) (bm : Nat) {R B : Nat} {A : Option Addr} {n c : Nat} {l : List UInt8} {at_ : Nat} {e : Int} (h : Rdr w R B A n c l at_ e) (he : e ≠ 0) :
    Calls Try.prog 79 #[.pointer (some ⟨R, 0, none⟩), .func (.func 80) #[] #[.pointer (some ⟨bm, 0, none⟩)]] w fun e w' => e = .returned (.slice none 0 0) ∧ Below w.heap.size w w' := by
  have lR := h.bk.lt
  have he' : ((e : Int) != 0) = true := by simpa using he
  clear he
  go_enter Try.func79, Try.ntmps79
  go_wp2_with fail
  obtain ⟨H0, H1, H2, hsz, hBl⟩ := Bk.new3 w 104 #[.pointer (some ⟨R, 0, none⟩)] 119 #[.func (.func 80) #[] #[.pointer (some ⟨bm, 0, none⟩)]] 25 #[.slice none 0 0]
  generalize (((w.alloc (.cells #[.pointer (some ⟨R, 0, none⟩)] 104)).alloc (.cells #[.func (.func 80) #[] #[.pointer (some ⟨bm, 0, none⟩)]] 119)).alloc (.cells #[.slice none 0 0] 25)) = W3 at *
  have hR3 := h.below hBl lR
  have q3 := hR3.bk.cell
  refine (c_Ris W3 hR3).mono ?_
  rintro e w' ⟨rfl, rfl⟩
  have g0 := H0.cell 0
  go_wp2
  go_ret
  exact ⟨rfl, hBl⟩
set_option maxRecDepth 40000 in
theorem c_Uint_bad (w : World) {R B : Nat} {A : Option Addr} {n c : Nat} {l : List UInt8} {at_ : Nat} {e : Int} (h : Rdr w R B A n c l at_ e) (he : e ≠ 0) :
    Calls Try.prog 68 #[.pointer (some ⟨R, 0, none⟩)] w fun e w' => e = .returned (.int .u64 0) ∧ Below w.heap.size w w' := by
  have HC := Lib.hid (c_onU_bad w h he)
  go_enter Try.func68, Try.ntmps68
  go_wp2_with fail
  refine HC.out.mono ?_
  rintro e w' ⟨rfl, hb⟩
  go_wp2
  go_ret
  exact ⟨rfl, hb⟩
set_option maxRecDepth 40000 in
theorem c_Take_bad (w : World) {R B : Nat} {A : Option Addr} {n c : Nat} {l : List UInt8} {at_ : Nat} {e : Int} (m : Int) (h : Rdr w R B A n c l at_ e) (he : e ≠ 0) :
    Calls Try.prog 70 #[.pointer (some ⟨R, 0, none⟩), .int .i64 m] w fun e w' => e = .returned (.slice none 0 0) ∧ Below w.heap.size w w' := by
  have hmf : ∀ (fn : Fn) (first cap : Array Value) (w : World), (Instr.makeFunc fn first cap).run Try.prog w = .ok (.func fn first cap) w := fun _ _ _ _ => rfl
  have hb := (Below.refl w.heap.size w).alloc (Nat.le_refl _) (.cells #[.int .i64 m] 3)
  have HC := Lib.hid (c_onB_bad (w.alloc (.cells #[.int .i64 m] 3)) w.heap.size (h.below hb h.bk.lt) he)
  go_enter Try.func70, Try.ntmps70
  go_wp2_with fail
  refine HC.out.mono ?_
  rintro e w' ⟨rfl, hb2⟩
  have hbf := hb.trans (hb2.mono hb.size)
  go_wp2
  go_ret
  exact ⟨rfl, hbf⟩
end Go.Proofs.Ytjcifmbbdofjiaa
