/- Layer 17: what stands at the front of bytes: the plain answer. -/
import Derived.Test.YtgilnjngphhhlaaGreatWalA
import Derived.Laws.BitsAllLaws
import Derived.BigQuiet
namespace Go.Lec
open Go.RowKit
/-- A byte's number. -/
def byteAt (b : List UInt8) (i : Nat) : Nat := (b.getD i 0).toNat
/-- The payload's length that a frame tells. -/
def lenAt (b : List UInt8) (s : Nat) : Nat := byteAt b (s + 4) + 256 * byteAt b (s + 5)
/-- A frame's kind. -/
def kindAt (b : List UInt8) (s : Nat) : UInt8 := b.getD (s + 6) 0
/-- A frame's payload. -/
def payAt (b : List UInt8) (s : Nat) : List UInt8 := (b.drop (s + 7)).take (lenAt b s)
/-- A frame stands whole and right at a place. -/
def headOk (b : List UInt8) (s : Nat) : Prop := s + 7 ≤ b.length ∧ 7 + lenAt b s ≤ 512 - s % 512 ∧ s + 7 + lenAt b s ≤ b.length ∧ (b.drop s).take 4 = le 4 (Go.Proofs.YtgilnjngphhhlaaGreat.maskOf (crcOf (kindAt b s :: payAt b s))).toNat ∧ 1 ≤ (kindAt b s).toNat ∧ (kindAt b s).toNat ≤ 4
/-- A block's rest is zeros. -/
def padOk (b : List UInt8) (s : Nat) : Prop := s + (512 - s % 512) ≤ b.length ∧ ∀ t, t < 512 - s % 512 → b.getD (s + t) 0 = 0
open Classical in
/-- The frames from a place on: kinds, payloads, ends. -/
noncomputable def pieces (b : List UInt8) (s : Nat) : List (UInt8 × List UInt8 × Nat) :=
  if h : s < b.length then
    if 512 - s % 512 < 7 then (if padOk b s then pieces b (s + (512 - s % 512)) else [])
    else if headOk b s then (kindAt b s, payAt b s, s + 7 + lenAt b s) :: pieces b (s + 7 + lenAt b s) else []
  else []
termination_by b.length - s
decreasing_by all_goals omega
theorem pieces_end {b : List UInt8} {s : Nat} (h : b.length ≤ s) : pieces b s = [] := by rw [pieces, dif_neg (by omega)]
theorem pieces_pad {b : List UInt8} {s : Nat} (h : s < b.length) (h7 : 512 - s % 512 < 7) (hp : padOk b s) : pieces b s = pieces b (s + (512 - s % 512)) := by rw [pieces, dif_pos h, if_pos h7, if_pos hp]
theorem pieces_padno {b : List UInt8} {s : Nat} (h : s < b.length) (h7 : 512 - s % 512 < 7) (hp : ¬ padOk b s) : pieces b s = [] := by rw [pieces, dif_pos h, if_pos h7, if_neg hp]
theorem pieces_head {b : List UInt8} {s : Nat} (h : s < b.length) (h7 : ¬ 512 - s % 512 < 7) (hp : headOk b s) : pieces b s = (kindAt b s, payAt b s, s + 7 + lenAt b s) :: pieces b (s + 7 + lenAt b s) := by rw [pieces, dif_pos h, if_neg h7, if_pos hp]
theorem pieces_headno {b : List UInt8} {s : Nat} (h7 : ¬ 512 - s % 512 < 7) (hp : ¬ headOk b s) : pieces b s = [] := by
  by_cases h : s < b.length
  · rw [pieces, dif_pos h, if_neg h7, if_neg hp]
  · rw [pieces, dif_neg h]
/-- Reading frames: the records, the end of the last one. -/
def readL : List (UInt8 × List UInt8 × Nat) → Bool → List UInt8 → List (List UInt8) → Nat → List (List UInt8) × Nat
  | [], _, _, out, good => (out, good)
  | (k, p, e) :: ps, op, rec, out, good =>
    if op ≠ (k == 3 || k == 4) ∨ 1048576 < rec.length + p.length then (out, good)
    else if (k == 2 || k == 3) then readL ps true (rec ++ p) out good
    else readL ps false [] (out ++ [rec ++ p]) e
/-- What is read of bytes. -/
noncomputable def readB (b : List UInt8) : List (List UInt8) × Nat := readL (pieces b 0) false [] [] 0
theorem or_256 (x y : Nat) (hx : x < 256) (hy : y < 256) : bits .or .i64 (x : Int) ((y : Int) * 256) = ((x + 256 * y : Nat) : Int) := by
  have e : x + 256 * y = x ||| (y * 256) := by
    have := Nat.two_pow_add_eq_or_of_lt (i := 8) (b := x) hx y
    rw [Nat.or_comm, Nat.mul_comm y 256]
    have h2 : (2 : Nat) ^ 8 = 256 := rfl
    rw [h2] at this
    omega
  have e1 : BitVec.ofInt 64 (x : Int) = BitVec.ofNat 64 x := BitVec.ofInt_natCast 64 x
  have e2 : BitVec.ofInt 64 ((y : Int) * 256) = BitVec.ofNat 64 (y * 256) := by rw [show ((y : Int) * 256) = ((y * 256 : Nat) : Int) by omega]; exact BitVec.ofInt_natCast 64 _
  show IntKind.i64.wrap ((BitVec.ofInt 64 (x : Int) ||| BitVec.ofInt 64 ((y : Int) * 256)).toNat : Int) = _
  rw [e1, e2, BitVec.toNat_or, BitVec.toNat_ofNat, BitVec.toNat_ofNat, Nat.mod_eq_of_lt (by omega), Nat.mod_eq_of_lt (by omega), ← e, IntKind.wrap_i64]
  omega
theorem byteAt_get {b : List UInt8} {i : Nat} (h : i < b.length) : byteAt b i = (b[i]).toNat := by simp [byteAt, List.getD_eq_getElem?_getD, h]
theorem byteAt_lt (b : List UInt8) (i : Nat) : byteAt b i < 256 := (b.getD i 0).toNat_lt
theorem lenAt_lt (b : List UInt8) (s : Nat) : lenAt b s < 65536 := by have := byteAt_lt b (s + 4); have := byteAt_lt b (s + 5); unfold lenAt; omega
theorem payAt_length {b : List UInt8} {s : Nat} (h : s + 7 + lenAt b s ≤ b.length) : (payAt b s).length = lenAt b s := by simp [payAt]; omega
theorem body_cut {b : List UInt8} {s : Nat} (h : s + 7 + lenAt b s ≤ b.length) : (b.take (s + 7 + lenAt b s)).drop (s + 6) = kindAt b s :: payAt b s := by
  rw [List.drop_take, show s + 7 + lenAt b s - (s + 6) = lenAt b s + 1 by omega, List.drop_eq_getElem_cons (i := s + 6) (by omega), List.take_succ_cons]
  have : kindAt b s = b[s + 6] := by simp [kindAt, List.getD_eq_getElem?_getD, show s + 6 < b.length by omega]
  rw [this]
  rfl
end Go.Lec
/- Layer 17: two lists of bytes are alike. -/
namespace Go.Proofs.YtgilnjngphhhlaaGreat
open Go.RowKit Go.Lec
theorem belowN {B : Nat} {a w : World} (h : Below B a w) (n : Nat) : Below B a (w.drewN n) := ⟨h.os, h.tape, h.output, h.size, h.block⟩

theorem take_step {l m : List UInt8} {k : Nat} (h : l.take k = m.take k) (hk : k < l.length) (hm : k < m.length) (he : l[k] = m[k]) : l.take (k + 1) = m.take (k + 1) := by
  rw [List.take_succ_eq_append_getElem hk, List.take_succ_eq_append_getElem hm, h, he]

set_option maxRecDepth 20000 in
set_option maxHeartbeats 800000 in
theorem c_Equal (w : World) {B B' : Nat} {A A' : Option Addr} {n c n' c' : Nat} {l m : List UInt8} (hr : Rd w B A n (bcs l)) (hB : B ≤ w.heap.size) (hr' : Rd w B' A' n' (bcs m)) (hB' : B' ≤ w.heap.size) (hn : n ≤ 1099511627776) :
    Calls Tryz.prog 54 #[.slice A n c, .slice A' n' c'] w fun e w' => e = .returned (.bool (decide (l = m))) ∧ Below w.heap.size w w' := by
  have hln := hr.1
  have hln' := hr'.1
  rw [bcs_length] at hln hln'
  have Hln := Lib.hid hln
  have Hln' := Lib.hid hln'
  clear hln hln'
  obtain ⟨R, hR⟩ : ∃ R, R = decide (l = m) := ⟨_, rfl⟩
  rw [← hR]
  have HR := Lib.hid hR
  clear hR
  by_cases hnn : n = n'
  · subst hnn
    go_enter Tryz.func54, Tryz.ntmps54
    go_wp2
    go_loopw [13] (fun i wr => ∃ k : Nat, k ≤ n ∧ i = .int .i64 k ∧ l.take k = m.take k ∧ Below w.heap.size w wr) (fun i _ => n - (intOf i).toNat)
    case atStart => exact ⟨0, Nat.zero_le _, rfl, rfl, Below.refl _ _⟩
    case round =>
      obtain ⟨k, hk, rfl, ht, hb⟩ := hrel
      have Ht := Lib.hid ht
      clear ht
      by_cases hlt : k < n
      · obtain ⟨b1, o1, rfl, hb1, hc1⟩ := (hr.below hb hB).byte hlt
        obtain ⟨b2, o2, rfl, hb2, hc2⟩ := (hr'.below hb hB').byte hlt
        have hk1 : k < l.length := by rw [Hln.out]; exact hlt
        have hk2 : k < m.length := by rw [Hln'.out]; exact hlt
        have hd1 := hc1 k hk1
        have hd2 := hc2 k hk2
        clear hc1 hc2 hr hr'
        obtain ⟨x, hx⟩ : ∃ x, x = l[k] := ⟨_, rfl⟩
        obtain ⟨y, hy⟩ : ∃ y, y = m[k] := ⟨_, rfl⟩
        rw [← hx] at hd1
        rw [← hy] at hd2
        have Hx := Lib.hid hx
        have Hy := Lib.hid hy
        clear hx hy
        have hbd : Below w.heap.size w wr.drew := hb.drew
        by_cases hxy : x = y
        · subst hxy
          have HS := Lib.hid (take_step Ht.out hk1 hk2 (by rw [← Hx.out, ← Hy.out]))
          clear Hx Hy Ht
          have hne : ((x.toNat : Int) != (x.toNat : Int)) = false := by simp
          go_wp2
          go_quiet (fail)
          go_wp2
          go_roundw
          case rel => exact ⟨k + 1, by omega, by go_num, HS.out, belowN hb _⟩
          case measure => simp [intOf]; omega
        · have hne : ((x.toNat : Int) != (y.toNat : Int)) = true := by
            have : x.toNat ≠ y.toNat := fun h => hxy (UInt8.toNat_inj.1 h)
            simp; omega
          have HN : l ≠ m := by rintro rfl; exact hxy (by rw [Hx.out, Hy.out])
          have hRf : R = false := by rw [HR.out, decide_eq_false HN]
          clear HR HN
          subst hRf
          clear Hx Hy Ht hxy
          go_wp2
          go_quiet (fail)
          go_wp2
          go_ret
          exact ⟨rfl, belowN hb _⟩
      · obtain rfl : k = n := by omega
        have he : l = m := by
          have := Ht.out
          rwa [List.take_of_length_le (by rw [Hln.out]; exact Nat.le_refl _), List.take_of_length_le (by rw [Hln'.out]; exact Nat.le_refl _)] at this
        have hRt : R = true := by rw [HR.out, decide_eq_true he]
        clear HR he Ht
        subst hRt
        go_wp2
        go_ret
        exact ⟨rfl, hb⟩
  · have HN : l ≠ m := by rintro rfl; exact hnn (by rw [← Hln.out, ← Hln'.out])
    have hRf : R = false := by rw [HR.out, decide_eq_false HN]
    clear HR HN
    subst hRf
    have hne : ((n : Int) != (n' : Int)) = true := by simp; omega
    go_enter Tryz.func54, Tryz.ntmps54
    go_wp2
    go_ret
    exact ⟨rfl, Below.refl _ _⟩
end Go.Proofs.YtgilnjngphhhlaaGreat
