/- Layer 17: the document's next frame. -/
import Derived.Test.YtgilnjngphhhlaaWalG
namespace Go.Lec
open Go.RowKit
theorem ofNat_eq (x : Nat) (b : UInt8) : UInt8.ofNat x = b ↔ x % 256 = b.toNat := by
  constructor
  · intro h; rw [← h, UInt8.toNat_ofNat']
  · intro h; exact UInt8.toNat_inj.1 (by rw [UInt8.toNat_ofNat']; exact h)
theorem le4_list (x : Nat) : le 4 x = [UInt8.ofNat x, UInt8.ofNat (x / 256), UInt8.ofNat (x / 65536), UInt8.ofNat (x / 16777216)] := by simp [le, List.range_succ]
theorem take4 (L : List UInt8) (s : Nat) (h : s + 4 ≤ L.length) : (L.drop s).take 4 = [L[s], L[s + 1], L[s + 2], L[s + 3]] := by
  apply List.ext_getElem
  · simp; omega
  · intro i h1 h2
    have hi : i < 4 := by simpa using h2
    match i, hi with
    | 0, _ => simp
    | 1, _ => simp
    | 2, _ => simp
    | 3, _ => simp
theorem le4_eq {l : List UInt8} (x : Nat) (hx : x < 4294967296) (b0 b1 b2 b3 : UInt8) (hl : l = [b0, b1, b2, b3]) : l = le 4 x ↔ x = b0.toNat + 256 * b1.toNat + 65536 * b2.toNat + 16777216 * b3.toNat := by
  rw [hl, le4_list]
  have h0 := b0.toNat_lt
  have h1 := b1.toNat_lt
  have h2 := b2.toNat_lt
  have h3 := b3.toNat_lt
  simp only [List.cons.injEq, and_true]
  rw [eq_comm, ofNat_eq, eq_comm (a := b1), ofNat_eq, eq_comm (a := b2), ofNat_eq, eq_comm (a := b3), ofNat_eq]
  omega
end Go.Lec
namespace Go.Proofs.Ytgilnjngphhhlaa
open Go.RowKit Go.Lec
/-- What the document's 'next' answers. -/
def NextPost (w : World) (B : Nat) (L : List UInt8) (s : Nat) (e : Ending) (w' : World) : Prop :=
  ((∃ (k : UInt8) (p : List UInt8) (E : Nat) (A : Option Addr) (c : Nat), pieces L s = (k, p, E) :: pieces L E ∧ e = .returned (.tuple #[.int .i64 (k.toNat : Int), .slice A p.length c, .int .i64 (E : Int)]) ∧ Rd w B A p.length (bcs p) ∧ p.length ≤ c ∧ p.length < 65536 ∧ s < E ∧ E ≤ L.length ∧ 1 ≤ k.toNat ∧ k.toNat ≤ 4) ∨
   (pieces L s = [] ∧ ∃ x, e = .returned (.tuple #[.int .i64 0, .slice none 0 0, x]))) ∧ Below w.heap.size w w'

set_option maxRecDepth 20000 in
set_option maxHeartbeats 4000000 in
theorem c_next (w : World) {B : Nat} {A : Option Addr} {N c : Nat} {L : List UInt8} (hr : Rd w B A N (bcs L)) (hB : B ≤ w.heap.size) (hNc : N ≤ c) (hN : N ≤ 1000000) (s : Nat) (hs : s ≤ N) :
    Calls Try.prog 16 #[.slice A N c, .int .i64 (s : Int)] w (NextPost w B L s) := by
  have hln := hr.1
  rw [bcs_length] at hln
  have Hln := Lib.hid hln; clear hln
  obtain ⟨q, hq⟩ : ∃ q, q = 512 - s % 512 := ⟨_, rfl⟩
  have hqi : (512 - (s : Int) % 512) = (q : Int) := by omega
  by_cases hsE : s = N
  · subst hsE
    have hno : pieces L s = [] := pieces_end (by rw [Hln.out]; exact Nat.le_refl _)
    have HNO := Lib.hid hno
    clear hno
    have HQ := Lib.hid hq
    clear hq
    by_cases h7 : q < 7
    · go_enter Try.func16, Try.ntmps16
      go_wp2
      go_loopw [4, 5, 6, 8] (fun _ _ _ i wr => w = wr ∧ i = .int .i64 (s : Int)) (fun _ _ _ _ _ => 0)
      case atStart => exact ⟨rfl, rfl⟩
      case round =>
        obtain ⟨rfl, rfl⟩ := hrel
        go_wp2
        refine bodyPost_ret (v := .tuple #[.int .i64 0, .slice none 0 0, .int .i64 (s : Int)]) (by simp [results, Try.results16, go_sem]) rfl ?_
        exact ⟨.inr ⟨HNO.out, _, rfl⟩, Below.refl _ _⟩
    · go_enter Try.func16, Try.ntmps16
      go_wp2
      refine bodyPost_ret (v := .tuple #[.int .i64 0, .slice none 0 0, .int .i64 (s : Int)]) (by simp [results, Try.results16, go_sem]) rfl ?_
      exact ⟨.inr ⟨HNO.out, _, rfl⟩, Below.refl _ _⟩
  have hlt : s < N := by omega
  obtain ⟨b, o, rfl, hbn, hcell⟩ := hr.byte hlt
  by_cases h7 : q < 7
  · have HQ := Lib.hid hq
    have hq2 : 0 < q ∧ q ≤ 512 := by omega
    have h7o : 512 - s % 512 < 7 := by omega
    have H7 := Lib.hid h7o
    clear hq h7o
    obtain ⟨s1, hs1⟩ : ∃ s1, s1 = s + q := ⟨_, rfl⟩
    have hs1i : (s : Int) + (q : Int) = (s1 : Int) := by omega
    have HS1 := Lib.hid hs1
    clear hs1
    have h7d : decide ((q : Int) < 7) = true := decide_eq_true (by omega)
    go_enter Try.func16, Try.ntmps16
    go_wp2
    go_loopw [4, 5, 6, 8] (fun _ _ _ i wr => w = wr ∧ ∃ j : Nat, j ≤ q ∧ i = .int .i64 ((s + j : Nat) : Int) ∧ s + j ≤ N ∧ Hid (∀ t, t < j → L.getD (s + t) 0 = 0)) (fun _ _ _ i _ => s1 - (intOf i).toNat)
    case atStart => exact ⟨rfl, 0, Nat.zero_le _, rfl, by omega, Lib.hid (fun t ht => absurd ht (Nat.not_lt_zero _))⟩
    case round =>
      obtain ⟨rfl, j, hj, rfl, hjN, hz⟩ := hrel
      by_cases hjq : j < q
      · by_cases hjn : s + j < N
        · have hjL : s + j < L.length := by rw [Hln.out]; exact hjn
          have hd := hcell (s + j) hjL
          clear hcell
          have hgd : L.getD (s + j) 0 = L[s + j] := by simp [List.getD_eq_getElem?_getD, hjL]
          obtain ⟨x, hx⟩ : ∃ x, x = L[s + j] := ⟨_, rfl⟩
          rw [← hx] at hd hgd
          clear hx
          by_cases hx0 : x = 0
          · subst hx0
            have HG := Lib.hid hgd
            clear hgd
            have hz0 : ((0 : UInt8).toNat : Int) = 0 := rfl
            go_wp2
            refine ⟨⟨trivial, j + 1, by omega, by go_num, by omega, Lib.hid (fun t ht => ?_)⟩, by have := HS1.out; simp only [intOf]; omega⟩
            by_cases htj : t = j
            · subst htj; exact HG.out
            · exact hz.out t (by omega)
          · have hxz : ((x.toNat : Int) != 0) = true := by
              have : x.toNat ≠ 0 := fun h => hx0 (UInt8.toNat_inj.1 h)
              simp; omega
            have HG := Lib.hid hgd
            clear hgd
            have hno : pieces L s = [] := pieces_padno (by rw [Hln.out]; exact hlt) H7.out (fun h => hx0 (by rw [← HG.out]; exact h.2 j (by rw [← HQ.out]; exact hjq)))
            have HNO := Lib.hid hno
            clear hno hx0
            go_wp2
            refine bodyPost_ret (v := .tuple #[.int .i64 0, .slice none 0 0, .int .i64 (s : Int)]) (by simp [results, Try.results16, go_sem]) rfl ?_
            exact ⟨.inr ⟨HNO.out, _, rfl⟩, Below.refl _ _⟩
        · have hno : pieces L s = [] := pieces_padno (by rw [Hln.out]; exact hlt) H7.out (fun h => by have := h.1; have := Hln.out; have := HQ.out; omega)
          have HNO := Lib.hid hno
          clear hno
          have hgt : (N : Int) < (s1 : Int) := by have := HS1.out; omega
          go_wp2
          refine bodyPost_ret (v := .tuple #[.int .i64 0, .slice none 0 0, .int .i64 (s : Int)]) (by simp [results, Try.results16, go_sem]) rfl ?_
          exact ⟨.inr ⟨HNO.out, _, rfl⟩, Below.refl _ _⟩
      · obtain rfl : j = q := by omega
        have hok : padOk L s := ⟨by rw [← HQ.out, Hln.out]; exact hjN, fun t ht => hz.out t (by rw [HQ.out]; exact ht)⟩
        have hpp := pieces_pad (by rw [Hln.out]; exact hlt) H7.out hok
        rw [← HQ.out, ← HS1.out] at hpp
        have HPP := Lib.hid hpp
        have hs1N : s1 ≤ N := by have := HS1.out; omega
        have hs1m : 512 = 512 - s1 % 512 := by have := HS1.out; have := HQ.out; omega
        have HQ := Lib.hid hs1m
        clear hpp hok hs1m
        by_cases hhd : N < s1 + 7
        · have hno : pieces L s1 = [] := pieces_headno (by have := HQ.out; omega) (fun h => by have := h.1; have := Hln.out; omega)
          have HNO := Lib.hid hno
          clear hno
          have hni : (N : Int) - (s1 : Int) < 7 := by omega
          go_wp2
          refine bodyPost_ret (v := .tuple #[.int .i64 0, .slice none 0 0, .int .i64 (s1 : Int)]) (by simp [results, Try.results16, go_sem]) rfl ?_
          exact ⟨.inr ⟨by rw [show pieces L s = pieces L s1 from HPP.out]; exact HNO.out, _, rfl⟩, Below.refl _ _⟩
        · have hni : ¬ (N : Int) - (s1 : Int) < 7 := by omega
          obtain ⟨x0, hx0⟩ : ∃ x, x = byteAt L (s1) := ⟨_, rfl⟩
          have hl0 := byteAt_lt L (s1)
          have hd0 := hcell (s1) (by rw [Hln.out]; omega)
          rw [← byteAt_get, ← hx0] at hd0
          rw [← hx0] at hl0
          obtain ⟨x1, hx1⟩ : ∃ x, x = byteAt L (s1 + 1) := ⟨_, rfl⟩
          have hl1 := byteAt_lt L (s1 + 1)
          have hd1 := hcell (s1 + 1) (by rw [Hln.out]; omega)
          rw [← byteAt_get, ← hx1] at hd1
          rw [← hx1] at hl1
          obtain ⟨x2, hx2⟩ : ∃ x, x = byteAt L (s1 + 2) := ⟨_, rfl⟩
          have hl2 := byteAt_lt L (s1 + 2)
          have hd2 := hcell (s1 + 2) (by rw [Hln.out]; omega)
          rw [← byteAt_get, ← hx2] at hd2
          rw [← hx2] at hl2
          obtain ⟨x3, hx3⟩ : ∃ x, x = byteAt L (s1 + 3) := ⟨_, rfl⟩
          have hl3 := byteAt_lt L (s1 + 3)
          have hd3 := hcell (s1 + 3) (by rw [Hln.out]; omega)
          rw [← byteAt_get, ← hx3] at hd3
          rw [← hx3] at hl3
          obtain ⟨x4, hx4⟩ : ∃ x, x = byteAt L (s1 + 4) := ⟨_, rfl⟩
          have hl4 := byteAt_lt L (s1 + 4)
          have hd4 := hcell (s1 + 4) (by rw [Hln.out]; omega)
          rw [← byteAt_get, ← hx4] at hd4
          rw [← hx4] at hl4
          obtain ⟨x5, hx5⟩ : ∃ x, x = byteAt L (s1 + 5) := ⟨_, rfl⟩
          have hl5 := byteAt_lt L (s1 + 5)
          have hd5 := hcell (s1 + 5) (by rw [Hln.out]; omega)
          rw [← byteAt_get, ← hx5] at hd5
          rw [← hx5] at hl5
          have hd6 := hcell (s1 + 6) (by rw [Hln.out]; omega)
          obtain ⟨kd, hkd⟩ : ∃ kd, kd = kindAt L s1 := ⟨_, rfl⟩
          have hk6 : L[s1 + 6]'(by rw [Hln.out]; omega) = kd := by rw [hkd]; simp [kindAt, List.getD_eq_getElem?_getD, show s1 + 6 < L.length by rw [Hln.out]; omega]
          rw [hk6] at hd6
          have hkl := kd.toNat_lt
          obtain ⟨m, hmm⟩ : ∃ m, m = lenAt L s1 := ⟨_, rfl⟩
          have hm : (x4 : Int) + 256 * (x5 : Int) = (m : Int) := by rw [hmm, lenAt, ← hx4, ← hx5]; omega
          have hml : m < 65536 := by rw [hmm]; exact lenAt_lt _ _
          have HM := Lib.hid hmm
          have HKD := Lib.hid hkd
          have HX := Lib.hid (And.intro hx0 (And.intro hx1 (And.intro hx2 hx3)))
          clear hmm hkd hk6 hcell hx0 hx1 hx2 hx3 hx4 hx5
          by_cases hc1 : m + 7 ≤ 512
          rotate_left
          · have hno : pieces L s1 = [] := pieces_headno (by have := HQ.out; omega) (fun h => hc1 (by have := h.2.1; have := HQ.out; have := HM.out; omega))
            have HNO := Lib.hid hno
            clear hno
            have g1 : decide ((512 : Int) - 7 < (m : Int)) = true := decide_eq_true (by omega)
            have g1' : (512 : Int) - 7 < (m : Int) := by omega
            go_wp2
            go_quiet (fail)
            go_wp2
            refine bodyPost_ret (v := .tuple #[.int .i64 0, .slice none 0 0, .int .i64 (s1 : Int)]) (by simp [results, Try.results16, go_sem]) rfl ?_
            exact ⟨.inr ⟨by rw [show pieces L s = pieces L s1 from HPP.out]; exact HNO.out, _, rfl⟩, belowN (Below.refl _ _) _⟩
          have g1 : decide ((512 : Int) - 7 < (m : Int)) = false := decide_eq_false (by omega)
          have g1' : ¬ (512 : Int) - 7 < (m : Int) := by omega
          by_cases hc2 : s1 + 7 + m ≤ N
          rotate_left
          · have hno : pieces L s1 = [] := pieces_headno (by have := HQ.out; omega) (fun h => hc2 (by have := h.2.2.1; rw [← HM.out, Hln.out] at this; exact this))
            have HNO := Lib.hid hno
            clear hno
            have g2 : decide ((N : Int) - (s1 : Int) - 7 < (m : Int)) = true := decide_eq_true (by omega)
            have g2' : (N : Int) - (s1 : Int) - 7 < (m : Int) := by omega
            go_wp2
            go_quiet (fail)
            go_wp2
            refine bodyPost_ret (v := .tuple #[.int .i64 0, .slice none 0 0, .int .i64 (s1 : Int)]) (by simp [results, Try.results16, go_sem]) rfl ?_
            exact ⟨.inr ⟨by rw [show pieces L s = pieces L s1 from HPP.out]; exact HNO.out, _, rfl⟩, belowN (Below.refl _ _) _⟩
          have g2 : decide ((N : Int) - (s1 : Int) - 7 < (m : Int)) = false := decide_eq_false (by omega)
          have g2' : ¬ (N : Int) - (s1 : Int) - 7 < (m : Int) := by omega
          by_cases hc3 : 1 ≤ kd.toNat
          rotate_left
          · have hno : pieces L s1 = [] := pieces_headno (by have := HQ.out; omega) (fun h => hc3 (by rw [HKD.out]; exact h.2.2.2.2.1))
            have HNO := Lib.hid hno
            clear hno
            have g3 : decide ((kd.toNat : Int) < 1) = true := decide_eq_true (by omega)
            go_wp2
            go_quiet (fail)
            go_wp2
            refine bodyPost_ret (v := .tuple #[.int .i64 0, .slice none 0 0, .int .i64 (s1 : Int)]) (by simp [results, Try.results16, go_sem]) rfl ?_
            exact ⟨.inr ⟨by rw [show pieces L s = pieces L s1 from HPP.out]; exact HNO.out, _, rfl⟩, belowN (Below.refl _ _) _⟩
          have g3 : decide ((kd.toNat : Int) < 1) = false := decide_eq_false (by omega)
          by_cases hc4 : kd.toNat ≤ 4
          rotate_left
          · have hno : pieces L s1 = [] := pieces_headno (by have := HQ.out; omega) (fun h => hc4 (by rw [HKD.out]; exact h.2.2.2.2.2))
            have HNO := Lib.hid hno
            clear hno
            have g4 : decide ((4 : Int) < (kd.toNat : Int)) = true := decide_eq_true (by omega)
            go_wp2
            go_quiet (fail)
            go_wp2
            refine bodyPost_ret (v := .tuple #[.int .i64 0, .slice none 0 0, .int .i64 (s1 : Int)]) (by simp [results, Try.results16, go_sem]) rfl ?_
            exact ⟨.inr ⟨by rw [show pieces L s = pieces L s1 from HPP.out]; exact HNO.out, _, rfl⟩, belowN (Below.refl _ _) _⟩
          have g4 : decide ((4 : Int) < (kd.toNat : Int)) = false := decide_eq_false (by omega)
          obtain ⟨AP, hcutP, hrP⟩ := run_cut2I slb hr hNc (s1 + 7) (s1 + 7 + m) (by omega) (by omega) .i64 .i64 ((s1 : Int) + 7) ((s1 : Int) + 7 + m) (by omega) (by omega)
          rw [show s1 + 7 + m - (s1 + 7) = m by omega] at hcutP hrP
          obtain ⟨py, hpy⟩ : ∃ py, py = payAt L s1 := ⟨_, rfl⟩
          have hpm : py.length = m := by rw [hpy, payAt_length (by rw [← HM.out, Hln.out]; exact hc2), ← HM.out]
          have hrP2 : Rd w B AP m (bcs py) := by
            rw [hpy, payAt, ← HM.out]
            rw [show bcs ((L.drop (s1 + 7)).take m) = ((bcs L).take (s1 + 7 + m)).drop (s1 + 7) by simp only [bcs, List.map_take, List.map_drop]; rw [List.drop_take, show s1 + 7 + m - (s1 + 7) = m by omega]]
            exact hrP
          have HPY := Lib.hid hpy
          have HPM := Lib.hid hpm
          clear hpy hrP hpm
          obtain ⟨X, hX⟩ : ∃ X, X = crcOf (kd :: py) := ⟨_, rfl⟩
          obtain ⟨M, hMx⟩ : ∃ M, M = maskOf X := ⟨_, rfl⟩
          have hMl := M.isLt
          have HS : ∀ W A' c', Rd W W.heap.size A' (m + 1) (bcs (kd :: py)) → Calls Try.prog 21 #[.slice A' (m + 1) c'] W fun e w' => e = .returned (.int .u32 (X.toNat : Int)) ∧ w' = W := by
            intro W A' c' h; rw [hX]; exact c_rSum W h (by omega)
          have HMk : ∀ W, Calls Try.prog 20 #[.int .u32 (X.toNat : Int)] W fun e w' => e = .returned (.int .u32 (M.toNat : Int)) ∧ w' = W := by
            intro W; rw [hMx]; exact c_rMask W X
          have HS := Lib.hid HS
          have HMk := Lib.hid HMk
          have HXX := Lib.hid hX
          have HMX := Lib.hid hMx
          clear hX hMx
          have hkw : IntKind.u8.wrap (kd.toNat : Int) = (kd.toNat : Int) := by rw [IntKind.wrap_u8]; omega
          obtain ⟨V, hV⟩ : ∃ V, V = x0 + 256 * x1 + 65536 * x2 + 16777216 * x3 := ⟨_, rfl⟩
          have hVi : (x0 : Int) + (x1 : Int) * 256 + (x2 : Int) * 65536 + (x3 : Int) * 16777216 = (V : Int) := by omega
          have hVl : V < 4294967296 := by omega
          have HV := Lib.hid hV
          clear hV
          have heq := le4_eq M.toNat hMl _ _ _ _ (take4 L s1 (by rw [Hln.out]; omega))
          have hw1 : IntKind.i64.wrap ((s1 : Int) + 1) = (s1 : Int) + 1 := IntWalk.i64_in _ (by omega)
          go_wp2_with fail
          go_quiet (fail)
          revert nq
          intro nq0
          go_wp2_with fail
          go_quiet (fail)
          obtain ⟨W1, hW1⟩ : ∃ W1, W1 = (w.drewN nq0).drewN nq := ⟨_, rfl⟩
          rw [← hW1]
          have hbW : Below w.heap.size w W1 := by rw [hW1]; exact belowN (belowN (Below.refl _ _) _) _
          clear hW1
          have hrW := hrP2.below hbW hB
          have hBW : B ≤ W1.heap.size := by have := hbW.size; omega
          have hx0' : (L[s1]'(by rw [Hln.out]; omega)).toNat = x0 := by rw [HX.out.1, byteAt_get (by rw [Hln.out]; omega)]
          have hx1' : (L[s1 + 1]'(by rw [Hln.out]; omega)).toNat = x1 := by rw [HX.out.2.1, byteAt_get (by rw [Hln.out]; omega)]
          have hx2' : (L[s1 + 2]'(by rw [Hln.out]; omega)).toNat = x2 := by rw [HX.out.2.2.1, byteAt_get (by rw [Hln.out]; omega)]
          have hx3' : (L[s1 + 3]'(by rw [Hln.out]; omega)).toNat = x3 := by rw [HX.out.2.2.2, byteAt_get (by rw [Hln.out]; omega)]
          rw [hx0', hx1', hx2', hx3', ← HV.out] at heq
          have Heq := Lib.hid heq
          clear heq hx0' hx1' hx2' hx3' hd0 hd1 hd2 hd3 hd4 hd5 hd6
          by_cases hE : M.toNat = V
          · have hne : ((M.toNat : Int) != (V : Int)) = false := by rw [hE]; simp
            have HE := Lib.hid hE
            clear hE
            go_wp2_with (first | (at_builtin; (refine wpList_app_sl rfl (.tmp 135) (.tmp 136) rfl slb (by decide) rfl (Own.lit W1 [.int .u8 (kd.toNat : Int)] (Nat.le_refl _) (by simp [maxLen])) ((Below.refl _ _).alloc (Nat.le_refl _) _) (by simp) rfl (hrW.alloc hBW _) bcs_one (by simp only [List.length_cons, List.length_nil]; omega) ?_); intro v1 w2 ho1 hb1 hs1; obtain ⟨A1, c1, rfl, hc1'⟩ := ho1.shapeN (n := m + 1) (by rw [List.length_append, List.length_singleton, bcs_length, HPM.out]; omega)) | (go_at_call 21; (with_reducible refine (HS.out _ _ _ ho1.rd).mono ?_); rintro e w3 ⟨rfl, rfl⟩) | (go_at_call 20; (with_reducible refine (HMk.out _).mono ?_); rintro e w4 ⟨rfl, rfl⟩))
            refine bodyPost_ret (v := .tuple #[.int .i64 (kd.toNat : Int), .slice AP m (c - (s1 + 7)), .int .i64 ((s1 : Int) + 7 + m)]) (by simp [results, Try.results16, go_sem]) rfl ?_
            have hok : headOk L s1 := ⟨by rw [Hln.out]; omega, by have := HQ.out; have := HM.out; omega, by rw [← HM.out, Hln.out]; exact hc2, by rw [← HKD.out, ← HPY.out, ← HXX.out, ← HMX.out]; exact Heq.out.2 HE.out, by rw [← HKD.out]; exact hc3, by rw [← HKD.out]; exact hc4⟩
            have hph := pieces_head (by rw [Hln.out]; omega) (by have := HQ.out; omega) hok
            rw [← HM.out, ← HKD.out, ← HPY.out] at hph
            exact ⟨.inl ⟨kd, py, s1 + 7 + m, AP, c - (s1 + 7), by rw [show pieces L s = pieces L s1 from HPP.out]; exact hph, by rw [HPM.out, show (((s1 + 7 + m : Nat)) : Int) = (s1 : Int) + 7 + m by omega], by rw [HPM.out]; exact hrP2, by rw [HPM.out]; omega, by rw [HPM.out]; omega, by omega, by rw [Hln.out]; exact hc2, hc3, hc4⟩, hbW.trans (hb1.mono hbW.size)⟩
          · have hne : ((M.toNat : Int) != (V : Int)) = true := by simp; omega
            have HE := Lib.hid hE
            clear hE
            go_wp2_with (first | (at_builtin; (refine wpList_app_sl rfl (.tmp 135) (.tmp 136) rfl slb (by decide) rfl (Own.lit W1 [.int .u8 (kd.toNat : Int)] (Nat.le_refl _) (by simp [maxLen])) ((Below.refl _ _).alloc (Nat.le_refl _) _) (by simp) rfl (hrW.alloc hBW _) bcs_one (by simp only [List.length_cons, List.length_nil]; omega) ?_); intro v1 w2 ho1 hb1 hs1; obtain ⟨A1, c1, rfl, hc1'⟩ := ho1.shapeN (n := m + 1) (by rw [List.length_append, List.length_singleton, bcs_length, HPM.out]; omega)) | (go_at_call 21; (with_reducible refine (HS.out _ _ _ ho1.rd).mono ?_); rintro e w3 ⟨rfl, rfl⟩) | (go_at_call 20; (with_reducible refine (HMk.out _).mono ?_); rintro e w4 ⟨rfl, rfl⟩))
            refine bodyPost_ret (v := .tuple #[.int .i64 0, .slice none 0 0, .int .i64 (s1 : Int)]) (by simp [results, Try.results16, go_sem]) rfl ?_
            have hno : pieces L s1 = [] := pieces_headno (by have := HQ.out; omega) (fun h => HE.out (Heq.out.1 (by have h4 := h.2.2.2.1; rw [← HKD.out, ← HPY.out, ← HXX.out, ← HMX.out] at h4; exact h4)))
            exact ⟨.inr ⟨by rw [show pieces L s = pieces L s1 from HPP.out]; exact hno, _, rfl⟩, hbW.trans (hb1.mono hbW.size)⟩
  · have HQ := Lib.hid hq
    have hq2 : 0 < q ∧ q ≤ 512 := by omega
    clear hq
    go_enter Try.func16, Try.ntmps16
    by_cases hhd : N < s + 7
    · have hno : pieces L s = [] := pieces_headno (by have := HQ.out; omega) (fun h => by have := h.1; have := Hln.out; omega)
      have HNO := Lib.hid hno
      clear hno
      have hni : (N : Int) - (s : Int) < 7 := by omega
      go_wp2
      refine bodyPost_ret (v := .tuple #[.int .i64 0, .slice none 0 0, .int .i64 (s : Int)]) (by simp [results, Try.results16, go_sem]) rfl ?_
      exact ⟨.inr ⟨by rw [show pieces L s = pieces L s from rfl]; exact HNO.out, _, rfl⟩, Below.refl _ _⟩
    · have hni : ¬ (N : Int) - (s : Int) < 7 := by omega
      obtain ⟨x0, hx0⟩ : ∃ x, x = byteAt L (s) := ⟨_, rfl⟩
      have hl0 := byteAt_lt L (s)
      have hd0 := hcell (s) (by rw [Hln.out]; omega)
      rw [← byteAt_get, ← hx0] at hd0
      rw [← hx0] at hl0
      obtain ⟨x1, hx1⟩ : ∃ x, x = byteAt L (s + 1) := ⟨_, rfl⟩
      have hl1 := byteAt_lt L (s + 1)
      have hd1 := hcell (s + 1) (by rw [Hln.out]; omega)
      rw [← byteAt_get, ← hx1] at hd1
      rw [← hx1] at hl1
      obtain ⟨x2, hx2⟩ : ∃ x, x = byteAt L (s + 2) := ⟨_, rfl⟩
      have hl2 := byteAt_lt L (s + 2)
      have hd2 := hcell (s + 2) (by rw [Hln.out]; omega)
      rw [← byteAt_get, ← hx2] at hd2
      rw [← hx2] at hl2
      obtain ⟨x3, hx3⟩ : ∃ x, x = byteAt L (s + 3) := ⟨_, rfl⟩
      have hl3 := byteAt_lt L (s + 3)
      have hd3 := hcell (s + 3) (by rw [Hln.out]; omega)
      rw [← byteAt_get, ← hx3] at hd3
      rw [← hx3] at hl3
      obtain ⟨x4, hx4⟩ : ∃ x, x = byteAt L (s + 4) := ⟨_, rfl⟩
      have hl4 := byteAt_lt L (s + 4)
      have hd4 := hcell (s + 4) (by rw [Hln.out]; omega)
      rw [← byteAt_get, ← hx4] at hd4
      rw [← hx4] at hl4
      obtain ⟨x5, hx5⟩ : ∃ x, x = byteAt L (s + 5) := ⟨_, rfl⟩
      have hl5 := byteAt_lt L (s + 5)
      have hd5 := hcell (s + 5) (by rw [Hln.out]; omega)
      rw [← byteAt_get, ← hx5] at hd5
      rw [← hx5] at hl5
      have hd6 := hcell (s + 6) (by rw [Hln.out]; omega)
      obtain ⟨kd, hkd⟩ : ∃ kd, kd = kindAt L s := ⟨_, rfl⟩
      have hk6 : L[s + 6]'(by rw [Hln.out]; omega) = kd := by rw [hkd]; simp [kindAt, List.getD_eq_getElem?_getD, show s + 6 < L.length by rw [Hln.out]; omega]
      rw [hk6] at hd6
      have hkl := kd.toNat_lt
      obtain ⟨m, hmm⟩ : ∃ m, m = lenAt L s := ⟨_, rfl⟩
      have hm : (x4 : Int) + 256 * (x5 : Int) = (m : Int) := by rw [hmm, lenAt, ← hx4, ← hx5]; omega
      have hml : m < 65536 := by rw [hmm]; exact lenAt_lt _ _
      have HM := Lib.hid hmm
      have HKD := Lib.hid hkd
      have HX := Lib.hid (And.intro hx0 (And.intro hx1 (And.intro hx2 hx3)))
      clear hmm hkd hk6 hcell hx0 hx1 hx2 hx3 hx4 hx5
      by_cases hc1 : m + 7 ≤ q
      rotate_left
      · have hno : pieces L s = [] := pieces_headno (by have := HQ.out; omega) (fun h => hc1 (by have := h.2.1; have := HQ.out; have := HM.out; omega))
        have HNO := Lib.hid hno
        clear hno
        have g1 : decide ((q : Int) - 7 < (m : Int)) = true := decide_eq_true (by omega)
        have g1' : (q : Int) - 7 < (m : Int) := by omega
        go_wp2
        go_quiet (fail)
        go_wp2
        refine bodyPost_ret (v := .tuple #[.int .i64 0, .slice none 0 0, .int .i64 (s : Int)]) (by simp [results, Try.results16, go_sem]) rfl ?_
        exact ⟨.inr ⟨by rw [show pieces L s = pieces L s from rfl]; exact HNO.out, _, rfl⟩, belowN (Below.refl _ _) _⟩
      have g1 : decide ((q : Int) - 7 < (m : Int)) = false := decide_eq_false (by omega)
      have g1' : ¬ (q : Int) - 7 < (m : Int) := by omega
      by_cases hc2 : s + 7 + m ≤ N
      rotate_left
      · have hno : pieces L s = [] := pieces_headno (by have := HQ.out; omega) (fun h => hc2 (by have := h.2.2.1; rw [← HM.out, Hln.out] at this; exact this))
        have HNO := Lib.hid hno
        clear hno
        have g2 : decide ((N : Int) - (s : Int) - 7 < (m : Int)) = true := decide_eq_true (by omega)
        have g2' : (N : Int) - (s : Int) - 7 < (m : Int) := by omega
        go_wp2
        go_quiet (fail)
        go_wp2
        refine bodyPost_ret (v := .tuple #[.int .i64 0, .slice none 0 0, .int .i64 (s : Int)]) (by simp [results, Try.results16, go_sem]) rfl ?_
        exact ⟨.inr ⟨by rw [show pieces L s = pieces L s from rfl]; exact HNO.out, _, rfl⟩, belowN (Below.refl _ _) _⟩
      have g2 : decide ((N : Int) - (s : Int) - 7 < (m : Int)) = false := decide_eq_false (by omega)
      have g2' : ¬ (N : Int) - (s : Int) - 7 < (m : Int) := by omega
      by_cases hc3 : 1 ≤ kd.toNat
      rotate_left
      · have hno : pieces L s = [] := pieces_headno (by have := HQ.out; omega) (fun h => hc3 (by rw [HKD.out]; exact h.2.2.2.2.1))
        have HNO := Lib.hid hno
        clear hno
        have g3 : decide ((kd.toNat : Int) < 1) = true := decide_eq_true (by omega)
        go_wp2
        go_quiet (fail)
        go_wp2
        refine bodyPost_ret (v := .tuple #[.int .i64 0, .slice none 0 0, .int .i64 (s : Int)]) (by simp [results, Try.results16, go_sem]) rfl ?_
        exact ⟨.inr ⟨by rw [show pieces L s = pieces L s from rfl]; exact HNO.out, _, rfl⟩, belowN (Below.refl _ _) _⟩
      have g3 : decide ((kd.toNat : Int) < 1) = false := decide_eq_false (by omega)
      by_cases hc4 : kd.toNat ≤ 4
      rotate_left
      · have hno : pieces L s = [] := pieces_headno (by have := HQ.out; omega) (fun h => hc4 (by rw [HKD.out]; exact h.2.2.2.2.2))
        have HNO := Lib.hid hno
        clear hno
        have g4 : decide ((4 : Int) < (kd.toNat : Int)) = true := decide_eq_true (by omega)
        go_wp2
        go_quiet (fail)
        go_wp2
        refine bodyPost_ret (v := .tuple #[.int .i64 0, .slice none 0 0, .int .i64 (s : Int)]) (by simp [results, Try.results16, go_sem]) rfl ?_
        exact ⟨.inr ⟨by rw [show pieces L s = pieces L s from rfl]; exact HNO.out, _, rfl⟩, belowN (Below.refl _ _) _⟩
      have g4 : decide ((4 : Int) < (kd.toNat : Int)) = false := decide_eq_false (by omega)
      obtain ⟨AP, hcutP, hrP⟩ := run_cut2I slb hr hNc (s + 7) (s + 7 + m) (by omega) (by omega) .i64 .i64 ((s : Int) + 7) ((s : Int) + 7 + m) (by omega) (by omega)
      rw [show s + 7 + m - (s + 7) = m by omega] at hcutP hrP
      obtain ⟨py, hpy⟩ : ∃ py, py = payAt L s := ⟨_, rfl⟩
      have hpm : py.length = m := by rw [hpy, payAt_length (by rw [← HM.out, Hln.out]; exact hc2), ← HM.out]
      have hrP2 : Rd w B AP m (bcs py) := by
        rw [hpy, payAt, ← HM.out]
        rw [show bcs ((L.drop (s + 7)).take m) = ((bcs L).take (s + 7 + m)).drop (s + 7) by simp only [bcs, List.map_take, List.map_drop]; rw [List.drop_take, show s + 7 + m - (s + 7) = m by omega]]
        exact hrP
      have HPY := Lib.hid hpy
      have HPM := Lib.hid hpm
      clear hpy hrP hpm
      obtain ⟨X, hX⟩ : ∃ X, X = crcOf (kd :: py) := ⟨_, rfl⟩
      obtain ⟨M, hMx⟩ : ∃ M, M = maskOf X := ⟨_, rfl⟩
      have hMl := M.isLt
      have HS : ∀ W A' c', Rd W W.heap.size A' (m + 1) (bcs (kd :: py)) → Calls Try.prog 21 #[.slice A' (m + 1) c'] W fun e w' => e = .returned (.int .u32 (X.toNat : Int)) ∧ w' = W := by
        intro W A' c' h; rw [hX]; exact c_rSum W h (by omega)
      have HMk : ∀ W, Calls Try.prog 20 #[.int .u32 (X.toNat : Int)] W fun e w' => e = .returned (.int .u32 (M.toNat : Int)) ∧ w' = W := by
        intro W; rw [hMx]; exact c_rMask W X
      have HS := Lib.hid HS
      have HMk := Lib.hid HMk
      have HXX := Lib.hid hX
      have HMX := Lib.hid hMx
      clear hX hMx
      have hkw : IntKind.u8.wrap (kd.toNat : Int) = (kd.toNat : Int) := by rw [IntKind.wrap_u8]; omega
      obtain ⟨V, hV⟩ : ∃ V, V = x0 + 256 * x1 + 65536 * x2 + 16777216 * x3 := ⟨_, rfl⟩
      have hVi : (x0 : Int) + (x1 : Int) * 256 + (x2 : Int) * 65536 + (x3 : Int) * 16777216 = (V : Int) := by omega
      have hVl : V < 4294967296 := by omega
      have HV := Lib.hid hV
      clear hV
      have heq := le4_eq M.toNat hMl _ _ _ _ (take4 L s (by rw [Hln.out]; omega))
      have hw1 : IntKind.i64.wrap ((s : Int) + 1) = (s : Int) + 1 := IntWalk.i64_in _ (by omega)
      go_wp2_with fail
      go_quiet (fail)
      revert nq
      intro nq0
      go_wp2_with fail
      go_quiet (fail)
      obtain ⟨W1, hW1⟩ : ∃ W1, W1 = (w.drewN nq0).drewN nq := ⟨_, rfl⟩
      rw [← hW1]
      have hbW : Below w.heap.size w W1 := by rw [hW1]; exact belowN (belowN (Below.refl _ _) _) _
      clear hW1
      have hrW := hrP2.below hbW hB
      have hBW : B ≤ W1.heap.size := by have := hbW.size; omega
      have hx0' : (L[s]'(by rw [Hln.out]; omega)).toNat = x0 := by rw [HX.out.1, byteAt_get (by rw [Hln.out]; omega)]
      have hx1' : (L[s + 1]'(by rw [Hln.out]; omega)).toNat = x1 := by rw [HX.out.2.1, byteAt_get (by rw [Hln.out]; omega)]
      have hx2' : (L[s + 2]'(by rw [Hln.out]; omega)).toNat = x2 := by rw [HX.out.2.2.1, byteAt_get (by rw [Hln.out]; omega)]
      have hx3' : (L[s + 3]'(by rw [Hln.out]; omega)).toNat = x3 := by rw [HX.out.2.2.2, byteAt_get (by rw [Hln.out]; omega)]
      rw [hx0', hx1', hx2', hx3', ← HV.out] at heq
      have Heq := Lib.hid heq
      clear heq hx0' hx1' hx2' hx3' hd0 hd1 hd2 hd3 hd4 hd5 hd6
      by_cases hE : M.toNat = V
      · have hne : ((M.toNat : Int) != (V : Int)) = false := by rw [hE]; simp
        have HE := Lib.hid hE
        clear hE
        go_wp2_with (first | (at_builtin; (refine wpList_app_sl rfl (.tmp 135) (.tmp 136) rfl slb (by decide) rfl (Own.lit W1 [.int .u8 (kd.toNat : Int)] (Nat.le_refl _) (by simp [maxLen])) ((Below.refl _ _).alloc (Nat.le_refl _) _) (by simp) rfl (hrW.alloc hBW _) bcs_one (by simp only [List.length_cons, List.length_nil]; omega) ?_); intro v1 w2 ho1 hb1 hs1; obtain ⟨A1, c1, rfl, hc1'⟩ := ho1.shapeN (n := m + 1) (by rw [List.length_append, List.length_singleton, bcs_length, HPM.out]; omega)) | (go_at_call 21; (with_reducible refine (HS.out _ _ _ ho1.rd).mono ?_); rintro e w3 ⟨rfl, rfl⟩) | (go_at_call 20; (with_reducible refine (HMk.out _).mono ?_); rintro e w4 ⟨rfl, rfl⟩))
        refine bodyPost_ret (v := .tuple #[.int .i64 (kd.toNat : Int), .slice AP m (c - (s + 7)), .int .i64 ((s : Int) + 7 + m)]) (by simp [results, Try.results16, go_sem]) rfl ?_
        have hok : headOk L s := ⟨by rw [Hln.out]; omega, by have := HQ.out; have := HM.out; omega, by rw [← HM.out, Hln.out]; exact hc2, by rw [← HKD.out, ← HPY.out, ← HXX.out, ← HMX.out]; exact Heq.out.2 HE.out, by rw [← HKD.out]; exact hc3, by rw [← HKD.out]; exact hc4⟩
        have hph := pieces_head (by rw [Hln.out]; omega) (by have := HQ.out; omega) hok
        rw [← HM.out, ← HKD.out, ← HPY.out] at hph
        exact ⟨.inl ⟨kd, py, s + 7 + m, AP, c - (s + 7), by rw [show pieces L s = pieces L s from rfl]; exact hph, by rw [HPM.out, show (((s + 7 + m : Nat)) : Int) = (s : Int) + 7 + m by omega], by rw [HPM.out]; exact hrP2, by rw [HPM.out]; omega, by rw [HPM.out]; omega, by omega, by rw [Hln.out]; exact hc2, hc3, hc4⟩, hbW.trans (hb1.mono hbW.size)⟩
      · have hne : ((M.toNat : Int) != (V : Int)) = true := by simp; omega
        have HE := Lib.hid hE
        clear hE
        go_wp2_with (first | (at_builtin; (refine wpList_app_sl rfl (.tmp 135) (.tmp 136) rfl slb (by decide) rfl (Own.lit W1 [.int .u8 (kd.toNat : Int)] (Nat.le_refl _) (by simp [maxLen])) ((Below.refl _ _).alloc (Nat.le_refl _) _) (by simp) rfl (hrW.alloc hBW _) bcs_one (by simp only [List.length_cons, List.length_nil]; omega) ?_); intro v1 w2 ho1 hb1 hs1; obtain ⟨A1, c1, rfl, hc1'⟩ := ho1.shapeN (n := m + 1) (by rw [List.length_append, List.length_singleton, bcs_length, HPM.out]; omega)) | (go_at_call 21; (with_reducible refine (HS.out _ _ _ ho1.rd).mono ?_); rintro e w3 ⟨rfl, rfl⟩) | (go_at_call 20; (with_reducible refine (HMk.out _).mono ?_); rintro e w4 ⟨rfl, rfl⟩))
        refine bodyPost_ret (v := .tuple #[.int .i64 0, .slice none 0 0, .int .i64 (s : Int)]) (by simp [results, Try.results16, go_sem]) rfl ?_
        have hno : pieces L s = [] := pieces_headno (by have := HQ.out; omega) (fun h => HE.out (Heq.out.1 (by have h4 := h.2.2.2.1; rw [← HKD.out, ← HPY.out, ← HXX.out, ← HMX.out] at h4; exact h4)))
        exact ⟨.inr ⟨by rw [show pieces L s = pieces L s from rfl]; exact hno, _, rfl⟩, hbW.trans (hb1.mono hbW.size)⟩
end Go.Proofs.Ytgilnjngphhhlaa
