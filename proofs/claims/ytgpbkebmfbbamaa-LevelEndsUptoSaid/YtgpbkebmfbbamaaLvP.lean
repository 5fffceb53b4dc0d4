/- Layer 24: limits and sizes, the program's and the reference's; the reference's check; whether a state is small. -/
import Derived.Test.YtgpbkebmfbbamaaLvI
namespace Go.Lec
open Go.RowKit
/-- A level's limit, by rounds. -/
def limR (fa : Int) : Nat → Int → Int
  | 0, n => n
  | k + 1, n => if n > 1099511627776 / fa then 1099511627776 else limR fa k (n * fa)
/-- A level's limit. -/
def limOf (b fa : Int) (lv : Nat) : Int := limR fa (lv - 1) b
theorem limR_rng {fa : Int} (hf : 2 ≤ fa) : ∀ (k : Nat) (n : Int), 1 ≤ n → n ≤ 1099511627776 → 1 ≤ limR fa k n ∧ limR fa k n ≤ 1099511627776
  | 0, n, h1, h2 => ⟨h1, h2⟩
  | k + 1, n, h1, h2 => by
    unfold limR
    split
    · omega
    · rename_i h
      have h3 : n ≤ 1099511627776 / fa := by omega
      have h4 : n * fa ≤ 1099511627776 := by
        have := (Int.le_ediv_iff_mul_le (by omega : 0 < fa)).1 h3
        exact this
      have h5 : 1 ≤ n * fa := by
        have := Int.mul_le_mul h1 (by omega : (1 : Int) ≤ fa) (by omega) (by omega)
        omega
      exact limR_rng hf k _ h5 h4
end Go.Lec
namespace Go.Proofs.Ytgpbkebmfbbamaa
open Go.RowKit Go.Lec

set_option maxHeartbeats 1600000 in
theorem c_Limit (w : World) {f b fa fi : Int} (h : okPlan f b fa fi) (lv : Nat) (h1 : 1 ≤ lv) (h6 : lv ≤ 6) :
    Calls Try.prog 45 #[.agg #[.int .i64 f, .int .i64 b, .int .i64 fa, .int .i64 fi], .int .i64 lv] w fun e w' => e = .returned (.int .i64 (limOf b fa lv)) ∧ Below w.heap.size w w' := by
  obtain ⟨_, ⟨h3, h4⟩, ⟨h5, h6'⟩, _⟩ := h
  have HP := Bk.new_ w 28 #[.int .i64 f, .int .i64 b, .int .i64 fa, .int .i64 fi]
  have hk := HP.cell
  have hb0 : Below w.heap.size w (w.alloc (.cells #[.int .i64 f, .int .i64 b, .int .i64 fa, .int .i64 fi] 28)) := (Below.refl _ _).alloc (Nat.le_refl _) _
  have i1 : ¬ (lv : Int) < 1 := by omega
  have i2 : (lv : Int) < 7 := by omega
  have i3 : ¬ (1099511627776 : Int) < b := by omega
  have i4 : (0 : Int) < fa := by omega
  have i5 : IntKind.i64.wrap ((lv : Int) - 1) = ((lv - 1 : Nat) : Int) := by rw [IntWalk.i64_in _ (by omega)]; omega
  have hne : fa ≠ 0 := by omega
  go_enter Try.func45, Try.ntmps45
  go_wp2
  go_loop [5, 17] (fun s i => ∃ (k : Nat) (x : Int), k ≤ lv - 1 ∧ i = .int .i64 k ∧ s = .int .i64 x ∧ 1 ≤ x ∧ x ≤ 1099511627776 ∧ limR fa (lv - 1 - k) x = limOf b fa lv) (fun _ i => lv - 1 - (intOf i).toNat)
  case atStart => exact ⟨0, b, by omega, rfl, rfl, by omega, by omega, rfl⟩
  case round =>
    obtain ⟨k, x, hk1, rfl, rfl, hx1, hx2, hlim⟩ := hrel
    by_cases hlt : k < lv - 1
    · obtain ⟨d, hd⟩ : ∃ d, lv - 1 - k = d + 1 := ⟨lv - 1 - k - 1, by omega⟩
      rw [hd] at hlim
      unfold limR at hlim
      obtain ⟨q, hq⟩ : ∃ q, q = 1099511627776 / fa := ⟨_, rfl⟩
      have hq0 : 0 ≤ q := by rw [hq]; exact Int.ediv_nonneg (by omega) (by omega)
      have hq1 : q ≤ 1099511627776 := by rw [hq]; exact Int.ediv_le_self _ (by omega)
      have hdv : wrap64 (1099511627776 / fa) = 1099511627776 / fa := by rw [← hq]; unfold wrap64; omega
      rw [← hq] at hlim
      have hki : (k : Int) < ((lv - 1 : Nat) : Int) := by omega
      by_cases hg : x > q
      · rw [if_pos hg] at hlim
        have hgi : 1099511627776 / fa < x := by rw [← hq]; exact hg
        have Hlim := Lib.hid hlim
        clear hlim hg hq
        go_wp2
        go_ret
        exact ⟨by rw [← Hlim.out]; rfl, hb0⟩
      · rw [if_neg hg] at hlim
        have h3 : x * fa ≤ 1099511627776 := (Int.le_ediv_iff_mul_le (by omega : 0 < fa)).1 (by omega)
        have h4 : 1 ≤ x * fa := by
          have := Int.mul_le_mul hx1 (by omega : (1 : Int) ≤ fa) (by omega) (by omega)
          omega
        have hw : IntKind.i64.wrap (x * fa) = x * fa := IntWalk.i64_in _ (by omega)
        have hgi : x ≤ 1099511627776 / fa := by rw [← hq]; omega
        have Hlim := Lib.hid hlim
        have Hq := Lib.hid hq
        clear hlim hq hg
        go_wp2
        go_round
        case rel => exact ⟨k + 1, x * fa, by omega, by go_num, rfl, h4, h3, by rw [show lv - 1 - (k + 1) = d by omega]; exact Hlim.out⟩
        case measure => simp [intOf]; omega
    · obtain rfl : k = lv - 1 := by omega
      rw [Nat.sub_self] at hlim
      have Hlim := Lib.hid hlim
      clear hlim
      go_wp2
      go_ret
      exact ⟨by rw [← Hlim.out]; rfl, hb0⟩
set_option maxHeartbeats 1600000 in
theorem c_rLimit (w : World) {f b fa fi : Int} (h : okPlan f b fa fi) (lv : Nat) (h1 : 1 ≤ lv) (h6 : lv ≤ 6) :
    Calls Try.prog 12 #[.agg #[.int .i64 f, .int .i64 b, .int .i64 fa, .int .i64 fi], .int .i64 lv] w fun e w' => e = .returned (.int .i64 (limOf b fa lv)) ∧ Below w.heap.size w w' := by
  obtain ⟨_, ⟨h3, h4⟩, ⟨h5, h6'⟩, _⟩ := h
  have HP := Bk.new_ w 28 #[.int .i64 f, .int .i64 b, .int .i64 fa, .int .i64 fi]
  have hk := HP.cell
  have hb0 : Below w.heap.size w (w.alloc (.cells #[.int .i64 f, .int .i64 b, .int .i64 fa, .int .i64 fi] 28)) := (Below.refl _ _).alloc (Nat.le_refl _) _
  have i1 : ¬ (lv : Int) < 1 := by omega
  have i2 : ¬ (6 : Int) < (lv : Int) := by omega
  have i4 : (0 : Int) < fa := by omega
  have hne : fa ≠ 0 := by omega
  go_enter Try.func12, Try.ntmps12
  go_wp2
  go_loop [5, 6] (fun s i => ∃ (k : Nat) (x : Int), 1 ≤ k ∧ k ≤ lv ∧ i = .int .i64 k ∧ s = .int .i64 x ∧ 1 ≤ x ∧ x ≤ 1099511627776 ∧ limR fa (lv - k) x = limOf b fa lv) (fun _ i => lv - (intOf i).toNat)
  case atStart => exact ⟨1, b, by omega, by omega, rfl, rfl, by omega, by omega, rfl⟩
  case round =>
    obtain ⟨k, x, hk0, hk1, rfl, rfl, hx1, hx2, hlim⟩ := hrel
    by_cases hlt : k < lv
    · obtain ⟨d, hd⟩ : ∃ d, lv - k = d + 1 := ⟨lv - k - 1, by omega⟩
      rw [hd] at hlim
      unfold limR at hlim
      obtain ⟨q, hq⟩ : ∃ q, q = 1099511627776 / fa := ⟨_, rfl⟩
      have hq0 : 0 ≤ q := by rw [hq]; exact Int.ediv_nonneg (by omega) (by omega)
      have hq1 : q ≤ 1099511627776 := by rw [hq]; exact Int.ediv_le_self _ (by omega)
      have hq2 : q < 1099511627776 := by
        have : q * fa ≤ 1099511627776 := (Int.le_ediv_iff_mul_le (by omega : 0 < fa)).1 (by omega)
        have h7 : q * 2 ≤ q * fa := Int.mul_le_mul_of_nonneg_left h5 hq0
        omega
      have hdv : wrap64 (1099511627776 / fa) = 1099511627776 / fa := by rw [← hq]; unfold wrap64; omega
      rw [← hq] at hlim
      have hki : (k : Int) < (lv : Int) := by omega
      by_cases hg : x > q
      · rw [if_pos hg] at hlim
        have hgi : 1099511627776 / fa < x := by rw [← hq]; exact hg
        have Hlim := Lib.hid hlim
        clear hlim hg hq
        by_cases hm : (1099511627776 : Int) ≤ x
        · go_wp2
          go_ret
          exact ⟨by rw [← Hlim.out]; rfl, hb0⟩
        · have hm' : x < 1099511627776 := by omega
          clear hm
          go_wp2
          go_ret
          exact ⟨by rw [← Hlim.out]; rfl, hb0⟩
      · rw [if_neg hg] at hlim
        have h3 : x * fa ≤ 1099511627776 := (Int.le_ediv_iff_mul_le (by omega : 0 < fa)).1 (by omega)
        have h4 : 1 ≤ x * fa := by
          have := Int.mul_le_mul hx1 (by omega : (1 : Int) ≤ fa) (by omega) (by omega)
          omega
        have hw : IntKind.i64.wrap (x * fa) = x * fa := IntWalk.i64_in _ (by omega)
        have hgi : x ≤ 1099511627776 / fa := by rw [← hq]; omega
        have hm' : x < 1099511627776 := by omega
        have Hlim := Lib.hid hlim
        have Hq := Lib.hid hq
        clear hlim hq hg
        go_wp2
        go_round
        case rel => exact ⟨k + 1, x * fa, by omega, by omega, by go_num, rfl, h4, h3, by rw [show lv - (k + 1) = d by omega]; exact Hlim.out⟩
        case measure => simp [intOf]; omega
    · obtain rfl : k = lv := by omega
      rw [Nat.sub_self] at hlim
      have Hlim := Lib.hid hlim
      have hm' : ¬ (1099511627776 : Int) < x := by omega
      clear hlim
      go_wp2
      go_ret
      exact ⟨by rw [← Hlim.out]; rfl, hb0⟩

set_option maxHeartbeats 1600000 in
theorem c_rSize (w : World) {B : Nat} {A : Option Addr} {n c : Nat} {L : List Mt} (hr : Mts w B A n L) (hB : B ≤ w.heap.size) (hn : n ≤ 1099511627776) :
    Calls Try.prog 11 #[.slice A n c] w fun e w' => e = .returned (.int .i64 (mtSize L)) ∧ Below w.heap.size w w' := by
  have hln := hr.len
  have Hln := Lib.hid hln; clear hln
  go_enter Try.func11, Try.ntmps11
  go_wp2
  go_loopw [3, 8] (fun s i wr => ∃ k : Nat, k ≤ n ∧ i = .int .i64 k ∧ s = .int .i64 (mtSize (L.take k)) ∧ Below w.heap.size w wr) (fun _ i _ => n - (intOf i).toNat)
  case atStart => exact ⟨0, by omega, rfl, rfl, Below.refl _ _⟩
  case round =>
    obtain ⟨k, hk, rfl, rfl, hb⟩ := hrel
    by_cases hlt : k < n
    · obtain ⟨b, o, m, rfl, hbB, hm, htk, hok, hcell⟩ := hr.cell5 hlt
      obtain ⟨h0, h1, h2, h3, h4⟩ := hcell wr (hb.mono hB)
      have hrg := mtSize_rng (L.take k)
      have hsn := mtSize_snoc (L.take k) m
      rw [← htk] at hsn
      have hlt' : b < wr.heap.size := by have := hb.size; omega
      have hk' := (Bk.new_ wr 44 #[.int .i64 m.num, .int .i64 m.size, .int .i64 m.cnt, .slice m.A1 m.n1 m.c1, .slice m.A2 m.n2 m.c2]).cell
      have hfull : mtSize (L.take (k + 1)) = 1152921504606846976 → mtSize L = 1152921504606846976 := by
        intro hf
        have key : ∀ (l : List Mt) (x : Int), x = 1152921504606846976 → l.foldl (fun n m => n + min (max m.size 0) (1152921504606846976 - n)) x = 1152921504606846976 := by
          intro l
          induction l with
          | nil => intro x hx; exact hx
          | cons y l ih => intro x hx; rw [List.foldl_cons]; exact ih _ (by omega)
        have e : L = L.take (k + 1) ++ L.drop (k + 1) := (List.take_append_drop _ _).symm
        rw [e]
        unfold mtSize at hf ⊢
        rw [List.foldl_append]
        exact key _ _ hf
      have Hfull := Lib.hid hfull
      have Hsn := Lib.hid hsn
      clear hm htk hok hcell hsn hfull
      generalize mtSize (L.take k) = s at *
      obtain ⟨z, hz⟩ : ∃ z, z = m.size := ⟨_, rfl⟩
      rw [← hz] at h1 hk' Hsn
      by_cases hneg : z < 0
      · have hv : mtSize (L.take (k + 1)) = s := by rw [Hsn.out]; omega
        have Hv := Lib.hid hv
        clear hv hz
        go_wp2
        go_roundw
        case rel => exact ⟨k + 1, by omega, by go_num, by rw [Hv.out], hb.alloc hb.size _⟩
        case measure => simp [intOf]; omega
      · have hneg' : ¬ z < 0 := hneg
        by_cases hbig : 1152921504606846976 - s < z
        · have hv : mtSize L = 1152921504606846976 := Hfull.out (by rw [Hsn.out]; omega)
          have Hv := Lib.hid hv
          have hw : IntKind.i64.wrap (1152921504606846976 - s) = 1152921504606846976 - s := IntWalk.i64_in _ (by omega)
          clear hv hz
          go_wp2
          go_ret
          exact ⟨by rw [Hv.out]; rfl, hb.alloc hb.size _⟩
        · have hv : mtSize (L.take (k + 1)) = s + z := by rw [Hsn.out]; omega
          have Hv := Lib.hid hv
          have hw : IntKind.i64.wrap (1152921504606846976 - s) = 1152921504606846976 - s := IntWalk.i64_in _ (by omega)
          have hw2 : IntKind.i64.wrap (s + z) = s + z := IntWalk.i64_in _ (by omega)
          clear hv hz
          go_wp2
          go_roundw
          case rel => exact ⟨k + 1, by omega, by go_num, by rw [Hv.out], hb.alloc hb.size _⟩
          case measure => simp [intOf]; omega
    · obtain rfl : k = n := by omega
      rw [List.take_of_length_le (by rw [Hln.out]; exact Nat.le_refl _)]
      go_wp2
      go_ret
      exact ⟨rfl, hb⟩
end Go.Proofs.Ytgpbkebmfbbamaa
