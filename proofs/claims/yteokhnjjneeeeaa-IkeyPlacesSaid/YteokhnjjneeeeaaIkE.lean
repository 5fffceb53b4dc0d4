/- Layer 16: the walks that read an escape: the program's (which panics) and the reference's. -/
import Derived.Test.YteokhnjjneeeeaaIkD
namespace Go.Proofs.Yteokhnjjneeeeaa
open Go.RowKit Go.Lec

theorem byte_one (c : UInt8) : ((c.toNat : Int) == 1) = decide (c = 1) := byte_eq c 1
theorem byte_255 (c : UInt8) : ((c.toNat : Int) == 255) = decide (c = 255) := byte_eq c 255
theorem byte_nz (c : UInt8) : ((c.toNat : Int) != 0) = !decide (c = 0) := by rw [← byte_zero]; rfl
theorem byte_n1 (c : UInt8) : ((c.toNat : Int) != 1) = !decide (c = 1) := by rw [← byte_one]; rfl
theorem byte_n255 (c : UInt8) : ((c.toNat : Int) != 255) = !decide (c = 255) := by rw [← byte_255]; rfl

/-- What the program throws where bytes are no key. -/
def failVal (e : Int) : Value := .iface 62 (.agg #[.int .i64 e])
/-- The program's reading of an escape: it answers, or throws. -/
def UnPost (w : World) (l : List UInt8) (e : Ending) (w' : World) : Prop :=
  (∃ s k v, unesc l = some (s, k) ∧ e = .returned (.tuple #[v, .int .i64 (k : Nat)]) ∧ Own w' w.heap.size 5 v (bcs s) ∧ Below w.heap.size w w') ∨
  (unesc l = none ∧ e = .panicked [{ v := failVal 160, recovered := false }] ∧ Below w.heap.size w w')

theorem c_must_ok (b : Bool) (err : Int) (w : World) (h : b = true) : Calls Try.prog 38 #[.bool b, .int .i64 err] w fun e w' => e = .returned (.tuple #[]) ∧ w = w' := by
  subst h
  go_enter Try.func38, Try.ntmps38
  go_wp2
  go_end0
  exact ⟨rfl, rfl⟩
theorem c_must_no (b : Bool) (err : Int) (w : World) (h : b = false) : Calls Try.prog 38 #[.bool b, .int .i64 err] w fun e w' => e = .panicked [{ v := failVal err, recovered := false }] ∧ w = w' := by
  subst h
  go_enter Try.func38, Try.ntmps38
  go_wp2
  exact ⟨rfl, rfl, rfl⟩

set_option maxHeartbeats 1600000 in
theorem c_unescape (w : World) {B : Nat} {A : Option Addr} {n c : Nat} {l : List UInt8} (hr : Rd w B A n (bcs l)) (hB : B ≤ w.heap.size) (hn : n ≤ 1099511627) :
    Calls Try.prog 34 #[.slice A n c] w (UnPost w l) := by
  go_enter Try.func34, Try.ntmps34
  go_wp2
  go_loopw [4, 5] (fun v i wr => ∃ (k : Nat) (acc : List UInt8), acc.length ≤ k ∧ k ≤ n ∧ i = .int .i64 k ∧ UnInv l acc k ∧ Own wr w.heap.size 5 v (bcs acc) ∧ Below w.heap.size w wr) (fun _ i _ => n - (intOf i).toNat)
  case atStart => exact ⟨0, [], Nat.zero_le _, Nat.zero_le _, rfl, UnInv.start l, Own.nil_ _ _ _, Below.refl _ _⟩
  case round =>
    obtain ⟨k, acc, hak, hk, rfl, hinv, hown, hb⟩ := hrel
    have hln := hr.1
    rw [bcs_length] at hln
    by_cases hlt : k < n
    · have hkl : k < l.length := by omega
      obtain ⟨b, o, rfl, hbB, hcell⟩ := (hr.below hb hB).byte hlt
      have hc := hcell k hkl
      by_cases h0 : l[k] = 0
      · have hz : ((l[k].toNat : Int) != 0) = false := by rw [byte_nz]; simpa using h0
        by_cases hlt1 : k + 1 < n
        · have hkl1 : k + 1 < l.length := by omega
          have hc1 : wr.cell? ⟨b, o + (k + 1), none⟩ = some (.int .u8 (l[k + 1].toNat : Int)) := hcell (k + 1) hkl1
          clear hcell
          have hi1 : (k : Int) + 1 < n := by omega
          by_cases h1 : l[k + 1] = 1
          · have hz1 : ((l[k + 1].toNat : Int) == 1) = true := by rw [byte_one]; simpa using h1
            have hfin := hinv.z1 hkl1 h0 h1
            have Hfin := Lib.hid hfin
            clear hfin hinv h0 h1 hln hr
            go_wp2_with (first | (go_at_call 38; refine (c_must_ok _ _ _ ?_).mono ?_; (first | rfl | (simp; done) | (simp; omega) | (simp [*]; done)); rintro e w' ⟨rfl, rfl⟩))
            go_ret2
            exact .inl ⟨_, _, _, Hfin.out, rfl, hown, hb⟩
          · have hz1 : ((l[k + 1].toNat : Int) == 1) = false := by rw [byte_one]; simpa using h1
            by_cases h2 : l[k + 1] = 255
            · have hz2 : ((l[k + 1].toNat : Int) == 255) = true := by rw [byte_255]; simpa using h2
              have Hinv := Lib.hid (hinv.z255 hkl1 h0 h2)
              clear hinv h0 h1 h2 hln
              go_wp2_with (first | (go_at_call 38; refine (c_must_ok _ _ _ ?_).mono ?_; (first | rfl | (simp; done) | (simp; omega) | (simp [*]; done)); rintro e w' ⟨rfl, rfl⟩) | (at_builtin; (refine wpList_app_lit rfl _ _ rfl slb (by decide) rfl hown hb hb.size [.int .u8 0] rfl (by simp [Value.oneCell']) (by simp only [bcs_length, List.length_cons, List.length_nil]; omega) ?_); intro v1 w1 hown1 hb1 hs1))
              go_roundw
              case rel => exact ⟨k + 2, acc ++ [0], by simp; omega, by omega, by go_num, Hinv.out, by rw [bcs_append]; exact hown1, hb1⟩
              case measure => simp [intOf]; omega
            · have hz2 : ((l[k + 1].toNat : Int) == 255) = false := by rw [byte_255]; simpa using h2
              have Hfin := Lib.hid (hinv.z_bad hkl1 h0 h1 h2)
              clear hinv h0 h1 h2 hln
              go_wp2_with (first | (go_at_call 38; refine (c_must_ok _ _ _ ?_).mono ?_; (first | rfl | (simp; done) | (simp; omega) | (simp [*]; done)); rintro e w' ⟨rfl, rfl⟩) | (go_at_call 38; refine (c_must_no _ _ _ ?_).mono ?_; (first | rfl | (simp; done) | (simp; omega) | (simp [*]; done)); rintro e w' ⟨rfl, rfl⟩))
              exact ⟨rfl, .inr ⟨Hfin.out, rfl, hb⟩⟩
        · have Hfin := Lib.hid (hinv.z_end hkl h0 (by omega))
          have hi1 : ¬ ((k : Int) + 1 < n) := by omega
          clear hinv h0 hln hcell
          go_wp2_with (first | (go_at_call 38; refine (c_must_ok _ _ _ ?_).mono ?_; (first | rfl | (simp; done) | (simp; omega) | (simp [*]; done)); rintro e w' ⟨rfl, rfl⟩) | (go_at_call 38; refine (c_must_no _ _ _ ?_).mono ?_; (first | rfl | (simp; done) | (simp; omega) | (simp [*]; done)); rintro e w' ⟨rfl, rfl⟩))
          exact ⟨rfl, .inr ⟨Hfin.out, rfl, hb⟩⟩
      · have hz : ((l[k].toNat : Int) != 0) = true := by rw [byte_nz]; simpa using h0
        have Hinv := Lib.hid (hinv.nz hkl h0)
        clear hinv h0 hln hcell
        go_wp2_with (first | (go_at_call 38; refine (c_must_ok _ _ _ ?_).mono ?_; (first | rfl | (simp; done) | (simp; omega) | (simp [*]; done)); rintro e w' ⟨rfl, rfl⟩) | (at_builtin; (refine wpList_app_lit rfl _ _ rfl slb (by decide) rfl hown hb hb.size [.int .u8 (l[k].toNat : Int)] rfl (by simp [Value.oneCell']) (by simp only [bcs_length, List.length_cons, List.length_nil]; omega) ?_); intro v1 w1 hown1 hb1 hs1))
        go_roundw
        case rel => exact ⟨k + 1, acc ++ [l[k]], by simp; omega, by omega, by go_num, Hinv.out, by rw [bcs_append]; exact hown1, hb1⟩
        case measure => simp [intOf]; omega
    · have hfin := hinv.end_ (by omega)
      have Hfin := Lib.hid hfin
      clear hfin hinv hln
      go_wp2_with (first | (go_at_call 38; refine (c_must_no _ _ _ ?_).mono ?_; (first | rfl | (simp; done) | (simp; omega) | (simp [*]; done)); rintro e w' ⟨rfl, rfl⟩))
      exact ⟨rfl, .inr ⟨Hfin.out, rfl, hb⟩⟩

/-- Three results: bytes of the call's own, a number, an error. -/
def RUnPost (w : World) (l : List UInt8) (e : Ending) (w' : World) : Prop :=
  (∃ s k v, unesc l = some (s, k) ∧ e = .returned (.tuple #[v, .int .i64 (k : Nat), .int .i64 0]) ∧ Own w' w.heap.size 5 v (bcs s) ∧ Below w.heap.size w w') ∨
  (unesc l = none ∧ e = .returned (.tuple #[.slice none 0 0, .int .i64 0, .int .i64 160]) ∧ Below w.heap.size w w')

set_option maxHeartbeats 1600000 in
theorem c_rUnescape (w : World) {B : Nat} {A : Option Addr} {n c : Nat} {l : List UInt8} (hr : Rd w B A n (bcs l)) (hB : B ≤ w.heap.size) (hn : n ≤ 1099511627) :
    Calls Try.prog 16 #[.slice A n c] w (RUnPost w l) := by
  go_enter Try.func16, Try.ntmps16
  go_wp2
  go_loopw [5, 6] (fun v i wr => ∃ (k : Nat) (acc : List UInt8), acc.length ≤ k ∧ k ≤ n ∧ i = .int .i64 k ∧ UnInv l acc k ∧ Own wr w.heap.size 5 v (bcs acc) ∧ Below w.heap.size w wr) (fun _ i _ => n - (intOf i).toNat)
  case atStart => exact ⟨0, [], Nat.zero_le _, Nat.zero_le _, rfl, UnInv.start l, Own.nil_ _ _ _, Below.refl _ _⟩
  case round =>
    obtain ⟨k, acc, hak, hk, rfl, hinv, hown, hb⟩ := hrel
    have hln := hr.1
    rw [bcs_length] at hln
    by_cases hlt : k < n
    · have hkl : k < l.length := by omega
      obtain ⟨b, o, rfl, hbB, hcell⟩ := (hr.below hb hB).byte hlt
      have hc := hcell k hkl
      by_cases h0 : l[k] = 0
      · have hz : ((l[k].toNat : Int) != 0) = false := by rw [byte_nz]; simpa using h0
        by_cases hlt1 : k + 1 < n
        · have hkl1 : k + 1 < l.length := by omega
          have hc1 : wr.cell? ⟨b, o + (k + 1), none⟩ = some (.int .u8 (l[k + 1].toNat : Int)) := hcell (k + 1) hkl1
          clear hcell
          have hi1 : ¬ ((n : Int) ≤ (k : Int) + 1) := by omega
          by_cases h1 : l[k + 1] = 1
          · have hz1 : ((l[k + 1].toNat : Int) == 1) = true := by rw [byte_one]; simpa using h1
            have hz1' : ((l[k + 1].toNat : Int) != 1) = false := by rw [byte_n1]; simpa using h1
            have hz2' : ((l[k + 1].toNat : Int) != 255) = true := by rw [byte_n255, h1]; rfl
            have Hfin := Lib.hid (hinv.z1 hkl1 h0 h1)
            clear hinv h0 h1 hln hr
            go_wp2
            go_ret3
            exact .inl ⟨_, _, _, Hfin.out, rfl, hown, hb⟩
          · have hz1 : ((l[k + 1].toNat : Int) == 1) = false := by rw [byte_one]; simpa using h1
            have hz1' : ((l[k + 1].toNat : Int) != 1) = true := by rw [byte_n1]; simpa using h1
            by_cases h2 : l[k + 1] = 255
            · have hz2 : ((l[k + 1].toNat : Int) != 255) = false := by rw [byte_n255]; simpa using h2
              have Hinv := Lib.hid (hinv.z255 hkl1 h0 h2)
              clear hinv h0 h1 h2 hln
              go_wp2_with (first | (at_builtin; (refine wpList_app_lit rfl _ _ rfl slb (by decide) rfl hown hb hb.size [.int .u8 0] rfl (by simp [Value.oneCell']) (by simp only [bcs_length, List.length_cons, List.length_nil]; omega) ?_); intro v1 w1 hown1 hb1 hs1))
              go_roundw
              case rel => exact ⟨k + 2, acc ++ [0], by simp; omega, by omega, by go_num, Hinv.out, by rw [bcs_append]; exact hown1, hb1⟩
              case measure => simp [intOf]; omega
            · have hz2 : ((l[k + 1].toNat : Int) != 255) = true := by rw [byte_n255]; simpa using h2
              have Hfin := Lib.hid (hinv.z_bad hkl1 h0 h1 h2)
              clear hinv h0 h1 h2 hln
              go_wp2
              go_ret3
              exact .inr ⟨Hfin.out, rfl, hb⟩
        · have Hfin := Lib.hid (hinv.z_end hkl h0 (by omega))
          have hi1 : (n : Int) ≤ (k : Int) + 1 := by omega
          clear hinv h0 hln hcell
          go_wp2
          go_ret3
          exact .inr ⟨Hfin.out, rfl, hb⟩
      · have hz : ((l[k].toNat : Int) != 0) = true := by rw [byte_nz]; simpa using h0
        have Hinv := Lib.hid (hinv.nz hkl h0)
        clear hinv h0 hln hcell
        go_wp2_with (first | (at_builtin; (refine wpList_app_lit rfl _ _ rfl slb (by decide) rfl hown hb hb.size [.int .u8 (l[k].toNat : Int)] rfl (by simp [Value.oneCell']) (by simp only [bcs_length, List.length_cons, List.length_nil]; omega) ?_); intro v1 w1 hown1 hb1 hs1))
        go_roundw
        case rel => exact ⟨k + 1, acc ++ [l[k]], by simp; omega, by omega, by go_num, Hinv.out, by rw [bcs_append]; exact hown1, hb1⟩
        case measure => simp [intOf]; omega
    · have Hfin := Lib.hid (hinv.end_ (by omega))
      clear hinv hln
      go_wp2
      go_ret3
      exact .inr ⟨Hfin.out, rfl, hb⟩
end Go.Proofs.Yteokhnjjneeeeaa
