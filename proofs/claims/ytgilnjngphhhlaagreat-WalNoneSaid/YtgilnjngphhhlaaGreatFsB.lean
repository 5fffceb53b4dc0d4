/- Layer 1: numbers among numbers; twins of plans: the walks. -/
import Derived.Test.YtgilnjngphhhlaaGreatFsA
namespace Go.Lec
open Go.RowKit Go.Fsy
theorem take_has {l : List Int} {k : Nat} (hk : k < l.length) (v : Int) : (l.take (k + 1)).contains v = ((l.take k).contains v || (v == l[k])) := by
  rw [List.take_succ_eq_append_getElem hk, List.contains_eq_any_beq, List.contains_eq_any_beq, List.any_append]
  simp
theorem Rd.int {w : World} {B n k : Nat} {A : Option Addr} {l : List Int} (h : Rd w B A n (ics l)) (hk : k < n) : ∃ b o, A = some ⟨b, o, none⟩ ∧ b < B ∧ w.cell? ⟨b, o + k, none⟩ = some (.int .i64 (l.getD k 0)) := by
  obtain ⟨b, o, e, hb, hc⟩ := h.2 (by omega)
  have hkl : k < l.length := by have := h.1; rw [ics_length] at this; omega
  refine ⟨b, o, e, hb, hc k _ ?_⟩
  rw [List.getD_eq_getElem?_getD, List.getElem?_eq_getElem hkl]
  simp [ics, hkl]
theorem ics_one {l : List Int} : ∀ u ∈ ics l, u.oneCell' = true := by
  intro u hu
  obtain ⟨x, _, rfl⟩ := List.mem_map.1 hu
  rfl
end Go.Lec
namespace Go.Proofs.YtgilnjngphhhlaaGreat
open Go.RowKit Go.Lec Go.Fsy Go.Op
def IdxP (w : World) (l : List Int) (v : Int) (e : Ending) (w' : World) : Prop := ∃ r : Int, e = .returned (.int .i64 r) ∧ decide (0 ≤ r) = l.contains v ∧ -1 ≤ r ∧ w = w'
set_option maxRecDepth 40000 in
set_option maxHeartbeats 800000 in
theorem c_Index (w : World) {B n c : Nat} {A : Option Addr} {l : List Int} (v : Int) (hr : Rd w B A n (ics l)) (hn : n ≤ 1099511627776) :
    Calls Tryz.prog 64 #[.slice A n c, .int .i64 v] w (IdxP w l v) := by
  have hln : l.length = n := by have := hr.1; rwa [ics_length] at this
  have Hln := Lib.hid hln
  clear hln
  go_enter Tryz.func64, Tryz.ntmps64
  go_wp2
  go_loop [8] (fun i => ∃ k : Nat, k ≤ n ∧ i = .int .i64 (k : Int) ∧ Hid ((l.take k).contains v = false)) (fun i => n - (intOf i).toNat)
  case atStart => exact ⟨0, Nat.zero_le _, rfl, Lib.hid (by simp)⟩
  case round =>
    obtain ⟨k, hk, rfl, HC⟩ := hrel
    by_cases hlt : k < n
    · obtain ⟨b, o, rfl, _, q⟩ := hr.int hlt
      have hkl : k < l.length := by rw [Hln.out]; exact hlt
      have hgd : l.getD k 0 = l[k] := by rw [List.getD_eq_getElem?_getD, List.getElem?_eq_getElem hkl]; rfl
      rw [hgd] at q
      have hth := take_has hkl v
      rw [HC.out, Bool.false_or] at hth
      have hki : (k : Int) < (n : Int) := by omega
      have hk0 : (0 : Int) ≤ (k : Int) := by omega
      obtain ⟨x, hx⟩ : ∃ x, x = l[k] := ⟨_, rfl⟩
      rw [← hx] at q hth
      cases he : (v == x) with
      | true =>
        have hall : l.contains v = true := by
          have hm : v = x := by simpa using he
          rw [List.contains_iff_mem, hm, hx]
          exact List.getElem_mem hkl
        have HA := Lib.hid hall
        clear hth hx hall hgd
        go_wp2
        go_ret
        exact ⟨_, rfl, by rw [HA.out]; exact decide_eq_true (by omega), by omega, rfl⟩
      | false =>
        rw [he] at hth
        have HT := Lib.hid hth
        clear hth hx hgd
        go_wp2
        go_round
        case rel => exact ⟨k + 1, by omega, by go_num, HT⟩
        case measure => simp [intOf]; omega
    · obtain rfl : k = n := by omega
      have hall := HC.out
      rw [List.take_of_length_le (by rw [Hln.out]; exact Nat.le_refl _)] at hall
      have HA := Lib.hid hall
      clear hall
      go_wp2
      go_ret
      exact ⟨-1, rfl, by rw [HA.out]; rfl, by omega, rfl⟩
set_option maxRecDepth 40000 in
theorem c_Contains (w : World) {B n c : Nat} {A : Option Addr} {l : List Int} (v : Int) (hr : Rd w B A n (ics l)) (hn : n ≤ 1099511627776) :
    Calls Tryz.prog 56 #[.slice A n c, .int .i64 v] w fun e w' => e = .returned (.bool (l.contains v)) ∧ w = w' := by
  obtain ⟨r0, hr0⟩ : ∃ x, x = l.contains v := ⟨_, rfl⟩
  rw [← hr0]
  have Hr0 := Lib.hid hr0
  clear hr0
  have HI := Lib.hid (c_Index w (c := c) v hr hn)
  go_enter Tryz.func56, Tryz.ntmps56
  go_wp2_with (first | (go_at_call 64; refine HI.out.mono ?_; rintro e w1 ⟨r, rfl, hd, hr1, rfl⟩; have HD := Lib.hid hd; clear hd))
  go_ret
  refine ⟨?_, rfl⟩
  rw [Hr0.out, ← HD.out]
  rfl
set_option maxRecDepth 40000 in
set_option maxHeartbeats 400000 in
theorem c_CloneN (w : World) {B : Nat} {A : Option Addr} {n c : Nat} {l : List Int} (hr : Rd w B A n (ics l)) (hB : B ≤ w.heap.size) (hn : n ≤ 1099511627776) :
    Calls Tryz.prog 44 #[.slice A n c] w fun e w' => ∃ A' c', e = .returned (.slice A' n c') ∧ n ≤ c' ∧ RdP (fun b => w.heap.size ≤ b) w' A' n (ics l) ∧ Below w.heap.size w w' := by
  have hk := Lib.run_eql_slice_nil (P := Tryz.prog) w 42 3 A n c 0 0 Tryz.underlying42
  have hln := hr.1
  rw [ics_length] at hln
  have Hln := Lib.hid hln; clear hln
  go_enter Tryz.func44, Tryz.ntmps44
  cases A with
  | none =>
    have h0 : n = 0 := by
      rcases Nat.eq_zero_or_pos n with h | h
      · exact h
      · obtain ⟨b, o, e, _⟩ := hr.2 h; cases e
    subst h0
    obtain rfl : l = [] := List.eq_nil_of_length_eq_zero Hln.out
    go_wp2
    go_ret
    exact ⟨_, _, rfl, Nat.le_refl _, RdP.nil_, Below.refl _ _⟩
  | some a =>
    go_wp2_with (first
      | (at_builtin; (refine wpList_app_rd (m := n) rfl _ _ rfl sln rfl (Lec.Own.lit w [] (Nat.le_refl _) (by simp)) rfl (hr.alloc hB _) ics_one (by simp; omega) (by decide) (by simp) ?_); intro v2 w2 ho2 hb2 hg2))
    rw [List.nil_append] at ho2
    obtain ⟨A2, c2, rfl, hc2⟩ := ho2.shapeN (n := n) (by rw [ics_length, Hln.out])
    go_ret
    refine ⟨_, _, rfl, hc2, RdP.new_ (e := 3) (c := c2) ?_, ?_⟩
    · have := ho2
      unfold Lec.Own at this
      rwa [ics_length, Hln.out] at this
    · exact ((Below.refl _ _).alloc (Nat.le_refl _) _).trans hb2
/-- A plan by value. -/
def plV (p : Pl) (AK : Option Addr) (cK : Nat) (AF : Option Addr) (cF : Nat) (AU : Option Addr) (cU : Nat) : Value :=
  .agg #[.int .i64 p.crash, .slice AK p.keep.length cK, .slice AF p.fail.length cF, .slice AU p.full.length cU, .int .i64 p.room]
/-- A plan's three lists, as they lie. -/
structure PlOk (I : Nat → Prop) (w : World) (p : Pl) (AK : Option Addr) (cK : Nat) (AF : Option Addr) (cF : Nat) (AU : Option Addr) (cU : Nat) : Prop where
  rk : RdP I w AK p.keep.length (ics p.keep)
  rf : RdP I w AF p.fail.length (ics p.fail)
  ru : RdP I w AU p.full.length (ics p.full)
  nk : p.keep.length ≤ cK
  nf : p.fail.length ≤ cF
  nu : p.full.length ≤ cU
end Go.Proofs.YtgilnjngphhhlaaGreat
