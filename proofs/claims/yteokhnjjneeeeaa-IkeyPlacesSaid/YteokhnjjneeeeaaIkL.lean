/- Layer 16: keys that are alike are said to be alike. -/
import Derived.Test.YteokhnjjneeeeaaIkK
namespace Go.Proofs.Yteokhnjjneeeeaa
open Go.RowKit Go.Lec

theorem c_sign_same (n : Int) (w : World) : Calls Try.prog 40 #[.int .i64 n, .int .i64 n] w fun e w' => e = .returned (.int .i64 0) ∧ w' = w := by
  go_enter Try.func40, Try.ntmps40
  go_wp2
  all_goals go_ret
  all_goals exact ⟨rfl, rfl⟩
theorem c_texts_same (l : List UInt8) (w : World) : Calls Try.prog 41 #[.string ⟨l.toArray⟩, .string ⟨l.toArray⟩] w fun e w' => e = .returned (.int .i64 0) ∧ w' = w := by
  have h1 : Op.bytesLess l l = false := by
    induction l with
    | nil => rfl
    | cons c l ih => simp [Op.bytesLess, ih]
  go_enter Try.func41, Try.ntmps41
  go_wp2
  all_goals go_ret
  all_goals exact ⟨rfl, rfl⟩

/-- A number is answered; what was there before is as it was. -/
def RetB0 (v : Value) (w : World) (e : Ending) (w' : World) : Prop := e = .returned v ∧ Below w.heap.size w w'

set_option maxHeartbeats 1600000 in
theorem c_Compare_same (w : World) (q sq kd : Int) {B : Nat} {A A' : Option Addr} {n c n' c' : Nat} {l t : List UInt8} (hr : Rd w B A n (bcs l)) (hr' : Rd w B A' n' (bcs l)) (hB : B ≤ w.heap.size) :
    Calls Try.prog 39 #[.agg #[.int .i64 q, .slice A n c, .int .i64 sq, .int .i64 kd, .string ⟨t.toArray⟩], .agg #[.int .i64 q, .slice A' n' c', .int .i64 sq, .int .i64 kd, .string ⟨t.toArray⟩]] w (RetB0 (.int .i64 0) w) := by
  have hconv := run_str (P := Try.prog) Try.underlying22 Try.underlying5 Try.underlying9 (c := c) (((hr.alloc hB (.cells #[.int .i64 q, .slice A n c, .int .i64 sq, .int .i64 kd, .string ⟨t.toArray⟩] 24)).alloc (by simp; omega) (.cells #[.int .i64 q, .slice A' n' c', .int .i64 sq, .int .i64 kd, .string ⟨t.toArray⟩] 24)).drew)
  have hconv' := run_str (P := Try.prog) Try.underlying22 Try.underlying5 Try.underlying9 (c := c') (((hr'.alloc hB (.cells #[.int .i64 q, .slice A n c, .int .i64 sq, .int .i64 kd, .string ⟨t.toArray⟩] 24)).alloc (by simp; omega) (.cells #[.int .i64 q, .slice A' n' c', .int .i64 sq, .int .i64 kd, .string ⟨t.toArray⟩] 24)).drew)
  go_enter Try.func39, Try.ntmps39
  go_wp2_with fail
  refine wp_region_still_tail 27 (by kernel_rfl) (by kernel_rfl) ?_
  simp only [List.take_succ_cons, List.take_zero, List.drop_succ_cons, List.drop_zero]
  change wpStill _ _ (World.drew _) _ _ _
  repeat (first | still_step | still_call (c_sign_same _ _) | still_call (c_texts_same _ _))
  refine wpStill_nil ?_
  change wpList _ _ _ _ _ (World.drew _)
  clear hconv hconv'
  go_wp2_with fail
  obtain ⟨W, hW⟩ : ∃ x, x = (((w.alloc (.cells #[.int .i64 q, .slice A n c, .int .i64 sq, .int .i64 kd, .string ⟨t.toArray⟩] 24)).alloc (.cells #[.int .i64 q, .slice A' n' c', .int .i64 sq, .int .i64 kd, .string ⟨t.toArray⟩] 24)).alloc (.cells #[.int .i64 0, .int .i64 0, .int .i64 0, .int .i64 0, .int .i64 0] 3)).drew := ⟨_, rfl⟩
  rw [← hW]
  have h3 := Bk.new3 w 24 #[.int .i64 q, .slice A n c, .int .i64 sq, .int .i64 kd, .string ⟨t.toArray⟩] 24 #[.int .i64 q, .slice A' n' c', .int .i64 sq, .int .i64 kd, .string ⟨t.toArray⟩] 3 #[.int .i64 0, .int .i64 0, .int .i64 0, .int .i64 0, .int .i64 0]
  have hK : Bk W (w.heap.size + 1 + 1) 3 #[.int .i64 0, .int .i64 0, .int .i64 0, .int .i64 0, .int .i64 0] := by rw [hW]; exact h3.2.2.1
  have hb : Below w.heap.size w W := by rw [hW]; exact h3.2.2.2.2.drew
  have hk : ∀ i, i < 5 → W.cell? ⟨w.heap.size + 1 + 1, i, none⟩ = some (.int .i64 0) := fun i hi => by
    rw [hK.cell i]
    match i, hi with
    | 0, _ => rfl
    | 1, _ => rfl
    | 2, _ => rfl
    | 3, _ => rfl
    | 4, _ => rfl
  clear hW h3
  go_loop [6] (fun i => ∃ k : Nat, k ≤ 5 ∧ i = .int .i64 k) (fun i => 5 - (intOf i).toNat)
  case atStart => exact ⟨0, by omega, rfl⟩
  case round =>
    obtain ⟨k, hk5, rfl⟩ := hrel
    by_cases hlt : k < 5
    · have hc := hk k hlt
      clear hk
      go_wp2
      go_round
      case rel => exact ⟨k + 1, by omega, by go_num⟩
      case measure => simp [intOf]; omega
    · clear hk
      go_wp2
      go_ret
      exact ⟨rfl, hb⟩

theorem c_Same_same (w : World) (q sq kd : Int) {B : Nat} {A A' : Option Addr} {n c n' c' : Nat} {l t : List UInt8} (hr : Rd w B A n (bcs l)) (hr' : Rd w B A' n' (bcs l)) (hB : B ≤ w.heap.size) :
    Calls Try.prog 32 #[.agg #[.int .i64 q, .slice A n c, .int .i64 sq, .int .i64 kd, .string ⟨t.toArray⟩], .agg #[.int .i64 q, .slice A' n' c', .int .i64 sq, .int .i64 kd, .string ⟨t.toArray⟩]] w (RetB0 (.bool true) w) := by
  go_enter Try.func32, Try.ntmps32
  go_wp2_with fail
  refine (c_Compare_same _ q sq kd ((hr.alloc hB _).alloc (by simp; omega) _) ((hr'.alloc hB _).alloc (by simp; omega) _) (by simp; omega)).mono ?_
  rintro e w1 ⟨rfl, hb⟩
  go_wp2
  go_ret
  exact ⟨rfl, (((Below.refl _ _).alloc (Nat.le_refl _) _).alloc (by simp) _).trans (hb.mono (by simp; omega))⟩

theorem c_same (w : World) (q sq kd : Int) {B : Nat} {A A' : Option Addr} {n c n' c' : Nat} {l t : List UInt8} (hr : Rd w B A n (bcs l)) (hr' : Rd w B A' n' (bcs l)) (hB : B ≤ w.heap.size) :
    Calls Try.prog 13 #[.agg #[.int .i64 q, .slice A n c, .int .i64 sq, .int .i64 kd, .string ⟨t.toArray⟩], .agg #[.int .i64 q, .slice A' n' c', .int .i64 sq, .int .i64 kd, .string ⟨t.toArray⟩]] w (RetB0 (.bool true) w) := by
  go_enter Try.func13, Try.ntmps13
  go_wp2_with fail
  refine (c_Same_same _ q sq kd ((hr.alloc hB _).alloc (by simp; omega) _) ((hr'.alloc hB _).alloc (by simp; omega) _) (by simp; omega)).mono ?_
  rintro e w1 ⟨rfl, hb⟩
  go_wp2
  go_ret
  exact ⟨rfl, (((Below.refl _ _).alloc (Nat.le_refl _) _).alloc (by simp) _).trans (hb.mono (by simp; omega))⟩

theorem c_few (w : World) (q sq kd : Int) {A : Option Addr} {n c : Nat} {t : List UInt8} :
    Calls Try.prog 7 #[.agg #[.int .i64 q, .slice A n c, .int .i64 sq, .int .i64 kd, .string ⟨t.toArray⟩]] w (RetB0 (.bool (decide (n ≤ 3000) && decide (t.length ≤ 3000))) w) := by
  have hb := (Below.refl w.heap.size w).alloc (Nat.le_refl _) (.cells #[.int .i64 q, .slice A n c, .int .i64 sq, .int .i64 kd, .string ⟨t.toArray⟩] 24)
  by_cases h1 : n ≤ 3000
  · by_cases h2 : t.length ≤ 3000
    · rw [show (decide (n ≤ 3000) && decide (t.length ≤ 3000)) = true from by simp [h1, h2]]
      go_enter Try.func7, Try.ntmps7
      go_wp2
      go_ret
      exact ⟨by first | (simp; done) | (simp; omega), hb⟩
    · rw [show (decide (n ≤ 3000) && decide (t.length ≤ 3000)) = false from by simp [h2]]
      go_enter Try.func7, Try.ntmps7
      go_wp2
      go_ret
      exact ⟨by first | (simp; done) | (simp; omega), hb⟩
  · rw [show (decide (n ≤ 3000) && decide (t.length ≤ 3000)) = false from by simp [h1]]
    go_enter Try.func7, Try.ntmps7
    go_wp2
    go_ret
    exact ⟨by first | (simp; done) | (simp; omega), hb⟩

/-- What Split answers of bytes that are a key. -/
def SplitPost (w : World) (K : Key) (e : Ending) (w' : World) : Prop :=
  ∃ p, e = .returned (.tuple #[p, .int .i64 K.sq, .int .i64 K.kd, .int .i64 (preE K.ep K.srt)]) ∧ Own w' w.heap.size 5 p (bcs (preB K.ep K.srt)) ∧ Below w.heap.size w w'

set_option maxHeartbeats 800000 in
theorem c_Split (w : World) {B : Nat} {A : Option Addr} {n c : Nat} {l : List UInt8} {K : Key} (hr : Rd w B A n (bcs l)) (hB : B ≤ w.heap.size) (hc : n ≤ c) (hn : n ≤ 1099511627) (hd : dec l = .ok K) (hs : K.srt.length ≤ 1099511627) :
    Calls Try.prog 11 #[.slice A n c] w (SplitPost w K) := by
  have Hd := Lib.hid hd; clear hd
  go_enter Try.func11, Try.ntmps11
  go_wp2_with fail
  refine (c_Decode w hr hB hc hn).mono ?_
  rintro e w1 (⟨K', v, hu, rfl, hown, hb⟩ | ⟨err, hu, rfl, hb⟩)
  · rw [Hd.out] at hu
    cases hu
    obtain ⟨Av, cv, rfl, _⟩ := hown.shape
    have hrv := hown.rd
    unfold keyVal
    go_wp2_with fail
    refine (c_Prefix _ K.ep (hrv.alloc (Nat.le_refl _) _) (by simp) (by rw [bcs_length]; exact hs)).mono ?_
    rintro e w2 ⟨p, rfl, hown2, hb2⟩
    obtain ⟨Ap, cp, rfl, _⟩ := hown2.shape
    rw [World.size_alloc] at hown2 hb2
    have hK := ((Bk.new_ w1 24 #[.int .i64 K.ep, .slice Av (bcs K.srt).length cv, .int .i64 K.sq, .int .i64 K.kd, .string ⟨K.txt.toArray⟩]).below hb2 (Nat.lt_succ_self _)).cell
    generalize hpe : preE K.ep K.srt = pe at *
    generalize hpb : preB K.ep K.srt = pb at *
    have Hpe := Lib.hid hpe; clear hpe
    have Hpb := Lib.hid hpb; clear hpb
    go_wp2_with fail
    go_quiet (fail)
    go_wp2
    refine bodyPost_ret (v := .tuple #[.slice Ap (bcs pb).length cp, .int .i64 K.sq, .int .i64 K.kd, .int .i64 pe]) ?_ rfl ?_
    · simp [results, Try.results11, go_sem]
    · have hbs := hb.size
      have ho2 : Own w2 w.heap.size 5 (.slice Ap (bcs pb).length cp) (bcs pb) := hown2.mono (by omega)
      unfold SplitPost
      rw [Hpe.out, Hpb.out]
      exact ⟨_, rfl, ho2.drewN _, Below.drewN' (hb.trans (((Below.refl _ _).alloc hb.size _).trans (hb2.mono (by have := hb.size; omega)))) _⟩
  · rw [Hd.out] at hu
    cases hu
end Go.Proofs.Yteokhnjjneeeeaa
