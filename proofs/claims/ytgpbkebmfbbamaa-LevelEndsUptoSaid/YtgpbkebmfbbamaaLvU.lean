/- Layer 24: the law LevelEnds: where nothing is chosen level 0 has few files, and each level up to 5 is within its limit: the walk. -/
import Derived.Test.YtgpbkebmfbbamaaLvT
import Derived.Test.YtgpbkebmfbbamaaLvJ
namespace Go.Lec
/-- Whether anything is to be compacted. -/
def chosen (s : St) (f b fa : Int) : Bool := decide (f ≤ (s.n 0 : Int)) || (List.range 7).any (big s b fa)
/-- The first level that is too large. -/
theorem first_big (p : Nat → Bool) : ∀ n, (∃ i, i < n ∧ p i = true ∧ ∀ j, j < i → p j = false) ∨ ∀ j, j < n → p j = false
  | 0 => .inr fun j h => absurd h (by omega)
  | n + 1 => by
    rcases first_big p n with ⟨i, h1, h2, h3⟩ | h
    · exact .inl ⟨i, by omega, h2, h3⟩
    · cases hn : p n with
      | true => exact .inl ⟨n, by omega, hn, h⟩
      | false =>
        refine .inr fun j hj => ?_
        rcases Nat.lt_or_ge j n with h1 | h1
        · exact h j h1
        · obtain rfl : j = n := by omega
          exact hn
end Go.Lec
namespace Go.Proofs.Ytgpbkebmfbbamaa
open Go.RowKit Go.Lec

set_option maxHeartbeats 1600000 in
theorem c_rCheck (w : World) (f b fa fi : Int) :
    Calls Try.prog 9 #[.agg #[.int .i64 f, .int .i64 b, .int .i64 fa, .int .i64 fi]] w fun e w' => ∃ r : Int, e = .returned (.int .i64 r) ∧ (r = 0 → okPlan f b fa fi) ∧ Below w.heap.size w w' := by
  have hk := (Bk.new_ w 28 #[.int .i64 f, .int .i64 b, .int .i64 fa, .int .i64 fi]).cell
  have hb0 : Below w.heap.size w (w.alloc (.cells #[.int .i64 f, .int .i64 b, .int .i64 fa, .int .i64 fi] 28)) := (Below.refl _ _).alloc (Nat.le_refl _) _
  go_enter Try.func9, Try.ntmps9
  by_cases h1 : f < 1
  · go_wp2
    go_ret
    exact ⟨1, rfl, fun h => absurd h (by decide), hb0⟩
  by_cases h2 : 100 < f
  · go_wp2
    go_ret
    exact ⟨1, rfl, fun h => absurd h (by decide), hb0⟩
  by_cases h3 : b < 1
  · go_wp2
    go_ret
    exact ⟨1, rfl, fun h => absurd h (by decide), hb0⟩
  by_cases h4 : 1073741824 < b
  · go_wp2
    go_ret
    exact ⟨1, rfl, fun h => absurd h (by decide), hb0⟩
  by_cases h5 : fa < 2
  · go_wp2
    go_ret
    exact ⟨1, rfl, fun h => absurd h (by decide), hb0⟩
  by_cases h6 : 100 < fa
  · go_wp2
    go_ret
    exact ⟨1, rfl, fun h => absurd h (by decide), hb0⟩
  by_cases h7 : fi < 64
  · go_wp2
    go_ret
    exact ⟨1, rfl, fun h => absurd h (by decide), hb0⟩
  by_cases h8 : 16777216 < fi
  · go_wp2
    go_ret
    exact ⟨1, rfl, fun h => absurd h (by decide), hb0⟩
  have hok : okPlan f b fa fi := by unfold okPlan; omega
  have Hok := Lib.hid hok
  clear hok
  go_wp2
  go_ret
  exact ⟨0, rfl, fun _ => Hok.out, hb0⟩

/-- What is chosen, or that nothing is. -/
theorem c_ChooseAny (w : World) {B : Nat} {s : St} (hs : s.ok w B) (hB : B ≤ w.heap.size) {f b fa fi : Int} (hp : okPlan f b fa fi) :
    Calls Try.prog 10 #[.agg s.arr, .agg #[.int .i64 f, .int .i64 b, .int .i64 fa, .int .i64 fi]] w fun e w' => ∃ (x : Int) (A1 : Option Addr) (n1 c1 : Nat) (A2 : Option Addr) (n2 c2 : Nat) (A3 : Option Addr) (n3 c3 : Nat) (A4 : Option Addr) (n4 c4 : Nat) (y : Bool),
      e = .returned (.tuple #[.agg #[.int .i64 x, .slice A1 n1 c1, .slice A2 n2 c2, .slice A3 n3 c3, .slice A4 n4 c4, .bool y], .bool (chosen s f b fa), .int .i64 0]) ∧ Below w.heap.size w w' := by
  have fin : ∀ (lv : Nat) (Lu : List Mt) (e : Ending) (w' : World), chosen s f b fa = true → ChosenPost w s lv Lu e w' → ∃ (x : Int) (A1 : Option Addr) (n1 c1 : Nat) (A2 : Option Addr) (n2 c2 : Nat) (A3 : Option Addr) (n3 c3 : Nat) (A4 : Option Addr) (n4 c4 : Nat) (y : Bool),
      e = .returned (.tuple #[.agg #[.int .i64 x, .slice A1 n1 c1, .slice A2 n2 c2, .slice A3 n3 c3, .slice A4 n4 c4, .bool y], .bool (chosen s f b fa), .int .i64 0]) ∧ Below w.heap.size w w' := by
    rintro lv Lu e w' hc ⟨U, Lo, F, La, rfl, hU, hLo, hF, hLa, hb⟩
    obtain ⟨A1, c1, rfl, _⟩ := hU.shape
    obtain ⟨A2, c2, rfl, _⟩ := hLo.shape
    obtain ⟨A3, c3, rfl, _⟩ := hF.shape
    obtain ⟨A4, c4, rfl, _⟩ := hLa.shape
    rw [hc]
    exact ⟨_, _, _, _, _, _, _, _, _, _, _, _, _, _, rfl, hb⟩
  by_cases hf : f ≤ (s.n 0 : Int)
  · have hc : chosen s f b fa = true := by unfold chosen; rw [decide_eq_true hf]; rfl
    have h0 := (hs 0 (by omega)).1.len
    refine (c_Choose w hs hB hp 0 (by omega) (s.L 0) (by have := hp.1.1; omega) ?_).mono (fun e w' h => fin _ _ e w' hc h)
    intro W hW
    refine (c_upper0 W (hs.below hW hB) (by have := hW.size; omega) hf).mono ?_
    rintro e W' ⟨rfl, hb⟩
    rw [h0]
    exact ⟨_, _, rfl, (((hs 0 (by omega)).1.below hW hB).below hb (by have := hW.size; omega)).more (by have := hW.size; have := hb.size; omega), (hs 0 (by omega)).2.2, hb⟩
  · rcases first_big (big s b fa) 7 with ⟨i, hi7, hbi, hmin⟩ | hnone
    · have hb' : 1 ≤ i ∧ i ≤ 5 ∧ limOf b fa i < mtSize (s.L i) := of_decide_eq_true hbi
      have hc : chosen s f b fa = true := by unfold chosen; rw [List.any_eq_true.2 ⟨i, List.mem_range.2 hi7, hbi⟩, Bool.or_true]
      have hup : ∀ W, Below w.heap.size w W → Calls Try.prog 27 #[.agg s.arr, .agg #[.int .i64 f, .int .i64 b, .int .i64 fa, .int .i64 fi]] W fun e W' => ∃ A c m, minL (fun a b => cmpI a.num b.num) (s.L i) = some m ∧ e = .returned (.tuple #[.int .i64 i, .slice A 1 c]) ∧ Mts W' W'.heap.size A 1 [m] ∧ Below W.heap.size W W' := by
        intro W hW
        refine (c_upper W (hs.below hW hB) (by have := hW.size; omega) hp (by omega)).mono ?_
        rintro e W' ⟨⟨i', A, c, m, h1, h2, hm, rfl, hM⟩ | ⟨h1, _⟩, hb⟩
        · obtain rfl : i' = i := by
            rcases Nat.lt_trichotomy i' i with h | h | h
            · rw [hmin i' h] at h1; cases h1
            · exact h
            · rw [h2 i h] at hbi; cases hbi
          exact ⟨A, c, m, hm, rfl, hM, hb⟩
        · rw [h1 i hi7] at hbi; cases hbi
      have hne : 0 < (s.L i).length := by
        rcases Nat.eq_zero_or_pos (s.L i).length with h | h
        · have hl0 : s.L i = [] := List.eq_nil_of_length_eq_zero h
          have h2 := hb'.2.2
          have hlr := limR_rng hp.2.2.1.1 (i - 1) b hp.2.1.1 (by have := hp.2.1.2; omega)
          rw [hl0] at h2
          unfold limOf at h2
          simp [mtSize] at h2
          omega
        · exact h
      obtain ⟨m, hm⟩ : ∃ m, minL (fun a b => cmpI a.num b.num) (s.L i) = some m := by
        cases hl : s.L i with
        | nil => rw [hl] at hne; cases hne
        | cons x l => exact ⟨_, rfl⟩
      refine (c_Choose w hs hB hp i hb'.2.1 [m] (by show 0 < 1; omega) ?_).mono (fun e w' h => fin _ _ e w' hc h)
      intro W hW
      refine (hup W hW).mono ?_
      rintro e W' ⟨A, c, m', hm', rfl, hM, hb⟩
      obtain rfl : m = m' := by rw [hm] at hm'; exact Option.some.inj hm'
      exact ⟨A, c, rfl, hM, by show (1 : Nat) ≤ 10995116; omega, hb⟩
    · have hc : chosen s f b fa = false := by
        unfold chosen
        rw [decide_eq_false hf, Bool.false_or, List.any_eq_false]
        intro j hj
        rw [hnone j (List.mem_range.1 hj)]
        decide
      refine (c_ChooseNone w hp ?_).mono ?_
      · intro W hW
        refine (c_upper W (hs.below hW hB) (by have := hW.size; omega) hp (by omega)).mono ?_
        rintro e W' ⟨⟨i', A, c, m, h1, h2, hm, rfl, hM⟩ | ⟨_, rfl⟩, hb⟩
        · have : i' ≤ 5 := (of_decide_eq_true h1 : 1 ≤ i' ∧ i' ≤ 5 ∧ _).2.1
          rw [hnone i' (by omega)] at h1; cases h1
        · exact ⟨rfl, hb⟩
      · rintro e w' ⟨rfl, hb⟩
        rw [hc]
        exact ⟨_, _, _, _, _, _, _, _, _, _, _, _, _, _, rfl, hb⟩
end Go.Proofs.Ytgpbkebmfbbamaa
