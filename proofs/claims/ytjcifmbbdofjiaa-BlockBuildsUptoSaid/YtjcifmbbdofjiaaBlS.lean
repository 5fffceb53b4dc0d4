/- Layer 20: sort.Search: the walk, and what it finds. -/
import Derived.Test.YtjcifmbbdofjiaaBlF
namespace Go.Lec
/-- A search by halves: where it ends, and how often it asked. -/
def srchF (p : Nat → Bool) : Nat → Nat → Nat → Nat → Nat × Nat
  | 0, i, _, c => (i, c)
  | f + 1, i, j, c => if i < j then (if p ((i + j) / 2) then srchF p f i ((i + j) / 2) (c + 1) else srchF p f ((i + j) / 2 + 1) j (c + 1)) else (i, c)
theorem srchF_end (p : Nat → Bool) (f i j c : Nat) (h : ¬ i < j) : srchF p f i j c = (i, c) := by
  cases f
  · rfl
  · rw [srchF, if_neg h]
theorem srchF_le (p : Nat → Bool) : ∀ (f i j c : Nat), i ≤ j → (srchF p f i j c).1 ≤ j
  | 0, i, j, c, h => h
  | f + 1, i, j, c, h => by
    rw [srchF]
    split
    · split
      · have := srchF_le p f i ((i + j) / 2) (c + 1) (by omega); omega
      · exact srchF_le p f ((i + j) / 2 + 1) j (c + 1) (by omega)
    · exact h
/-- Of a question that stays answered a search finds the first place. -/
theorem srchF_found (p : Nat → Bool) (hm : ∀ a b, a ≤ b → p a = true → p b = true) : ∀ (f i j c : Nat), j - i ≤ f → i ≤ j → (∀ k, k < i → p k = false) → (∀ k, k < (srchF p f i j c).1 → p k = false) ∧ ((srchF p f i j c).1 < j → p (srchF p f i j c).1 = true)
  | 0, i, j, c, hf, h, hl => by
    have : i = j := by omega
    subst this
    exact ⟨hl, fun h => absurd h (Nat.lt_irrefl _)⟩
  | f + 1, i, j, c, hf, h, hl => by
    rw [srchF]
    by_cases hlt : i < j
    · rw [if_pos hlt]
      cases hp : p ((i + j) / 2)
      · rw [if_neg (by simp)]
        refine srchF_found p hm f ((i + j) / 2 + 1) j (c + 1) (by omega) (by omega) (fun k hk => ?_)
        cases hk' : p k
        · rfl
        · have := hm k ((i + j) / 2) (by omega) hk'
          rw [hp] at this
          cases this
      · rw [if_pos rfl]
        have := srchF_found p hm f i ((i + j) / 2) (c + 1) (by omega) (by omega) hl
        refine ⟨this.1, fun _ => ?_⟩
        have hle := srchF_le p f i ((i + j) / 2) (c + 1) (by omega)
        rcases Nat.lt_or_ge (srchF p f i ((i + j) / 2) (c + 1)).1 ((i + j) / 2) with h1 | h1
        · exact this.2 h1
        · have h2 : (srchF p f i ((i + j) / 2) (c + 1)).1 = (i + j) / 2 := by omega
          rw [h2]; exact hp
    · rw [if_neg hlt]
      exact ⟨hl, fun h => absurd h hlt⟩
end Go.Lec
namespace Go.Proofs.Ytjcifmbbdofjiaa
open Go.RowKit Go.Lec Go.Op
set_option maxRecDepth 40000 in
set_option maxHeartbeats 800000 in
theorem c_Search (w : World) (n : Nat) (hn : n ≤ 1099511627776) (g : Nat) (caps : Array Value) (p : Nat → Bool) (Inv : Nat → World → Prop) (h0 : Inv 0 w)
    (hcf : ∀ (args : Array Value) (w : World), (callFunc g args).run Try.prog w = .ok (.enter g args) w)
    (hg : ∀ (c k : Nat) (W : World), c < n → k < n → Inv c W → Calls Try.prog g (#[.int .i64 (k : Int)] ++ caps) W fun e W' => e = .returned (.bool (p k)) ∧ Inv (c + 1) W') :
    Calls Try.prog 37 #[.int .i64 (n : Int), .func (.func g) #[] caps] w fun e w' => e = .returned (.int .i64 ((srchF p n 0 n 0).1 : Nat)) ∧ Inv (srchF p n 0 n 0).2 w' := by
  obtain ⟨R, hR⟩ : ∃ R, R = srchF p n 0 n 0 := ⟨_, rfl⟩
  rw [← hR]
  have HR := Lib.hid hR
  have HG := Lib.hid hg
  clear hR hg
  go_enter Try.func37, Try.ntmps37
  go_wp2
  go_loopw [5, 6] (fun i j wr => ∃ a b c f : Nat, i = .int .i64 (a : Int) ∧ j = .int .i64 (b : Int) ∧ a ≤ b ∧ b ≤ n ∧ b - a ≤ f ∧ c + f ≤ n ∧ Hid (R = srchF p f a b c) ∧ Inv c wr) (fun i j _ => (intOf j).toNat - (intOf i).toNat)
  case atStart => exact ⟨0, n, 0, n, rfl, rfl, Nat.zero_le _, Nat.le_refl _, by omega, by omega, HR, h0⟩
  case round =>
    clear h0
    obtain ⟨a, b, c, f, rfl, rfl, hab, hbn, hf, hcf1, HS, hI⟩ := hrel
    by_cases hlt : a < b
    · have hSn : R = if p ((a + b) / 2) then srchF p (f - 1) a ((a + b) / 2) (c + 1) else srchF p (f - 1) ((a + b) / 2 + 1) b (c + 1) := by
        obtain ⟨f', rfl⟩ : ∃ f', f = f' + 1 := ⟨f - 1, by omega⟩
        rw [HS.out, srchF, if_pos hlt]
        rfl
      obtain ⟨h, hh⟩ : ∃ h, h = (a + b) / 2 := ⟨_, rfl⟩
      rw [← hh] at hSn
      have hh1 : a ≤ h := by omega
      have hh2 : h < b := by omega
      have hhi : ((a : Int) + (b : Int)) / 2 = (h : Int) := by omega
      have Hh := Lib.hid hh
      have HSn := Lib.hid hSn
      have HC := Lib.hid (HG.out c h wr (by omega) (by omega) hI)
      clear hh hSn
      go_wp2_with fail
      refine HC.out.mono ?_
      rintro e w1 ⟨rfl, hI1⟩
      cases hp : p h
      · have HS1 := Lib.hid (show R = srchF p (f - 1) (h + 1) b (c + 1) from by rw [HSn.out, hp]; rfl)
        clear hp HSn HS HR hI HC
        go_wp2
        go_roundw
        case rel => exact ⟨h + 1, b, c + 1, f - 1, by go_num, rfl, by omega, hbn, by omega, by omega, HS1, hI1⟩
        case measure => simp [intOf]; omega
      · have HS1 := Lib.hid (show R = srchF p (f - 1) a h (c + 1) from by rw [HSn.out, hp]; rfl)
        clear hp HSn HS HR hI HC
        go_wp2
        go_roundw
        case rel => exact ⟨a, h, c + 1, f - 1, rfl, rfl, hh1, by omega, by omega, by omega, HS1, hI1⟩
        case measure => simp [intOf]; omega
    · have HE := Lib.hid (show R = (a, c) from by rw [HS.out, srchF_end p f a b c hlt])
      go_wp2
      go_ret
      exact ⟨by rw [HE.out]; rfl, by rw [HE.out]; exact hI⟩
end Go.Proofs.Ytjcifmbbdofjiaa
