/- Layer 23: what a list of pairs becomes: plain laws joined; nothing at all. -/
import Derived.Test.YtedelkifadonjaaMsH
import Derived.Test.YtedelkifadonjaaMgPlain
namespace Go.Lec
open Go.RowKit Go.Op
theorem cpF_pl : ∀ (l : List Pr) (x : Pr), (cpF x l).map Pr.pl = cptF x.pl (l.map Pr.pl)
  | [], _ => rfl
  | y :: l, x => by
    rw [cpF, List.map_cons, cptF]
    by_cases h : y.key = x.key
    · rw [if_pos h, if_pos (show y.pl.1 = x.pl.1 from h)]
      exact cpF_pl l y
    · rw [if_neg h, if_neg (show ¬ y.pl.1 = x.pl.1 from h), List.map_cons, cpF_pl l y]
theorem cpR_pl (l : List Pr) : (cpR l).map Pr.pl = cpt (l.map Pr.pl) := by
  cases l with
  | nil => rfl
  | cons x l => exact congrArg (List.cons x.pl) (cpF_pl l x)
theorem srtK_pl {l : List Pr} (h : SrtK Pr.key l) : SrtK Prod.fst (l.map Pr.pl) := List.pairwise_map.2 h
theorem stb_pl {l m : List Pr} (h : Stb Pr.key l m) : Stb Prod.fst (l.map Pr.pl) (m.map Pr.pl) := fun k => by
  have := congrArg (List.map Pr.pl) (h k)
  rw [List.filter_map, List.filter_map]
  exact this
/-- A list sorted and struck reads as the law's own. -/
theorem list_law_pl {l s : List Pr} (h : SrtK Pr.key s) (hs : Stb Pr.key l s) : (cpR s).map Pr.pl = allL (l.map Pr.pl) := (cpR_pl s).trans (list_law (srtK_pl h) (stb_pl hs))
end Go.Lec
namespace Go.Proofs.Ytedelkifadonjaa
open Go.RowKit Go.Lec Go.Op
set_option maxRecDepth 100000 in
theorem c_insN (w : World) :
    Calls Try.prog 65 #[.slice none 0 0, .int .i64 0, .int .i64 0, .func (.func 37) #[] #[]] w fun e w' => e = .returned (.tuple #[]) ∧ w' = w := by
  go_enter Try.func65, Try.ntmps65
  go_wp2
  go_loopw [8] (fun i wr => i = .int .i64 1 ∧ wr = w) (fun i _ => (intOf i).toNat)
  case atStart => exact ⟨rfl, rfl⟩
  case round =>
    obtain ⟨rfl, rfl⟩ := hrel
    go_wp2
    go_end0
    exact ⟨rfl, rfl⟩
set_option maxRecDepth 100000 in
theorem c_stableN (w : World) :
    Calls Try.prog 56 #[.slice none 0 0, .int .i64 0, .func (.func 37) #[] #[]] w fun e w' => e = .returned (.tuple #[]) ∧ w' = w := by
  have HC := Lib.hid (c_insN w)
  go_enter Try.func56, Try.ntmps56
  go_wp2
  go_loopw [7, 8] (fun i j wr => i = .int .i64 0 ∧ j = .int .i64 20 ∧ wr = w) (fun i _ _ => (intOf i).toNat)
  case atStart => exact ⟨rfl, rfl, rfl⟩
  case round =>
    obtain ⟨rfl, rfl, rfl⟩ := hrel
    go_wp2_with (first | (go_at_call 65; refine HC.out.mono ?_; rintro e w5 ⟨rfl, rfl⟩))
    go_loopw [6] (fun i wr => i = .int .i64 20 ∧ wr = w5) (fun i _ => (intOf i).toNat)
    case atStart => exact ⟨rfl, rfl⟩
    case round =>
      obtain ⟨rfl, rfl⟩ := hrel
      go_wp2
      go_end0
      exact ⟨rfl, rfl⟩
theorem c_stableFN (w : World) :
    Calls Try.prog 36 #[.slice none 0 0, .func (.func 37) #[] #[]] w fun e w' => e = .returned (.tuple #[]) ∧ w' = w := by
  have HC := Lib.hid (c_stableN w)
  go_enter Try.func36, Try.ntmps36
  go_wp2_with (first | (go_at_call 56; refine HC.out.mono ?_; rintro e w5 ⟨rfl, rfl⟩))
  go_end0
  exact ⟨rfl, rfl⟩
theorem c_compactN (w : World) :
    Calls Try.prog 39 #[.slice none 0 0, .func (.func 40) #[] #[]] w fun e w' => e = .returned (.slice none 0 0) ∧ w' = w := by
  go_enter Try.func39, Try.ntmps39
  go_wp2
  go_ret
  exact ⟨rfl, rfl⟩
end Go.Proofs.Ytedelkifadonjaa
