/- Layer 24: numbers of files; the least by a comparison. -/
import Derived.Test.YtgpbkebmfbbamaaLvB
namespace Go.Lec
/-- The first of the least by a comparison. -/
def minL (cmp : Mt → Mt → Int) : List Mt → Option Mt
  | [] => none
  | x :: xs => some (xs.foldl (fun m y => if cmp y m < 0 then y else m) x)
theorem minL_one (cmp : Mt → Mt → Int) (x : Mt) : minL cmp [x] = some x := rfl
theorem minL_snoc (cmp : Mt → Mt → Int) {l : List Mt} {m : Mt} (h : minL cmp l = some m) (y : Mt) : minL cmp (l ++ [y]) = some (if cmp y m < 0 then y else m) := by
  cases l with
  | nil => cases h
  | cons x xs =>
    simp only [minL, Option.some.injEq] at h
    subst h
    simp [minL]
theorem minL_mem (cmp : Mt → Mt → Int) {l : List Mt} {m : Mt} (h : minL cmp l = some m) : m ∈ l := by
  cases l with
  | nil => cases h
  | cons x xs =>
    simp only [minL, Option.some.injEq] at h
    subst h
    have : ∀ (xs : List Mt) (x : Mt), xs.foldl (fun m y => if cmp y m < 0 then y else m) x = x ∨ xs.foldl (fun m y => if cmp y m < 0 then y else m) x ∈ xs := by
      intro xs
      induction xs with
      | nil => intro x; exact .inl rfl
      | cons y ys ih =>
        intro x
        rw [List.foldl_cons]
        rcases ih (if cmp y x < 0 then y else x) with h | h
        · rw [h]
          split
          · exact .inr (by simp)
          · exact .inl rfl
        · exact .inr (List.mem_cons_of_mem _ h)
    rcases this xs x with h | h
    · rw [h]; simp
    · exact List.mem_cons_of_mem _ h
end Go.Lec
namespace Go.Proofs.Ytgpbkebmfbbamaa
open Go.RowKit Go.Lec

theorem info3 : (Try.prog.info? 3).map (fun i => (i.zero, i.size, i.bytes)) = some (some (.int .i64 0), 1, 8) := by kernel_rfl
theorem sli : SlT Try.prog 32 3 (.int .i64 0) 8 := ⟨Try.underlying32, info_parts info3, rfl⟩
/-- The cells of numbers. -/
def ics (l : List Int) : List Value := l.map (Value.int .i64)

set_option maxHeartbeats 1600000 in
theorem c_numbers (w : World) {B : Nat} {A : Option Addr} {n c : Nat} {L : List Mt} (hr : Mts w B A n L) (hB : B ≤ w.heap.size) (hn : n ≤ 1099511627) :
    Calls Try.prog 28 #[.slice A n c] w fun e w' => ∃ v, e = .returned v ∧ Own w' w.heap.size 3 v (ics (L.map Mt.num)) ∧ Below w.heap.size w w' := by
  have hln := hr.len
  have Hln := Lib.hid hln; clear hln
  go_enter Try.func28, Try.ntmps28
  go_wp2
  go_loopw [3, 8] (fun s i wr => ∃ k : Nat, k ≤ n ∧ i = .int .i64 k ∧ Own wr w.heap.size 3 s (ics ((L.take k).map Mt.num)) ∧ Below w.heap.size w wr) (fun _ i _ => n - (intOf i).toNat)
  case atStart => exact ⟨0, by omega, rfl, Own.nil_ _ _ _, Below.refl _ _⟩
  case round =>
    obtain ⟨k, hk, rfl, hown, hb⟩ := hrel
    by_cases hlt : k < n
    · obtain ⟨b, o, m, rfl, hbB, hm, htk, hok, hcell⟩ := hr.cell5 hlt
      have Htk := Lib.hid htk
      obtain ⟨h0, h1, h2, h3, h4⟩ := hcell wr (hb.mono hB)
      have hlt' : b < wr.heap.size := by have := hb.size; omega
      have hk := (Bk.new_ wr 44 #[.int .i64 m.num, .int .i64 m.size, .int .i64 m.cnt, .slice m.A1 m.n1 m.c1, .slice m.A2 m.n2 m.c2]).cell
      have hln : ((L.take k).map Mt.num).length ≤ 1099511627 := by rw [List.length_map, List.length_take]; omega
      have Hl := Lib.hid hln
      clear hm htk hok hcell hln
      go_wp2_with (first
        | (at_builtin; (refine wpList_app_lit rfl _ _ rfl sli (by decide) rfl (hown.alloc _) (hb.alloc hb.size _) (by have := hb.size; simp; omega) [.int .i64 m.num] (by rw [World.size_alloc]; rfl) (by simp [Value.oneCell']) (by have := Hl.out; simp only [ics, List.length_map, List.length_cons, List.length_nil] at this ⊢; omega) ?_); intro v1 w1 hown1 hb1 hs1))
      go_roundw
      case rel => exact ⟨k + 1, by omega, by go_num, by rw [Htk.out]; simpa [ics] using hown1, hb1⟩
      case measure => simp [intOf]; omega
    · obtain rfl : k = n := by omega
      rw [List.take_of_length_le (by rw [Hln.out]; exact Nat.le_refl _)] at hown
      go_wp2
      go_ret
      exact ⟨_, rfl, hown, hb⟩
end Go.Proofs.Ytgpbkebmfbbamaa
