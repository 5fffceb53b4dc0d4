/- Layer 1: a file is read: the walks of Read, Size. -/
import Derived.Test.YtaanmnplfppdeaaFsX4
namespace Go.Proofs.Ytaanmnplfppdeaa
open Go.RowKit Go.Lec Go.Fsy Go.Op Go.Maps
set_option maxRecDepth 100000 in
set_option maxHeartbeats 1600000 in
theorem c_Size (w : World) {X I : Nat → Prop} {fb N : Nat} {s : St} {name : Bs} (h : FsP X I w fb s) (hi : Fsy.Inv s N) (hn : name.length ≤ 4294967296) :
    Calls Try.prog 6 #[ptrV fb, .string ⟨name.toArray⟩] w fun e w' => e = .returned (.tuple #[.int .i64 (Fsy.size s name).1, .int .i64 (Fsy.size s name).2]) ∧ w' = w := by
  obtain ⟨G, hG⟩ := h
  have q := hG.bk.cell
  have H0 := Lib.hid (c_is w fb (q 0))
  have c8 : w.cell? ⟨fb, 8, none⟩ = some (.map (some G.dm)) := q 8
  have c7 : w.cell? ⟨fb, 7, none⟩ = some (.bool s.died) := q 7
  have hsd : Fsy.size s name = (if s.died then ((0 : Int), (12 : Int)) else match node s.dir name with | none => ((0 : Int), (14 : Int)) | some j => ((sizeAt s j : Int), (0 : Int))) := rfl
  obtain ⟨d, hd⟩ : ∃ x, x = s.died := ⟨_, rfl⟩
  have hlk := look_ok hG.dmap hG.rep1 hn
  rw [← hd] at hsd c7
  rw [hsd]
  clear hsd hd q
  unfold ptrV at *
  cases d with
  | true =>
    rw [if_pos rfl]
    clear hlk hG
    go_enter Try.func6, Try.ntmps6
    go_wp2_with (first | (go_at_call 22; refine H0.out.mono ?_; rintro e w1 ⟨rfl, rfl⟩))
    go_ret2
    exact ⟨rfl, rfl⟩
  | false =>
    rw [if_neg Bool.false_ne_true]
    cases hnd : node s.dir name with
    | none =>
      rw [hnd] at hlk
      clear hG hnd
      go_enter Try.func6, Try.ntmps6
      go_wp2_with (first | (go_at_call 22; refine H0.out.mono ?_; rintro e w1 ⟨rfl, rfl⟩))
      go_ret2
      exact ⟨rfl, rfl⟩
    | some i =>
      rw [hnd] at hlk
      have hal : alive s i := .inl ⟨_, node_some hnd⟩
      have hsz := hi.size i
      obtain ⟨A1, c1, A3, c3, vs, hB, _⟩ := (hG.files i hal).ex
      obtain ⟨z, hz⟩ : ∃ z, z = sizeAt s i := ⟨_, rfl⟩
      have hz' : (ndAt s.nodes i).data.length = z := hz.symm
      rw [hz'] at hB
      have qf := hB.cell
      rw [← hz] at hsz
      show Calls _ _ _ _ fun e w' => e = .returned (.tuple #[.int .i64 (sizeAt s i : Int), .int .i64 0]) ∧ w' = w
      rw [← hz]
      clear hG hnd hz hz' hB
      unfold ptrV at *
      go_enter Try.func6, Try.ntmps6
      go_wp2_with (first | (go_at_call 22; refine H0.out.mono ?_; rintro e w1 ⟨rfl, rfl⟩))
      go_ret2
      exact ⟨rfl, rfl⟩
/-- What Read answers. -/
def ReadP (w : World) (r : Bs × Int) (e : Ending) (w' : World) : Prop :=
  ∃ A c, e = .returned (.tuple #[.slice A r.1.length c, .int .i64 r.2]) ∧ RdP (fun b => w.heap.size ≤ b) w' A r.1.length (bcs r.1) ∧ r.1.length ≤ c ∧ Below w.heap.size w w'
theorem ReadP.none_ (w : World) (k : Int) : ReadP w ([], k) (.returned (.tuple #[.slice none 0 0, .int .i64 k])) w := ⟨none, 0, rfl, RdP.nil_, Nat.le_refl _, Below.refl _ _⟩
set_option maxRecDepth 100000 in
set_option maxHeartbeats 1600000 in
theorem c_Read (w : World) {X I : Nat → Prop} {fb N : Nat} {s : St} {name : Bs} {k n : Int} (h : FsP X I w fb s) (hi : Fsy.Inv s N) (hn : name.length ≤ 4294967296) (hk1 : -9223372036854775808 ≤ k) (hk2 : k ≤ 9223372036854775807) (hn1 : -9223372036854775808 ≤ n) (hn2 : n ≤ 9223372036854775807) :
    Calls Try.prog 5 #[ptrV fb, .string ⟨name.toArray⟩, .int .i64 k, .int .i64 n] w (ReadP w (Fsy.read s name k n)) := by
  obtain ⟨G, hG⟩ := h
  have q := hG.bk.cell
  have H0 := Lib.hid (c_is w fb (q 0))
  have c8 : w.cell? ⟨fb, 8, none⟩ = some (.map (some G.dm)) := q 8
  have c7 : w.cell? ⟨fb, 7, none⟩ = some (.bool s.died) := q 7
  have hsd : Fsy.read s name k n = (if s.died then (([] : Bs), (12 : Int)) else match node s.dir name with | none => (([] : Bs), (14 : Int)) | some j => if k < 0 ∨ n < 0 ∨ (sizeAt s j : Int) < k + n then (([] : Bs), (1 : Int)) else (((ndAt s.nodes j).data.drop k.toNat).take n.toNat, (0 : Int))) := rfl
  obtain ⟨d, hd⟩ : ∃ x, x = s.died := ⟨_, rfl⟩
  have hlk := look_ok hG.dmap hG.rep1 hn
  rw [← hd] at hsd c7
  rw [hsd]
  clear hsd hd q
  unfold ptrV at *
  cases d with
  | true =>
    rw [if_pos rfl]
    clear hlk hG
    go_enter Try.func5, Try.ntmps5
    go_wp2_with (first | (go_at_call 22; refine H0.out.mono ?_; rintro e w1 ⟨rfl, rfl⟩))
    go_ret2
    exact ReadP.none_ _ _
  | false =>
    rw [if_neg Bool.false_ne_true]
    cases hnd : node s.dir name with
    | none =>
      rw [hnd] at hlk
      clear hG hnd
      go_enter Try.func5, Try.ntmps5
      go_wp2_with (first | (go_at_call 22; refine H0.out.mono ?_; rintro e w1 ⟨rfl, rfl⟩))
      go_ret2
      exact ReadP.none_ _ _
    | some i =>
      rw [hnd] at hlk
      have hal : alive s i := .inl ⟨_, node_some hnd⟩
      have hsz := hi.size i
      obtain ⟨A1, c1, A3, c3, vs, hB, _, _, hR, hc3, _⟩ := (hG.files i hal).ex
      obtain ⟨z, hz⟩ : ∃ z, z = sizeAt s i := ⟨_, rfl⟩
      have hz' : (ndAt s.nodes i).data.length = z := hz.symm
      rw [hz'] at hB hR hc3
      have qf := hB.cell
      rw [← hz] at hsz
      show Calls _ _ _ _ (ReadP w (if k < 0 ∨ n < 0 ∨ (sizeAt s i : Int) < k + n then ([], 1) else (((ndAt s.nodes i).data.drop k.toNat).take n.toNat, 0)))
      rw [← hz]
      have Hz' := Lib.hid hz'
      clear hnd hz hz' hB
      unfold ptrV at *
      by_cases k0 : k < 0
      · rw [if_pos (.inl k0)]
        clear hG
        go_enter Try.func5, Try.ntmps5
        go_wp2_with (first | (go_at_call 22; refine H0.out.mono ?_; rintro e w1 ⟨rfl, rfl⟩))
        go_ret2
        exact ReadP.none_ _ _
      by_cases n0 : n < 0
      · rw [if_pos (.inr (.inl n0))]
        clear hG
        go_enter Try.func5, Try.ntmps5
        go_wp2_with (first | (go_at_call 22; refine H0.out.mono ?_; rintro e w1 ⟨rfl, rfl⟩))
        go_ret2
        exact ReadP.none_ _ _
      by_cases kz : (z : Int) < k
      · rw [if_pos (.inr (.inr (by omega)))]
        clear hG
        go_enter Try.func5, Try.ntmps5
        go_wp2_with (first | (go_at_call 22; refine H0.out.mono ?_; rintro e w1 ⟨rfl, rfl⟩))
        go_ret2
        exact ReadP.none_ _ _
      by_cases nz : (z : Int) - k < n
      · rw [if_pos (.inr (.inr (by omega)))]
        clear hG
        go_enter Try.func5, Try.ntmps5
        go_wp2_with (first | (go_at_call 22; refine H0.out.mono ?_; rintro e w1 ⟨rfl, rfl⟩))
        go_ret2
        exact ReadP.none_ _ _
      rw [if_neg (by omega)]
      obtain ⟨j, rfl⟩ : ∃ j : Nat, k = (j : Int) := ⟨k.toNat, by omega⟩
      obtain ⟨m, rfl⟩ : ∃ j : Nat, n = (j : Int) := ⟨n.toNat, by omega⟩
      obtain ⟨A', hcut, hR'⟩ := run_cut2I slb hR.rd hc3 j (j + m) (by omega) (by omega) .i64 .i64 (j : Int) ((j : Int) + (m : Int)) rfl (by omega)
      obtain ⟨r, hr⟩ : ∃ r, r = ((ndAt s.nodes i).data.drop j).take m := ⟨_, rfl⟩
      have hrl : r.length = m := by rw [hr, List.length_take, List.length_drop, Hz'.out]; omega
      have hre : ((bcs (ndAt s.nodes i).data).take (j + m)).drop j = bcs r := by rw [hr, List.drop_take, Nat.add_sub_cancel_left]; simp [bcs]
      rw [hre, Nat.add_sub_cancel_left] at hR'
      simp only [Nat.add_sub_cancel_left] at hcut
      have HC := Lib.hid (c_CloneB w (c := c3 - j) hR' (Nat.le_refl _) (by omega))
      simp only [Int.toNat_natCast]
      rw [← hr]
      have Hrl := Lib.hid hrl
      clear hG hr hrl hre hR'
      go_enter Try.func5, Try.ntmps5
      go_wp2_with (first | (go_at_call 22; refine H0.out.mono ?_; rintro e w1 ⟨rfl, rfl⟩) | (go_at_call 23; refine HC.out.mono ?_; rintro e w3 ⟨A4, c4, rfl, hc4, hR4, hb3⟩))
      go_ret2
      exact ⟨A4, c4, by show Ending.returned (.tuple #[.slice A4 m c4, .int .i64 0]) = .returned (.tuple #[.slice A4 r.length c4, .int .i64 0]); rw [Hrl.out], by show RdP _ w3 A4 r.length (bcs r); rw [Hrl.out]; exact hR4, by show r.length ≤ c4; rw [Hrl.out]; exact hc4, hb3⟩
end Go.Proofs.Ytaanmnplfppdeaa
