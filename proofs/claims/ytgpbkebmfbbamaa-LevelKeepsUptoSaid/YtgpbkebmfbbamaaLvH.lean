/- Layer 24: two lists of files, one behind the other. -/
import Derived.Test.YtgpbkebmfbbamaaLvG
namespace Go.Lec
open Go.RowKit
theorem OwnK.made (w : World) (B k : Nat) (e : TypeId) (cur : Array Value) (cap : Nat) (hB : B ≤ w.heap.size) (hm : cap ≤ maxLen) (hs : cur.size = cap * k) : OwnK (w.alloc (.cells cur e)) B e k (.slice (some ⟨w.heap.size, 0, none⟩) 0 cap) 0 [] :=
  World.ownsRow_made (size := k) w cur cap hB hm hs
end Go.Lec
namespace Go.Proofs.Ytgpbkebmfbbamaa
open Go.RowKit Go.Lec

set_option maxHeartbeats 1600000 in
theorem c_Grow0 (w : World) (n : Nat) (hn : n ≤ 1099511627) :
    Calls Try.prog 54 #[.slice none 0 0, .int .i64 n] w fun e w' => ∃ v, e = .returned v ∧ OwnK w' w.heap.size 44 5 v 0 [] ∧ Below w.heap.size w w' := by
  have h1 : ¬ ((n : Int) < 0) := by omega
  obtain ⟨i0, hi, hz, hsz, hby⟩ := slm.info
  rcases Nat.eq_zero_or_pos n with h0 | h0
  · subst h0
    go_enter Try.func54, Try.ntmps54
    go_wp2
    go_ret
    exact ⟨_, rfl, OwnK.nil_ _ _ _ _, Below.refl _ _⟩
  · have hG := grownCap_ge w n 0 44
    have hGm := grownCap_le_maxLen w n 0 44 (by unfold maxLen; omega)
    have hap := fun ty => Lib.run_append_nil_zeros (P := Try.prog) w 23 3 ty 44 i0 (.agg #[.int .i64 0, .int .i64 0, .int .i64 0, .slice none 0 0, .slice none 0 0]) .i64 .i64 Try.underlying23 Try.underlying3 hi hz n h0 (by omega) (by omega) (by rw [hby]; omega)
    have hsize : (Builtin.zeroCells (Value.agg #[.int .i64 0, .int .i64 0, .int .i64 0, .slice none 0 0, .slice none 0 0]).cells n ++ Builtin.zeroCells (Value.agg #[.int .i64 0, .int .i64 0, .int .i64 0, .slice none 0 0, .slice none 0 0]).cells (grownCap w n 0 44 - n)).size = grownCap w n 0 44 * 5 := by
      rw [Array.size_append, size_zeroCells, size_zeroCells]
      have : (Value.agg #[.int .i64 0, .int .i64 0, .int .i64 0, .slice none 0 0, .slice none 0 0]).cells.size = 5 := rfl
      rw [this]
      omega
    generalize (Builtin.zeroCells (Value.agg #[.int .i64 0, .int .i64 0, .int .i64 0, .slice none 0 0, .slice none 0 0]).cells n ++ Builtin.zeroCells (Value.agg #[.int .i64 0, .int .i64 0, .int .i64 0, .slice none 0 0, .slice none 0 0]).cells (grownCap w n 0 44 - n)) = cur at *
    generalize grownCap w n 0 44 = G at *
    have ho := (OwnK.made w.drew w.heap.size 5 44 cur G (Nat.le_refl _) hGm hsize)
    have hb : Below w.heap.size w (w.drew.alloc (.cells cur 44)) := (Below.refl _ _).drew.alloc (Nat.le_refl _) _
    have h2 : (0 : Int) < (n : Int) := by omega
    unfold maxLen at hGm
    clear hi hz hsz hby hsize
    go_enter Try.func54, Try.ntmps54
    go_wp2_with (first
      | (at_builtin; (refine Lib.wpList_append_run _ rfl _ _ _ _ rfl _ _ rfl rfl _ _ (hap _) ?_)))
    go_ret
    exact ⟨_, rfl, ho, hb⟩

/-- What is joined: a new row, of the cells of both. -/
def CatPost (w : World) (n : Nat) (xs : List Value) (e : Ending) (w' : World) : Prop :=
  ∃ A c, e = .returned (.slice A n c) ∧ n ≤ c ∧ OwnK w' w.heap.size 44 5 (.slice A n c) n xs ∧ Below w.heap.size w w'

set_option maxHeartbeats 1600000 in
theorem c_Concat2 (w : World) {b : Nat} {T : TypeId} {A1 A2 : Option Addr} {n1 c1 n2 c2 B : Nat} {xs1 xs2 : List Value} (hk : Bk w b T #[.slice A1 n1 c1, .slice A2 n2 c2]) (h1 : RdK w B 5 A1 n1 xs1) (h2 : RdK w B 5 A2 n2 xs2) (hB : B ≤ w.heap.size)
    (hn1 : n1 ≤ 109951162) (hn2 : n2 ≤ 109951162) (ho1 : ∀ u ∈ xs1, u.oneCell' = true) (ho2 : ∀ u ∈ xs2, u.oneCell' = true) :
    Calls Try.prog 31 #[.slice (some ⟨b, 0, none⟩) 2 2] w (CatPost w (n1 + n2) (xs1 ++ xs2)) := by
  have q0 := hk.cell 0
  have q1 := hk.cell 1
  go_enter Try.func31, Try.ntmps31
  go_wp2
  go_loop [3, 11] (fun s i => ∃ k : Nat, k ≤ 2 ∧ i = .int .i64 k ∧ s = .int .i64 ((if k = 0 then 0 else if k = 1 then n1 else n1 + n2 : Nat) : Int)) (fun _ i => 2 - (intOf i).toNat)
  case atStart => exact ⟨0, by omega, rfl, rfl⟩
  case round =>
    obtain ⟨k, hk2, rfl, rfl⟩ := hrel
    match k, hk2 with
    | 0, _ =>
      simp only [if_pos]
      have hz : ¬ ((n1 : Int) < 0) := by omega
      go_wp2
      go_round
      case rel => exact ⟨1, by omega, rfl, by simp⟩
      case measure => simp [intOf]
    | 1, _ =>
      simp only [Nat.one_ne_zero, if_false, if_true]
      have hz : ¬ ((n1 : Int) + (n2 : Int) < 0) := by omega
      go_wp2
      go_round
      case rel => exact ⟨2, by omega, rfl, by simp⟩
      case measure => simp [intOf]
    | 2, _ =>
      rw [show (if (2 : Nat) = 0 then 0 else if (2 : Nat) = 1 then n1 else n1 + n2) = n1 + n2 from rfl]
      go_wp2_with fail
      refine (c_Grow0 w (n1 + n2) (by omega)).mono ?_
      rintro e w1 ⟨v1, rfl, hg1, hb1⟩
      clear q0 q1
      obtain ⟨Ag, cg, rfl, _⟩ := hg1.shape
      go_wp2
      go_loopw [6, 27] (fun v i wr => ∃ k : Nat, k ≤ 2 ∧ i = .int .i64 k ∧ OwnK wr w.heap.size 44 5 v (if k = 0 then 0 else if k = 1 then n1 else n1 + n2) (if k = 0 then [] else if k = 1 then xs1 else xs1 ++ xs2) ∧ Below w.heap.size w wr) (fun _ i _ => 2 - (intOf i).toNat)
      case atStart => exact ⟨0, by omega, rfl, hg1, hb1⟩
      case round =>
        obtain ⟨k, hk2, rfl, hown, hb⟩ := hrel
        have HK := hk.below hb hk.lt
        have q0 := HK.cell 0
        have q1 := HK.cell 1
        match k, hk2 with
        | 0, _ =>
          simp only [if_pos] at hown
          go_wp2_with (first
            | (at_builtin; (refine wpList_appK_sl rfl _ _ rfl slm (by decide) rfl hown hb hb.size rfl (h1.below hb hB) ho1 (by omega) ?_); intro v2 w2 hown2 hb2 hg2 hs2))
          go_roundw
          case rel => exact ⟨1, by omega, rfl, by simpa using hown2, hb2⟩
          case measure => simp [intOf]
        | 1, _ =>
          simp only [Nat.one_ne_zero, if_false, if_true] at hown
          go_wp2_with (first
            | (at_builtin; (refine wpList_appK_sl rfl _ _ rfl slm (by decide) rfl hown hb hb.size rfl (h2.below hb hB) ho2 (by omega) ?_); intro v2 w2 hown2 hb2 hg2 hs2))
          go_roundw
          case rel => exact ⟨2, by omega, rfl, by simpa using hown2, hb2⟩
          case measure => simp [intOf]
        | 2, _ =>
          rw [show (if (2 : Nat) = 0 then 0 else if (2 : Nat) = 1 then n1 else n1 + n2) = n1 + n2 from rfl, show (if (2 : Nat) = 0 then [] else if (2 : Nat) = 1 then xs1 else xs1 ++ xs2) = xs1 ++ xs2 from rfl] at hown
          obtain ⟨Ar, cr, rfl, hcr⟩ := hown.shape
          go_wp2
          go_ret
          exact ⟨Ar, cr, rfl, hcr, hown, hb⟩
end Go.Proofs.Ytgpbkebmfbbamaa
