/- Layer 24: nothing is chosen; whether a state is small; the reference's check. -/
import Derived.Test.YtgpbkebmfbbamaaLvR
namespace Go.Proofs.Ytgpbkebmfbbamaa
open Go.RowKit Go.Lec

set_option maxHeartbeats 3200000 in
theorem c_ChooseNone (w : World) {s : St} {f b fa fi : Int} (hp : okPlan f b fa fi)
    (hup : ∀ W, Below w.heap.size w W → Calls Try.prog 27 #[.agg s.arr, .agg #[.int .i64 f, .int .i64 b, .int .i64 fa, .int .i64 fi]] W fun e W' => e = .returned (.tuple #[.int .i64 0, .slice none 0 0]) ∧ Below W.heap.size W W') :
    Calls Try.prog 10 #[.agg s.arr, .agg #[.int .i64 f, .int .i64 b, .int .i64 fa, .int .i64 fi]] w fun e w' => e = .returned (.tuple #[.agg #[.int .i64 0, .slice none 0 0, .slice none 0 0, .slice none 0 0, .slice none 0 0, .bool false], .bool false, .int .i64 0]) ∧ Below w.heap.size w w' := by
  have HS0 := ((Bk.new_ w 26 s.arr).alloc (.cells #[.int .i64 f, .int .i64 b, .int .i64 fa, .int .i64 fi] 28)).alloc (.cells #[.int .i64 0, .slice none 0 0, .slice none 0 0, .slice none 0 0, .slice none 0 0, .bool false] 34)
  have HP0 := (Bk.new_ (w.alloc (.cells s.arr 26)) 28 #[.int .i64 f, .int .i64 b, .int .i64 fa, .int .i64 fi]).alloc (.cells #[.int .i64 0, .slice none 0 0, .slice none 0 0, .slice none 0 0, .slice none 0 0, .bool false] 34)
  have HR0 := (Bk.new_ ((w.alloc (.cells s.arr 26)).alloc (.cells #[.int .i64 f, .int .i64 b, .int .i64 fa, .int .i64 fi] 28)) 34 #[.int .i64 0, .slice none 0 0, .slice none 0 0, .slice none 0 0, .slice none 0 0, .bool false])
  rw [World.size_alloc] at HP0
  rw [World.size_alloc, World.size_alloc] at HR0
  obtain ⟨W0, hW0⟩ : ∃ W, W = (((w.alloc (.cells s.arr 26)).alloc (.cells #[.int .i64 f, .int .i64 b, .int .i64 fa, .int .i64 fi] 28)).alloc (.cells #[.int .i64 0, .slice none 0 0, .slice none 0 0, .slice none 0 0, .slice none 0 0, .bool false] 34)) := ⟨_, rfl⟩
  have hb0 : Below w.heap.size w W0 := hW0 ▸ (((Below.refl _ _).alloc (Nat.le_refl _) _).alloc (by simp) _).alloc (by simp; omega) _
  have hz0 : W0.heap.size = w.heap.size + 3 := by rw [hW0]; simp
  rw [← hW0] at HS0 HP0 HR0
  have HW0 := Lib.hid hW0
  clear hW0
  have q0 := HS0.cell
  have q1 := HP0.cell
  go_enter Try.func10, Try.ntmps10
  go_wp2_with fail
  rw [← HW0.out]
  refine (c_Check W0 hp).mono ?_
  rintro e w1 ⟨rfl, hb⟩
  have hb1 := hb0.trans (hb.mono (by omega))
  have HS1 := HS0.below hb (by omega)
  have HP1 := HP0.below hb (by omega)
  have HR1 := HR0.below hb (by omega)
  have hz1 : w.heap.size + 3 ≤ w1.heap.size := by have := hb.size; omega
  clear hb HS0 HP0 HR0 hb0 hz0 HW0 q0 q1
  have q0 := HS1.cell
  have q1 := HP1.cell
  go_wp2_with fail
  refine (hup w1 hb1).mono ?_
  rintro e w2 ⟨rfl, hb⟩
  have hb2 := hb1.trans (hb.mono (by omega))
  have HR2 := HR1.below hb (by omega)
  have qr := HR2.cell
  have qz := HR2.frz
  clear hb HS1 HP1 HR1 hb1 q0 q1 hup
  go_wp2
  refine bodyPost_ret (v := .tuple #[.agg #[.int .i64 0, .slice none 0 0, .slice none 0 0, .slice none 0 0, .slice none 0 0, .bool false], .bool false, .int .i64 0]) ?_ rfl ?_
  · simp [results, Try.results10, go_sem, qr]
  · exact ⟨rfl, (((((hb2.setCell (by dsimp only; omega) _).setCell (by dsimp only; omega) _).setCell (by dsimp only; omega) _).setCell (by dsimp only; omega) _).setCell (by dsimp only; omega) _).setCell (by dsimp only; omega) _⟩

set_option maxHeartbeats 1600000 in
theorem c_few (w : World) {B : Nat} {s : St} (hs : s.ok w B) (hB : B ≤ w.heap.size) :
    Calls Try.prog 8 #[.agg s.arr] w fun e w' => ∃ r, e = .returned (.bool r) ∧ Below w.heap.size w w' := by
  have HS := Bk.new_ w 26 s.arr
  have qs := HS.cell
  have hb0 : Below w.heap.size w (w.alloc (.cells s.arr 26)) := (Below.refl _ _).alloc (Nat.le_refl _) _
  go_enter Try.func8, Try.ntmps8
  go_wp2
  go_loopw [3, 10] (fun t i wr => ∃ (k : Nat) (x : Int), k ≤ 7 ∧ i = .int .i64 k ∧ t = .int .i64 x ∧ Below w.heap.size w wr) (fun _ i _ => 7 - (intOf i).toNat)
  case atStart => exact ⟨0, 0, by omega, rfl, rfl, hb0⟩
  case round =>
    obtain ⟨k, x, hk, rfl, rfl, hb⟩ := hrel
    clear qs
    by_cases hlt : k < 7
    · have hix := run_index7 s k hlt
      obtain ⟨hlm, hlc, hln⟩ := (hs.below hb hB) k hlt
      go_wp2
      go_loopw [3, 15] (fun t i wr' => ∃ (j : Nat) (y : Int), j ≤ s.n k ∧ i = .int .i64 j ∧ t = .int .i64 y ∧ Below w.heap.size w wr') (fun _ i _ => s.n k - (intOf i).toNat)
      case atStart => exact ⟨0, x, by omega, rfl, rfl, hb⟩
      case round =>
        obtain ⟨j, y, hj, rfl, rfl, hb'⟩ := hrel
        clear hix hlm
        by_cases hlt2 : j < s.n k
        · obtain ⟨b, o, m, hA, hbB, hm, htk, hok, hcell⟩ := ((hs.below hb' hB) k hlt).1.cell5 hlt2
          obtain ⟨h0, h1, h2, h3, h4⟩ := hcell _ (Below.refl _ _)
          have hlt' : b < wr.heap.size := by have := hb'.size; omega
          have hk' := (Bk.new_ wr 44 #[.int .i64 m.num, .int .i64 m.size, .int .i64 m.cnt, .slice m.A1 m.n1 m.c1, .slice m.A2 m.n2 m.c2]).cell
          clear hm htk hok hcell
          go_wp2
          go_roundw
          case rel => exact ⟨j + 1, _, by omega, by go_num, rfl, hb'.alloc hb'.size _⟩
          case measure => simp [intOf]; omega
        · go_wp2
          go_roundw
          case rel => exact ⟨k + 1, y, by omega, by go_num, rfl, hb'⟩
          case measure => simp [intOf]; omega
    · go_wp2
      go_ret
      exact ⟨_, rfl, hb⟩
end Go.Proofs.Ytgpbkebmfbbamaa
