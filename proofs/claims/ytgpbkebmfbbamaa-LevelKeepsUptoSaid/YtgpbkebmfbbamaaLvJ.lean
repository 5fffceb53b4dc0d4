/- Layer 24: level 0 is chosen, where it has files enough; chapter 24's first example. -/
import Derived.Test.YtgpbkebmfbbamaaLvI
namespace Go.Proofs.Ytgpbkebmfbbamaa
open Go.RowKit Go.Lec

set_option maxHeartbeats 1600000 in
theorem c_upper0 (w : World) {B : Nat} {s : St} (hs : s.ok w B) (hB : B ≤ w.heap.size) {f b fa fi : Int} (hf : f ≤ (s.n 0 : Int)) :
    Calls Try.prog 27 #[.agg s.arr, .agg #[.int .i64 f, .int .i64 b, .int .i64 fa, .int .i64 fi]] w fun e w' => e = .returned (.tuple #[.int .i64 0, .slice (s.A 0) (s.n 0) (s.c 0)]) ∧ Below w.heap.size w w' := by
  have HS := (((Bk.new_ w 26 s.arr).alloc (.cells #[.int .i64 f, .int .i64 b, .int .i64 fa, .int .i64 fi] 28)).alloc (.cells #[.int .i64 0] 3)).alloc (.cells #[.slice none 0 0] 23)
  have HP := ((Bk.new_ (w.alloc (.cells s.arr 26)) 28 #[.int .i64 f, .int .i64 b, .int .i64 fa, .int .i64 fi]).alloc (.cells #[.int .i64 0] 3)).alloc (.cells #[.slice none 0 0] 23)
  have H4 := (Bk.new_ ((w.alloc (.cells s.arr 26)).alloc (.cells #[.int .i64 f, .int .i64 b, .int .i64 fa, .int .i64 fi] 28)) 3 #[.int .i64 0]).alloc (.cells #[.slice none 0 0] 23)
  have H5 := Bk.new_ (((w.alloc (.cells s.arr 26)).alloc (.cells #[.int .i64 f, .int .i64 b, .int .i64 fa, .int .i64 fi] 28)).alloc (.cells #[.int .i64 0] 3)) 23 #[.slice none 0 0]
  rw [World.size_alloc] at HP
  rw [World.size_alloc, World.size_alloc] at H4
  rw [World.size_alloc, World.size_alloc, World.size_alloc] at H5
  have hb0 : Below w.heap.size w ((((w.alloc (.cells s.arr 26)).alloc (.cells #[.int .i64 f, .int .i64 b, .int .i64 fa, .int .i64 fi] 28)).alloc (.cells #[.int .i64 0] 3)).alloc (.cells #[.slice none 0 0] 23)) := ((((Below.refl _ _).alloc (Nat.le_refl _) _).alloc (by simp) _).alloc (by simp; omega) _).alloc (by simp; omega) _
  obtain ⟨w0, hw0⟩ : ∃ W, W = ((((w.alloc (.cells s.arr 26)).alloc (.cells #[.int .i64 f, .int .i64 b, .int .i64 fa, .int .i64 fi] 28)).alloc (.cells #[.int .i64 0] 3)).alloc (.cells #[.slice none 0 0] 23)) := ⟨_, rfl⟩
  have qs := HS.cell
  have qp := HP.cell
  have q4 := H4.cell
  have q5 := H5.cell
  have z4 := H4.frz
  have z5 := H5.frz
  go_enter Try.func27, Try.ntmps27
  rw [← hw0] at HS HP H4 H5 hb0 qs qp q4 q5 z4 z5
  go_wp2_with fail
  rw [← hw0]
  clear hw0
  go_region_with fail
  all_goals (
    go_wp2
    have e4 := ((H4.set_ 0 (.int .i64 0)).far (p := ⟨w.heap.size + 1 + 1 + 1, 0, none⟩) (by dsimp only; omega) (.slice (s.A 0) (s.n 0) (s.c 0))).drew.cell 0
    have e5 := ((H5.far (p := ⟨w.heap.size + 1 + 1, 0, none⟩) (by dsimp only; omega) (.int .i64 0)).set_ 0 (.slice (s.A 0) (s.n 0) (s.c 0))).drew.cell 0
    refine bodyPost_ret (v := .tuple #[.int .i64 0, .slice (s.A 0) (s.n 0) (s.c 0)]) ?_ rfl ?_
    · simp [results, Try.results27, go_sem, e4, e5]
    · exact ⟨rfl, ((hb0.setCell (by dsimp only; omega) _).setCell (by dsimp only; omega) _).drew⟩)

/-- A file of the example. -/
def exM (num : Int) (b : Nat) (x y : UInt8) : Mt := ⟨num, 0, 0, some ⟨b, 0, none⟩, 1, 1, [x], some ⟨b + 1, 0, none⟩, 1, 1, [y]⟩
/-- What a list of two files of one byte each leaves in memory. -/
abbrev exRow (u : World) (b : Nat) (n1 n2 : Int) (x1 x2 x3 x4 : UInt8) : World :=
  ((((u.alloc (.cells (bcs [x1]).toArray 5 (1, 2))).alloc (.cells (bcs [x2]).toArray 5 (1, 2))).alloc (.cells (bcs [x3]).toArray 5 (1, 2))).alloc (.cells (bcs [x4]).toArray 5 (1, 2))).alloc
    (.cells (((exM n1 b x1 x2).cs ++ (exM n2 (b + 1 + 1) x3 x4).cs)).toArray 44)
theorem exRow_size (u : World) (b : Nat) (hb : u.heap.size = b) (n1 n2 : Int) (x1 x2 x3 x4 : UInt8) : (exRow u b n1 n2 x1 x2 x3 x4).heap.size = b + 1 + 1 + 1 + 1 + 1 := by simp [exRow, hb]
theorem exRow_below (u : World) (b : Nat) (hb : u.heap.size = b) (n1 n2 : Int) (x1 x2 x3 x4 : UInt8) : Below u.heap.size u (exRow u b n1 n2 x1 x2 x3 x4) :=
  (((((Below.refl _ _).alloc (Nat.le_refl _) _).alloc (by simp) _).alloc (by simp; omega) _).alloc (by simp; omega) _).alloc (by simp; omega) _
theorem exRow_mts (u : World) (b : Nat) (hb : u.heap.size = b) (n1 n2 : Int) (x1 x2 x3 x4 : UInt8) : Mts (exRow u b n1 n2 x1 x2 x3 x4) (exRow u b n1 n2 x1 x2 x3 x4).heap.size (some ⟨b + 1 + 1 + 1 + 1, 0, none⟩) 2 [exM n1 b x1 x2, exM n2 (b + 1 + 1) x3 x4] := by
  have r1 := ((((Rd.litM u (bcs [x1]) 5 (1, 2)).alloc (by simp <;> omega) (.cells (bcs [x2]).toArray 5 (1, 2))).alloc (by simp <;> omega) (.cells (bcs [x3]).toArray 5 (1, 2))).alloc (by simp <;> omega) (.cells (bcs [x4]).toArray 5 (1, 2))).alloc (by simp <;> omega) (.cells (((exM n1 b x1 x2).cs ++ (exM n2 (b + 1 + 1) x3 x4).cs)).toArray 44)
  have r2 := (((Rd.litM (u.alloc (.cells (bcs [x1]).toArray 5 (1, 2))) (bcs [x2]) 5 (1, 2)).alloc (by simp <;> omega) (.cells (bcs [x3]).toArray 5 (1, 2))).alloc (by simp <;> omega) (.cells (bcs [x4]).toArray 5 (1, 2))).alloc (by simp <;> omega) (.cells (((exM n1 b x1 x2).cs ++ (exM n2 (b + 1 + 1) x3 x4).cs)).toArray 44)
  have r3 := ((Rd.litM ((u.alloc (.cells (bcs [x1]).toArray 5 (1, 2))).alloc (.cells (bcs [x2]).toArray 5 (1, 2))) (bcs [x3]) 5 (1, 2)).alloc (by simp <;> omega) (.cells (bcs [x4]).toArray 5 (1, 2))).alloc (by simp <;> omega) (.cells (((exM n1 b x1 x2).cs ++ (exM n2 (b + 1 + 1) x3 x4).cs)).toArray 44)
  have r4 := (Rd.litM (((u.alloc (.cells (bcs [x1]).toArray 5 (1, 2))).alloc (.cells (bcs [x2]).toArray 5 (1, 2))).alloc (.cells (bcs [x3]).toArray 5 (1, 2))) (bcs [x4]) 5 (1, 2)).alloc (by simp <;> omega) (.cells (((exM n1 b x1 x2).cs ++ (exM n2 (b + 1 + 1) x3 x4).cs)).toArray 44)
  have rk := (OwnK.lit (e := 44) (k := 5) ((((u.alloc (.cells (bcs [x1]).toArray 5 (1, 2))).alloc (.cells (bcs [x2]).toArray 5 (1, 2))).alloc (.cells (bcs [x3]).toArray 5 (1, 2))).alloc (.cells (bcs [x4]).toArray 5 (1, 2))) ((exM n1 b x1 x2).cs ++ (exM n2 (b + 1 + 1) x3 x4).cs) 2 (Nat.le_refl _) rfl (by decide)).rd
  simp only [World.size_alloc, hb] at r1 r2 r3 r4 rk
  refine ⟨by rw [exRow_size u b hb]; simpa using rk, fun m hm => ?_⟩
  rw [exRow_size u b hb]
  simp only [List.mem_cons, List.not_mem_nil, or_false] at hm
  rcases hm with rfl | rfl
  · exact ⟨r1.more (by omega), r2.more (by omega), by show (1 : Nat) ≤ 1; omega, by show (1 : Nat) ≤ 1; omega, by show (1 : Nat) ≤ 140737488355328; omega, by show (1 : Nat) ≤ 140737488355328; omega⟩
  · exact ⟨r3.more (by omega), r4.more (by omega), by show (1 : Nat) ≤ 1; omega, by show (1 : Nat) ≤ 1; omega, by show (1 : Nat) ≤ 140737488355328; omega, by show (1 : Nat) ≤ 140737488355328; omega⟩

/-- The example's state, its first blocks beginning at b. -/
def exS (b : Nat) : St where
  a0 := 0
  a1 := 0
  a2 := 0
  a3 := 0
  a4 := 0
  t := ⟨#[]⟩
  o := ⟨#[]⟩
  Ac := none
  nc := 0
  cc := 0
  A := fun j => match j with | 0 => some ⟨b + 1 + 1 + 1 + 1, 0, none⟩ | 1 => some ⟨b + 1 + 1 + 1 + 1 + 1 + 1 + 1 + 1 + 1, 0, none⟩ | _ => none
  n := fun j => match j with | 0 => 2 | 1 => 2 | _ => 0
  c := fun j => match j with | 0 => 2 | 1 => 2 | _ => 0
  L := fun j => match j with | 0 => [exM 3 b 97 99, exM 5 (b + 1 + 1) 98 100] | 1 => [exM 2 (b + 1 + 1 + 1 + 1 + 1) 99 101, exM 4 (b + 1 + 1 + 1 + 1 + 1 + 1 + 1) 102 103] | _ => []
theorem exS_low (b : Nat) : (lowOf (exS b) 0 [exM 3 b 97 99, exM 5 (b + 1 + 1) 98 100]).map Mt.num = [2] := by
  simp [lowOf, endF, endL, minL, meets, Lib.compareBytes, exS, exM]
theorem exS_last (b : Nat) : endL [exM 3 b 97 99, exM 5 (b + 1 + 1) 98 100] = [100] := by
  simp [endL, minL, Lib.compareBytes, exM]
theorem exS_first (b : Nat) : endF [exM 3 b 97 99, exM 5 (b + 1 + 1) 98 100] = [97] := by
  simp [endF, minL, Lib.compareBytes, exM]
theorem exS_bottom (b : Nat) : bottomOf (exS b) 0 [exM 3 b 97 99, exM 5 (b + 1 + 1) 98 100] = true := by
  unfold bottomOf
  rw [List.all_eq_true]
  intro j hj
  simp only [Nat.zero_add]
  rw [Nat.add_comm 2 j]
  rfl

/-- The example's world. -/
abbrev exW (w : World) : World := exRow (exRow (w.alloc (.cells (exS (w.heap.size + 1)).arr 26)) (w.heap.size + 1) 3 5 97 99 98 100) (w.heap.size + 1 + 1 + 1 + 1 + 1 + 1) 2 4 99 101 102 103
theorem ex_choose (w : World) : Calls Try.prog 10 #[.agg (exS (w.heap.size + 1)).arr, .agg #[.int .i64 2, .int .i64 1, .int .i64 2, .int .i64 64]] (exW w) fun e w' =>
    ∃ A1 c1 A2 c2 A3 c3 A4 c4, e = .returned (.tuple #[.agg #[.int .i64 0, .slice A1 2 c1, .slice A2 1 c2, .slice A3 1 c3, .slice A4 1 c4, .bool true], .bool true, .int .i64 0]) ∧
      Own w' w.heap.size 3 (.slice A2 1 c2) (ics [2]) ∧ Own w' w.heap.size 5 (.slice A4 1 c4) (bcs [100]) ∧ Below w.heap.size w w' := by
  have hb0 : Below w.heap.size w (w.alloc (.cells (exS (w.heap.size + 1)).arr 26)) := (Below.refl _ _).alloc (Nat.le_refl _) _
  obtain ⟨u, hu⟩ : ∃ u, u = w.alloc (.cells (exS (w.heap.size + 1)).arr 26) := ⟨_, rfl⟩
  have hus : u.heap.size = w.heap.size + 1 := by rw [hu]; simp
  obtain ⟨u1, hu1⟩ : ∃ u1, u1 = exRow u (w.heap.size + 1) 3 5 97 99 98 100 := ⟨_, rfl⟩
  obtain ⟨u2, hu2⟩ : ∃ u2, u2 = exRow u1 (w.heap.size + 1 + 1 + 1 + 1 + 1 + 1) 2 4 99 101 102 103 := ⟨_, rfl⟩
  have e1 := exRow_size u (w.heap.size + 1) hus 3 5 97 99 98 100
  rw [← hu1] at e1
  have e2 := exRow_size u1 (w.heap.size + 1 + 1 + 1 + 1 + 1 + 1) e1 2 4 99 101 102 103
  have b1 := exRow_below u (w.heap.size + 1) hus 3 5 97 99 98 100
  have b2 := exRow_below u1 (w.heap.size + 1 + 1 + 1 + 1 + 1 + 1) e1 2 4 99 101 102 103
  have m1 := exRow_mts u (w.heap.size + 1) hus 3 5 97 99 98 100
  have m2 := exRow_mts u1 (w.heap.size + 1 + 1 + 1 + 1 + 1 + 1) e1 2 4 99 101 102 103
  rw [← hu1] at b1 m1
  rw [← hu2] at e2 b2 m2
  rw [← hu] at hb0
  have hb2 : Below w.heap.size w u2 := (hb0.trans (b1.mono (by omega))).trans (b2.mono (by omega))
  have hok : (exS (w.heap.size + 1)).ok u2 u2.heap.size := by
    intro j hj
    match j with
    | 0 => exact ⟨(m1.below b2 (Nat.le_refl _)).more b2.size, by show (2 : Nat) ≤ 2; omega, by show (2 : Nat) ≤ 10995116; omega⟩
    | 1 => exact ⟨m2, by show (2 : Nat) ≤ 2; omega, by show (2 : Nat) ≤ 10995116; omega⟩
    | j + 2 => exact ⟨Mts.nil_, by show (0 : Nat) ≤ 0; omega, by show (0 : Nat) ≤ 10995116; omega⟩
  rw [show exW w = u2 by rw [hu2, hu1, hu]]
  have hc := c_Choose u2 (s := exS (w.heap.size + 1)) hok (Nat.le_refl _) (f := 2) (b := 1) (fa := 2) (fi := 64) (by unfold okPlan; omega) 0 (by omega) [exM 3 (w.heap.size + 1) 97 99, exM 5 (w.heap.size + 1 + 1 + 1) 98 100] (by show (0 : Nat) < 2; omega) (by
    intro W hW
    refine (c_upper0 W (hok.below hW (Nat.le_refl _)) hW.size (by show (2 : Int) ≤ ((2 : Nat) : Int); omega)).mono ?_
    rintro e W' ⟨rfl, hb⟩
    exact ⟨_, _, rfl, ((((hok 0 (by omega)).1.below hW (Nat.le_refl _)).below hb hW.size).more (Nat.le_trans hW.size hb.size)), by show (2 : Nat) ≤ 10995116; omega, hb⟩)
  refine hc.mono ?_
  rintro e w' ⟨U, Lo, F, La, rfl, hU, hLo, hF, hLa, hb⟩
  have h2 : (ics ((lowOf (exS (w.heap.size + 1)) 0 [exM 3 (w.heap.size + 1) 97 99, exM 5 (w.heap.size + 1 + 1 + 1) 98 100]).map Mt.num)) = ics [2] := by rw [exS_low]
  rw [h2] at hLo
  rw [exS_last] at hLa
  rw [exS_first] at hF
  obtain ⟨A1, c1, rfl, _⟩ := hU.shapeN (n := 2) rfl
  obtain ⟨A2, c2, rfl, _⟩ := hLo.shapeN (n := 1) rfl
  obtain ⟨A3, c3, rfl, _⟩ := hF.shapeN (n := 1) rfl
  obtain ⟨A4, c4, rfl, _⟩ := hLa.shapeN (n := 1) rfl
  rw [exS_bottom]
  exact ⟨A1, c1, A2, c2, A3, c3, A4, c4, rfl, hLo.mono (by omega), hLa.mono (by omega), hb2.trans (hb.mono (by omega))⟩

set_option maxRecDepth 20000 in
set_option maxHeartbeats 3200000 in
theorem c_awake (w : World) : Calls Try.prog 7 #[] w fun e w' => e = .returned (.bool true) ∧ Below w.heap.size w w' := by
  have kc : ∀ (w : World) (b : Nat) (C : Array Value) (n c : Nat), w.heap.size = b → (convert 22 22 (.slice (some ⟨b, 0, none⟩) n c)).run Try.prog (w.alloc (.cells C 5)) = .ok (.slice (some ⟨b, 0, none⟩) n c) (w.alloc (.cells C 5 (C.size, C.size + 1))) := by
    rintro w b C n c rfl
    exact Lib.run_convert_bytes_const (P := Try.prog) w 22 5 C n c Try.underlying22 Try.underlying5
  go_enter Try.func7, Try.ntmps7
  go_wp2_with fail
  refine (ex_choose w).mono ?_
  rintro e w' ⟨A1, c1, A2, c2, A3, c3, A4, c4, rfl, hLo, hLa, hb⟩
  have HK := Bk.new_ w' 34 #[.int .i64 0, .slice A1 2 c1, .slice A2 1 c2, .slice A3 1 c3, .slice A4 1 c4, .bool true]
  have hLo1 := (hLo.alloc (.cells #[.int .i64 0, .slice A1 2 c1, .slice A2 1 c2, .slice A3 1 c3, .slice A4 1 c4, .bool true] 34)).rd
  have hLa1 := (hLa.alloc (.cells #[.int .i64 0, .slice A1 2 c1, .slice A2 1 c2, .slice A3 1 c3, .slice A4 1 c4, .bool true] 34)).rd
  have hcv := run_str (P := Try.prog) Try.underlying22 Try.underlying5 Try.underlying9 (c := c4) hLa1
  obtain ⟨b2, o2, rfl, _, hc2⟩ := hLo1.2 (by omega)
  have hc20 := hc2 0 _ rfl
  rw [Nat.add_zero] at hc20
  have hk := HK.cell
  have hbf := hb.alloc hb.size (.cells #[.int .i64 0, .slice A1 2 c1, .slice (some ⟨b2, o2, none⟩) 1 c2, .slice A3 1 c3, .slice A4 1 c4, .bool true] 34)
  clear kc hLo hLa hb HK hLo1 hLa1 hc2
  go_wp2
  go_ret
  exact ⟨rfl, hbf⟩
end Go.Proofs.Ytgpbkebmfbbamaa
