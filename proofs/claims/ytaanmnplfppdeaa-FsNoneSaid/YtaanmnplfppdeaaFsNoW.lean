/- Layer 1: a file system that nobody made has died: the walk of the law. -/
import Derived.Test.YtaanmnplfppdeaaFsNo
namespace Go.Proofs.Ytaanmnplfppdeaa
open Go.RowKit Go.Lec Go.Fsy Go.Op Go.Maps
set_option maxRecDepth 100000 in
set_option maxHeartbeats 4000000 in
theorem w_FsNone (w : World) (a0 a4 a5 a9 : Int) (s1 s2 : ByteArray) (A3 A6 A7 A8 : Option Addr) (n3 c3 n6 c6 n7 c7 n8 c8 : Nat) (b0 b4 : Int) (B1 B2 B3 : Option Addr) (m1 d1 m2 d2 m3 d3 : Nat) :
    Calls Try.prog 3 #[.agg #[.int .i64 a0, .string s1, .string s2, .slice A3 n3 c3, .int .i64 a4, .int .i64 a5, .slice A6 n6 c6, .slice A7 n7 c7, .slice A8 n8 c8, .int .i64 a9], .agg #[.int .i64 b0, .slice B1 m1 d1, .slice B2 m2 d2, .slice B3 m3 d3, .int .i64 b4]] w fun e w' => e = .returned (.bool true) ∧ Below w.heap.size w w' := by
  have hB1 := (Bk.new_ w 27 #[.int .i64 a0, .string s1, .string s2, .slice A3 n3 c3, .int .i64 a4, .int .i64 a5, .slice A6 n6 c6, .slice A7 n7 c7, .slice A8 n8 c8, .int .i64 a9]).alloc (.cells #[.int .i64 b0, .slice B1 m1 d1, .slice B2 m2 d2, .slice B3 m3 d3, .int .i64 b4] 25)
  have hB2 := Bk.new_ (w.alloc (.cells #[.int .i64 a0, .string s1, .string s2, .slice A3 n3 c3, .int .i64 a4, .int .i64 a5, .slice A6 n6 c6, .slice A7 n7 c7, .slice A8 n8 c8, .int .i64 a9] 27)) 25 #[.int .i64 b0, .slice B1 m1 d1, .slice B2 m2 d2, .slice B3 m3 d3, .int .i64 b4]
  rw [World.size_alloc] at hB2
  have hbw : Below w.heap.size w ((w.alloc (.cells #[.int .i64 a0, .string s1, .string s2, .slice A3 n3 c3, .int .i64 a4, .int .i64 a5, .slice A6 n6 c6, .slice A7 n7 c7, .slice A8 n8 c8, .int .i64 a9] 27)).alloc (.cells #[.int .i64 b0, .slice B1 m1 d1, .slice B2 m2 d2, .slice B3 m3 d3, .int .i64 b4] 25)) := ((Below.refl _ _).alloc (Nat.le_refl _) _).alloc (by simp) _
  have HA := Lib.hid (c_awake ((w.alloc (.cells #[.int .i64 a0, .string s1, .string s2, .slice A3 n3 c3, .int .i64 a4, .int .i64 a5, .slice A6 n6 c6, .slice A7 n7 c7, .slice A8 n8 c8, .int .i64 a9] 27)).alloc (.cells #[.int .i64 b0, .slice B1 m1 d1, .slice B2 m2 d2, .slice B3 m3 d3, .int .i64 b4] 25)))
  have Hbw := Lib.hid hbw
  clear hbw
  go_enter Try.func3, Try.ntmps3
  go_wp2_with (go_at_call 4; refine HA.out.mono ?_; rintro e w1 ⟨rfl, hb1⟩)
  have hZ := (Bk.new_ w1 38 #[.int .i64 0, .int .i64 0, .slice none 0 0, .slice none 0 0, .slice none 0 0, .int .i64 0, .int .i64 0, .bool false, .map none, .map none, .slice none 0 0]).alloc (.cells #[.pointer none, .pointer (some ⟨w1.heap.size, 0, none⟩)] 29)
  have hR := Bk.new_ (w1.alloc (.cells #[.int .i64 0, .int .i64 0, .slice none 0 0, .slice none 0 0, .slice none 0 0, .int .i64 0, .int .i64 0, .bool false, .map none, .map none, .slice none 0 0] 38)) 29 #[.pointer none, .pointer (some ⟨w1.heap.size, 0, none⟩)]
  rw [World.size_alloc] at hR
  have hbL : Below w.heap.size w ((w1.alloc (.cells #[.int .i64 0, .int .i64 0, .slice none 0 0, .slice none 0 0, .slice none 0 0, .int .i64 0, .int .i64 0, .bool false, .map none, .map none, .slice none 0 0] 38)).alloc (.cells #[.pointer none, .pointer (some ⟨w1.heap.size, 0, none⟩)] 29)) := by
    have h1 := Hbw.out.trans (hb1.mono Hbw.out.size)
    exact (h1.alloc h1.size _).alloc (by have := h1.size; simp; omega) _
  have hb1L : Below w1.heap.size w1 ((w1.alloc (.cells #[.int .i64 0, .int .i64 0, .slice none 0 0, .slice none 0 0, .slice none 0 0, .int .i64 0, .int .i64 0, .bool false, .map none, .map none, .slice none 0 0] 38)).alloc (.cells #[.pointer none, .pointer (some ⟨w1.heap.size, 0, none⟩)] 29)) := ((Below.refl _ _).alloc (Nat.le_refl _) _).alloc (by simp) _
  have hO := (hB1.below hb1 (by simp; omega)).below hb1L (by have := hb1.size; simp at this; omega)
  have hPl := (hB2.below hb1 (by simp)).below hb1L (by have := hb1.size; simp at this; omega)
  obtain ⟨W0, hW0⟩ : ∃ W, W = ((w1.alloc (.cells #[.int .i64 0, .int .i64 0, .slice none 0 0, .slice none 0 0, .slice none 0 0, .int .i64 0, .int .i64 0, .bool false, .map none, .map none, .slice none 0 0] 38)).alloc (.cells #[.pointer none, .pointer (some ⟨w1.heap.size, 0, none⟩)] 29)) := ⟨_, rfl⟩
  rw [← hW0] at hZ hR hbL hO hPl ⊢
  clear hW0 hb1L hb1 HA hB1 hB2 Hbw
  have hNN : ∀ k, k < 2 → ∃ pv, W0.cell? ⟨w1.heap.size + 1, 0 + k, none⟩ = some (.pointer pv) ∧ NoneAt W0 pv := by
    intro k hk
    match k, hk with
    | 0, _ => exact ⟨none, hR.cell 0, noneAt_nil W0⟩
    | 1, _ => exact ⟨some ⟨w1.heap.size, 0, none⟩, hR.cell 1, noneAt_zero hZ rfl⟩
  have HNN := Lib.hid hNN
  obtain ⟨rb, hrb⟩ : ∃ x, x = w1.heap.size := ⟨_, rfl⟩
  rw [← hrb] at HNN hR ⊢
  have hrl := hR.lt
  have ho := hO.cell
  have hp := hPl.cell
  have lo := hO.lt
  have lp := hPl.lt
  clear hNN hZ hrb hR hO hPl
  go_loopw [19] (fun i wr => ∃ k : Nat, k ≤ 2 ∧ i = .int .i64 (k : Int) ∧ Below W0.heap.size W0 wr) (fun i _ => 2 - (intOf i).toNat)
  case atStart => exact ⟨0, by omega, rfl, Below.refl _ _⟩
  case round =>
    obtain ⟨k, hk, rfl, hb⟩ := hrel
    by_cases hlt : k < 2
    · obtain ⟨pv, hc, hN0⟩ := HNN.out k hlt
      have hN := hN0.below hb
      have g0 : wr.cell? ⟨rb + 1, k, none⟩ = some (.pointer pv) := by rw [Nat.zero_add] at hc; exact (hb.cell (p := ⟨rb + 1, k, none⟩) hrl).trans hc
      have o1 : wr.cell? ⟨w.heap.size, 1, none⟩ = some (.string s1) := (hb.cell (p := ⟨w.heap.size, 1, none⟩) lo).trans (ho 1)
      have o2 : wr.cell? ⟨w.heap.size, 2, none⟩ = some (.string s2) := (hb.cell (p := ⟨w.heap.size, 2, none⟩) lo).trans (ho 2)
      have o3 : wr.cell? ⟨w.heap.size, 3, none⟩ = some (.slice A3 n3 c3) := (hb.cell (p := ⟨w.heap.size, 3, none⟩) lo).trans (ho 3)
      have o4 : wr.cell? ⟨w.heap.size, 4, none⟩ = some (.int .i64 a4) := (hb.cell (p := ⟨w.heap.size, 4, none⟩) lo).trans (ho 4)
      have p0 : wr.cell? ⟨w.heap.size + 1, 0, none⟩ = some (.int .i64 b0) := (hb.cell (p := ⟨w.heap.size + 1, 0, none⟩) lp).trans (hp 0)
      have p1 : wr.cell? ⟨w.heap.size + 1, 1, none⟩ = some (.slice B1 m1 d1) := (hb.cell (p := ⟨w.heap.size + 1, 1, none⟩) lp).trans (hp 1)
      have p2 : wr.cell? ⟨w.heap.size + 1, 2, none⟩ = some (.slice B2 m2 d2) := (hb.cell (p := ⟨w.heap.size + 1, 2, none⟩) lp).trans (hp 2)
      have p3 : wr.cell? ⟨w.heap.size + 1, 3, none⟩ = some (.slice B3 m3 d3) := (hb.cell (p := ⟨w.heap.size + 1, 3, none⟩) lp).trans (hp 3)
      have p4 : wr.cell? ⟨w.heap.size + 1, 4, none⟩ = some (.int .i64 b4) := (hb.cell (p := ⟨w.heap.size + 1, 4, none⟩) lp).trans (hp 4)
      have Hb := Lib.hid hb
      have HN := Lib.hid hN
      clear hc hN0 hb hN ho hp
      have H1 := Lib.hid (n_Read wr pv s1 0 0 HN.out)
      have H2 := Lib.hid (n_Size wr pv s1 HN.out)
      have H3 := Lib.hid (n_Create wr pv s1 HN.out)
      have H4 := Lib.hid (n_Append wr pv s1 A3 n3 c3 HN.out)
      have H5 := Lib.hid (n_Cut wr pv s1 a4 HN.out)
      have H6 := Lib.hid (n_Sync wr pv s1 HN.out)
      have H7 := Lib.hid (n_Rename wr pv s1 s2 HN.out)
      have H8 := Lib.hid (n_Remove wr pv s1 HN.out)
      have H9 := Lib.hid (n_SyncDir wr pv HN.out)
      have H10 := Lib.hid (n_Start wr pv b0 b4 B1 B2 B3 m1 m2 m3 d1 d2 d3 HN.out)
      go_wp2_with (first
        | (go_at_call 5; (with_reducible refine H1.out.mono ?_); rintro e w' ⟨rfl, rfl⟩)
        | (go_at_call 6; (with_reducible refine H2.out.mono ?_); rintro e w' ⟨rfl, rfl⟩)
        | (go_at_call 7; (with_reducible refine H3.out.mono ?_); rintro e w' ⟨rfl, rfl⟩)
        | (go_at_call 8; (with_reducible refine H4.out.mono ?_); rintro e w' ⟨rfl, rfl⟩)
        | (go_at_call 9; (with_reducible refine H5.out.mono ?_); rintro e w' ⟨rfl, rfl⟩)
        | (go_at_call 10; (with_reducible refine H6.out.mono ?_); rintro e w' ⟨rfl, rfl⟩)
        | (go_at_call 11; (with_reducible refine H7.out.mono ?_); rintro e w' ⟨rfl, rfl⟩)
        | (go_at_call 12; (with_reducible refine H8.out.mono ?_); rintro e w' ⟨rfl, rfl⟩)
        | (go_at_call 13; (with_reducible refine H9.out.mono ?_); rintro e w' ⟨rfl, rfl⟩)
        | (go_at_call 14; (with_reducible refine H10.out.mono ?_); rintro e w5 ⟨rfl, hb5⟩; have HN5 := Lib.hid (HN.out.below hb5); have H11 := Lib.hid (n_Files w5 pv HN5.out))
        | (go_at_call 15; (with_reducible refine H11.out.mono ?_); rintro e w6 ⟨rfl, hb6⟩; have HN6 := Lib.hid (HN5.out.below hb6); have H12 := Lib.hid (n_Safe w6 pv HN6.out); have H13 := Lib.hid (n_Ops w6 pv HN6.out); have H14 := Lib.hid (n_Dead w6 pv HN6.out); have H15 := Lib.hid (n_Used w6 pv HN6.out); have H16 := Lib.hid (n_Clone w6 pv HN6.out))
        | (go_at_call 16; (with_reducible refine H12.out.mono ?_); rintro e w' ⟨rfl, rfl⟩)
        | (go_at_call 17; (with_reducible refine H13.out.mono ?_); rintro e w' ⟨rfl, rfl⟩)
        | (go_at_call 18; (with_reducible refine H14.out.mono ?_); rintro e w' ⟨rfl, rfl⟩)
        | (go_at_call 19; (with_reducible refine H15.out.mono ?_); rintro e w' ⟨rfl, rfl⟩)
        | (go_at_call 20; (with_reducible refine H16.out.mono ?_); rintro e w' ⟨rfl, rfl⟩))
      have hs := Hb.out.size
      have hbf := (Hb.out.trans (hb5.mono hs)).trans (hb6.mono (Nat.le_trans hs hb5.size))
      go_roundw
      case rel => exact ⟨k + 1, by omega, by go_num, hbf⟩
      case measure => simp [intOf]; omega
    · obtain rfl : k = 2 := by omega
      have hf := hbL.trans (hb.mono hbL.size)
      clear hb
      go_wp2
      go_ret
      exact ⟨rfl, hf⟩
end Go.Proofs.Ytaanmnplfppdeaa
