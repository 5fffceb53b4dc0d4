/- Layer 24: the least of files by a comparison. -/
import Derived.Test.YtgpbkebmfbbamaaLvC
namespace Go.Proofs.Ytgpbkebmfbbamaa
open Go.RowKit Go.Lec

set_option maxHeartbeats 1600000 in
theorem c_MinFunc (w : World) {B : Nat} {A : Option Addr} {n c : Nat} {L : List Mt} (hr : Mts w B A n L) (hB : B ≤ w.heap.size) (hn : n ≤ 1099511627) (h0 : 0 < n) (g : Nat) (p : Value) (cmp : Mt → Mt → Int)
    (hcf : ∀ (args : Array Value) (w : World), (callFunc g args).run Try.prog w = .ok (.enter g args) w)
    (hg : ∀ (W : World) (a b : Mt), a ∈ L → b ∈ L → Below w.heap.size w W → Calls Try.prog g #[.agg #[.int .i64 a.num, .int .i64 a.size, .int .i64 a.cnt, .slice a.A1 a.n1 a.c1, .slice a.A2 a.n2 a.c2], .agg #[.int .i64 b.num, .int .i64 b.size, .int .i64 b.cnt, .slice b.A1 b.n1 b.c1, .slice b.A2 b.n2 b.c2], p] W fun e W' => e = .returned (.int .i64 (cmp a b)) ∧ Below W.heap.size W W') :
    Calls Try.prog 64 #[.slice A n c, .func (.func g) #[] #[p]] w fun e w' => ∃ m, minL cmp L = some m ∧ e = .returned (.agg #[.int .i64 m.num, .int .i64 m.size, .int .i64 m.cnt, .slice m.A1 m.n1 m.c1, .slice m.A2 m.n2 m.c2]) ∧ Below w.heap.size w w' := by
  have hln := hr.len
  have Hln := Lib.hid hln; clear hln
  obtain ⟨b0, o0, m0, rfl, hbB0, hm0, htk0, hok0, hcell0⟩ := hr.cell5 h0
  have htk0' : minL cmp (L.take 1) = some m0 := by rw [show (1 : Nat) = 0 + 1 from rfl, htk0]; simp [minL]
  have Htk := Lib.hid htk0'
  have hmem0 : m0 ∈ L := List.mem_of_getElem? hm0
  have hR0 := (Bk.new_ w 44 #[.int .i64 0, .int .i64 0, .int .i64 0, .slice none 0 0, .slice none 0 0])
  have hR1 := hR0.alloc (.cells #[.int .i64 m0.num, .int .i64 m0.size, .int .i64 m0.cnt, .slice m0.A1 m0.n1 m0.c1, .slice m0.A2 m0.n2 m0.c2] 44)
  have hM1 := (Bk.new_ (w.alloc (.cells #[.int .i64 0, .int .i64 0, .int .i64 0, .slice none 0 0, .slice none 0 0] 44)) 44 #[.int .i64 m0.num, .int .i64 m0.size, .int .i64 m0.cnt, .slice m0.A1 m0.n1 m0.c1, .slice m0.A2 m0.n2 m0.c2])
  rw [World.size_alloc] at hM1
  have hB0 : Below w.heap.size w (w.alloc (.cells #[.int .i64 0, .int .i64 0, .int .i64 0, .slice none 0 0, .slice none 0 0] 44)) := (Below.refl _ _).alloc (Nat.le_refl _) _
  have hB1 := hB0.alloc hB0.size (.cells #[.int .i64 m0.num, .int .i64 m0.size, .int .i64 m0.cnt, .slice m0.A1 m0.n1 m0.c1, .slice m0.A2 m0.n2 m0.c2] 44)
  obtain ⟨z0, z1, z2, z3, z4⟩ := hcell0 _ (hB0.mono hB)
  simp only [Nat.zero_mul, Nat.add_zero] at z0 z1 z2 z3 z4
  have hz : (0 : Int) < (n : Int) := by omega
  have hn1 : ¬ (n : Int) < 1 := by omega
  clear htk0 htk0' hcell0 hm0 hok0
  go_enter Try.func64, Try.ntmps64
  go_wp2
  go_loopw [6] (fun i wr => ∃ (k : Nat) (m : Mt), 1 ≤ k ∧ k ≤ n ∧ i = .int .i64 k ∧ minL cmp (L.take k) = some m ∧ Bk wr w.heap.size 44 #[.int .i64 0, .int .i64 0, .int .i64 0, .slice none 0 0, .slice none 0 0] ∧ Bk wr (w.heap.size + 1) 44 #[.int .i64 m.num, .int .i64 m.size, .int .i64 m.cnt, .slice m.A1 m.n1 m.c1, .slice m.A2 m.n2 m.c2] ∧ Below w.heap.size w wr) (fun i _ => n - (intOf i).toNat)
  case atStart => exact ⟨1, m0, by omega, by omega, rfl, Htk.out, hR1, hM1, hB1⟩
  case round =>
    obtain ⟨k, m, hk1, hk, rfl, hmin, hRk, hMk, hb⟩ := hrel
    clear z0 z1 z2 z3 z4 hR0 hR1 hM1 hB0 hB1
    by_cases hlt : k < n
    · obtain ⟨b, o, y, hA, hbB, hy, htk, hok, hcell⟩ := hr.cell5 hlt
      cases hA
      have hymem : y ∈ L := List.mem_of_getElem? hy
      have hmmem : m ∈ L := List.mem_of_mem_take (minL_mem cmp hmin)
      have Hmin := Lib.hid (minL_snoc cmp hmin y)
      rw [← htk] at Hmin
      obtain ⟨y0, y1, y2, y3, y4⟩ := hcell wr (hb.mono hB)
      have hm := hMk.cell
      have hlt' : b0 < wr.heap.size := by have := hb.size; omega
      have hki : (0 : Int) ≤ (k : Int) := by omega
      have hkn : (k : Int) < (n : Int) := by omega
      clear htk hy hok hmin
      have hS : ∀ wc, Below wr.heap.size wr wc → Below w.heap.size w wc ∧ Bk wc w.heap.size 44 #[.int .i64 0, .int .i64 0, .int .i64 0, .slice none 0 0, .slice none 0 0] ∧ Bk wc (w.heap.size + 1) 44 #[.int .i64 m.num, .int .i64 m.size, .int .i64 m.cnt, .slice m.A1 m.n1 m.c1, .slice m.A2 m.n2 m.c2] ∧ wc.cell? ⟨w.heap.size + 1, 0, none⟩ = some (.int .i64 m.num) ∧ wc.cell? ⟨w.heap.size + 1, 1, none⟩ = some (.int .i64 m.size) ∧ wc.cell? ⟨w.heap.size + 1, 2, none⟩ = some (.int .i64 m.cnt) ∧ wc.cell? ⟨w.heap.size + 1, 3, none⟩ = some (.slice m.A1 m.n1 m.c1) ∧ wc.cell? ⟨w.heap.size + 1, 4, none⟩ = some (.slice m.A2 m.n2 m.c2) ∧
          wc.cell? ⟨b0, o0 + k * 5, none⟩ = some (.int .i64 y.num) ∧ wc.cell? ⟨b0, o0 + k * 5 + 1, none⟩ = some (.int .i64 y.size) ∧ wc.cell? ⟨b0, o0 + k * 5 + 2, none⟩ = some (.int .i64 y.cnt) ∧ wc.cell? ⟨b0, o0 + k * 5 + 3, none⟩ = some (.slice y.A1 y.n1 y.c1) ∧ wc.cell? ⟨b0, o0 + k * 5 + 4, none⟩ = some (.slice y.A2 y.n2 y.c2) := fun wc hbc =>
        ⟨hb.trans (hbc.mono hb.size), hRk.below hbc hRk.lt, hMk.below hbc hMk.lt, (hbc.cell (p := ⟨w.heap.size + 1, 0, none⟩) hMk.lt).trans (hm 0), (hbc.cell (p := ⟨w.heap.size + 1, 1, none⟩) hMk.lt).trans (hm 1), (hbc.cell (p := ⟨w.heap.size + 1, 2, none⟩) hMk.lt).trans (hm 2), (hbc.cell (p := ⟨w.heap.size + 1, 3, none⟩) hMk.lt).trans (hm 3), (hbc.cell (p := ⟨w.heap.size + 1, 4, none⟩) hMk.lt).trans (hm 4),
            (hbc.cell (p := ⟨b0, o0 + k * 5, none⟩) hlt').trans y0, (hbc.cell (p := ⟨b0, o0 + k * 5 + 1, none⟩) hlt').trans y1, (hbc.cell (p := ⟨b0, o0 + k * 5 + 2, none⟩) hlt').trans y2, (hbc.cell (p := ⟨b0, o0 + k * 5 + 3, none⟩) hlt').trans y3, (hbc.cell (p := ⟨b0, o0 + k * 5 + 4, none⟩) hlt').trans y4⟩
      have HS := Lib.hid hS
      clear hS
      go_wp2
      go_region_held3 (fun W => Below w.heap.size w W ∧ Bk W w.heap.size 44 #[.int .i64 0, .int .i64 0, .int .i64 0, .slice none 0 0, .slice none 0 0] ∧ Bk W (w.heap.size + 1) 44 #[.int .i64 m.num, .int .i64 m.size, .int .i64 m.cnt, .slice m.A1 m.n1 m.c1, .slice m.A2 m.n2 m.c2] ∧ W.cell? ⟨w.heap.size + 1, 0, none⟩ = some (.int .i64 m.num) ∧ W.cell? ⟨w.heap.size + 1, 1, none⟩ = some (.int .i64 m.size) ∧ W.cell? ⟨w.heap.size + 1, 2, none⟩ = some (.int .i64 m.cnt) ∧ W.cell? ⟨w.heap.size + 1, 3, none⟩ = some (.slice m.A1 m.n1 m.c1) ∧ W.cell? ⟨w.heap.size + 1, 4, none⟩ = some (.slice m.A2 m.n2 m.c2) ∧
          W.cell? ⟨b0, o0 + k * 5, none⟩ = some (.int .i64 y.num) ∧ W.cell? ⟨b0, o0 + k * 5 + 1, none⟩ = some (.int .i64 y.size) ∧ W.cell? ⟨b0, o0 + k * 5 + 2, none⟩ = some (.int .i64 y.cnt) ∧ W.cell? ⟨b0, o0 + k * 5 + 3, none⟩ = some (.slice y.A1 y.n1 y.c1) ∧ W.cell? ⟨b0, o0 + k * 5 + 4, none⟩ = some (.slice y.A2 y.n2 y.c2))
        (first | (exact HS.out _ (Below.refl _ _)) | (exact HS.out _ ((Below.refl _ _).drew)) | (exact HS.out _ ((Below.refl _ _).drew.trans hbc)))
        (first | (refine (hg _ y m hymem hmmem hb.drew).mono ?_; rintro e wc ⟨rfl, hbc⟩))
      have hb2 : Below w.heap.size w wc := hb.drew.trans (hbc.mono hb.size)
      have hR2 := hRk.drew.below hbc hRk.lt
      have hM2 := hMk.drew.below hbc hMk.lt
      have hm2 := hM2.cell
      have hmz := hM2.frz
      have hlt2 : b0 < wc.heap.size := by have := hbc.size; have : wr.heap.size ≤ wc.heap.size := this; omega
      have w0 := (hbc.cell (p := ⟨b0, o0 + k * 5, none⟩) hlt').trans y0
      have w1 := (hbc.cell (p := ⟨b0, o0 + k * 5 + 1, none⟩) hlt').trans y1
      have w2 := (hbc.cell (p := ⟨b0, o0 + k * 5 + 2, none⟩) hlt').trans y2
      have w3 := (hbc.cell (p := ⟨b0, o0 + k * 5 + 3, none⟩) hlt').trans y3
      have w4 := (hbc.cell (p := ⟨b0, o0 + k * 5 + 4, none⟩) hlt').trans y4
      clear y0 y1 y2 y3 y4 hm hbc hRk hMk hb
      by_cases hc : cmp y m < 0
      · rw [if_pos hc] at Hmin
        go_wp2
        go_roundw
        case rel => exact ⟨k + 1, y, by omega, by omega, by go_num, Hmin.out, (((((hR2.far (by dsimp only; omega) _).far (by dsimp only; omega) _).far (by dsimp only; omega) _).far (by dsimp only; omega) _).far (by dsimp only; omega) _), (((((hM2.set_ 0 _).set_ 1 _).set_ 2 _).set_ 3 _).set_ 4 _), (((((hb2.setCell (by dsimp only; omega) _).setCell (by dsimp only; omega) _).setCell (by dsimp only; omega) _).setCell (by dsimp only; omega) _).setCell (by dsimp only; omega) _)⟩
        case measure => simp [intOf]; omega
      · rw [if_neg hc] at Hmin
        go_wp2
        go_roundw
        case rel => exact ⟨k + 1, m, by omega, by omega, by go_num, Hmin.out, hR2, hM2, hb2⟩
        case measure => simp [intOf]; omega
    · obtain rfl : k = n := by omega
      rw [List.take_of_length_le (by rw [Hln.out]; exact Nat.le_refl _)] at hmin
      have hm := hMk.cell
      have hR := hRk.cell
      have hRz := hRk.frz
      go_wp2
      refine bodyPost_ret (v := .agg #[.int .i64 m.num, .int .i64 m.size, .int .i64 m.cnt, .slice m.A1 m.n1 m.c1, .slice m.A2 m.n2 m.c2]) ?_ rfl ?_
      · simp [results, Try.results64, go_sem, hR]
      · exact ⟨m, hmin, rfl, ((((hb.setCell (by dsimp only; omega) _).setCell (by dsimp only; omega) _).setCell (by dsimp only; omega) _).setCell (by dsimp only; omega) _).setCell (by dsimp only; omega) _⟩
end Go.Proofs.Ytgpbkebmfbbamaa
