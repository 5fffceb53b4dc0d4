/- Layer 16: the reference's Decode. -/
import Derived.Test.YteokhnjjneeeeaaIkJ
import Derived.Test.YteokhnjjneeeeaaMemB
namespace Go.Proofs.Yteokhnjjneeeeaa
open Go.RowKit Go.Lec

theorem RDec_err {w w1 : World} {l : List UInt8} {err : Int} (h : dec l = .error err) (hb : Below w.heap.size w w1) :
    RDecPost w l (.returned (.tuple #[.agg #[.int .i64 0, .slice none 0 0, .int .i64 0, .int .i64 0, .string ⟨#[]⟩], .int .i64 err])) w1 := .inr ⟨err, h, rfl, hb⟩

set_option maxHeartbeats 1600000 in
theorem c_rDecode (w : World) {B : Nat} {A : Option Addr} {n c : Nat} {l : List UInt8} (hr : Rd w B A n (bcs l)) (hB : B ≤ w.heap.size) (hc : n ≤ c) (hn : n ≤ 1099511627) :
    Calls Try.prog 14 #[.slice A n c] w (RDecPost w l) := by
  have hln := hr.1
  rw [bcs_length] at hln
  have Hln := Lib.hid hln; clear hln
  have hR0 := (Bk.new_ w 24 #[.int .i64 0, .slice none 0 0, .int .i64 0, .int .i64 0, .string ⟨#[]⟩])
  by_cases hn2 : n < 2
  · have hR := hR0.cell
    have hRz := hR0.frz
    go_enter Try.func14, Try.ntmps14
    go_wp2
    refine bodyPost_ret (v := .tuple #[.agg #[.int .i64 0, .slice none 0 0, .int .i64 0, .int .i64 0, .string ⟨#[]⟩], .int .i64 160]) ?_ rfl ?_
    · simp [results, Try.results14, go_sem, hR]
    · refine RDec_err ?_ ?_
      · unfold dec; rw [if_pos (by rw [Hln.out]; exact hn2)]
      · exact (Below.refl _ _).alloc (Nat.le_refl _) _
  · obtain ⟨A2, hcut2, hr2⟩ := run_cutI slb hr hc 2 (by omega) .i64 2 rfl
    rw [← bcs_drop] at hr2
    go_enter Try.func14, Try.ntmps14
    go_wp2_with fail
    refine (c_rUnescape _ (hr2.alloc hB _) (by simp; omega) (by omega)).mono ?_
    rintro e w1 (⟨s, k, v, hu, rfl, hown, hb⟩ | ⟨hu, rfl, hb⟩)
    · rw [World.size_alloc] at hown hb
      have HR := hR0.below hb (by omega)
      have hB1 : Below w.heap.size w w1 := ((Below.refl _ _).alloc (Nat.le_refl _) _).trans (hb.mono (by omega))
      have hs1 : w.heap.size + 1 ≤ w1.heap.size := by have := hb.size; simpa using this
      have hkl := unesc_len hu
      rw [List.length_drop, Hln.out] at hkl
      obtain ⟨r, hrr⟩ : ∃ r, r = (l.drop 2).drop k := ⟨_, rfl⟩
      have hrl : r.length = n - 2 - k := by rw [hrr, List.length_drop, List.length_drop, Hln.out]
      have Hrr := Lib.hid hrr
      have Hrl := Lib.hid hrl
      have Hu := Lib.hid hu
      clear hrr hrl hu hcut2
      obtain ⟨Av, cv, rfl, _⟩ := hown.shape
      have hR := HR.cell
      have hRz := HR.frz
      by_cases h7 : n < 2 + k + 7
      · have h7i : (n : Int) < 2 + (k : Int) + 7 := by omega
        go_wp2
        refine bodyPost_ret (v := .tuple #[.agg #[.int .i64 0, .slice none 0 0, .int .i64 0, .int .i64 0, .string ⟨#[]⟩], .int .i64 160]) ?_ rfl ?_
        · simp [results, Try.results14, go_sem, hR]
        · refine RDec_err ?_ ?_
          · unfold dec; rw [if_neg (by rw [Hln.out]; exact hn2), Hu.out]; simp only; rw [← Hrr.out]; by_cases h6 : r.length < 6; (rw [if_pos h6]); (rw [if_neg h6, List.drop_eq_nil_of_le (by rw [Hrl.out]; omega)])
          · exact ((((hB1.setCell (by dsimp only; omega) _).setCell (by dsimp only; omega) _).setCell (by dsimp only; omega) _).setCell (by dsimp only; omega) _).setCell (by dsimp only; omega) _
      · have h7i : ¬ (n : Int) < 2 + (k : Int) + 7 := by omega
        obtain ⟨x, t, hxt⟩ : ∃ x t, r.drop 6 = x :: t := by
          cases hx : r.drop 6 with
          | nil => have := congrArg List.length hx; rw [List.length_drop, Hrl.out] at this; simp at this; omega
          | cons x t => exact ⟨x, t, rfl⟩
        have hr6 : 6 < r.length := by rw [Hrl.out]; omega
        have hx6 : r[6] = x := by
          have := List.drop_eq_getElem_cons hr6
          rw [hxt] at this
          exact (List.cons.inj this).1.symm
        have hl6 : l[2 + k + 6]'(by rw [Hln.out]; omega) = x := by
          rw [← hx6]
          simp only [Hrr.out, List.getElem_drop]
          congr 1
        obtain ⟨b, o, rfl, hbB, hcell⟩ := hr.byte (k := 0) (by omega)
        have hcx : w1.cell? ⟨b, o + (2 + k + 6), none⟩ = some (.int .u8 (x.toNat : Int)) := by rw [← hl6]; exact (hB1.cell (by dsimp only; omega)).trans (hcell _ _)
        have Hxt := Lib.hid hxt
        have htl : t.length = n - 2 - k - 6 - 1 := by have := congrArg List.length hxt; rw [List.length_drop, Hrl.out] at this; simp at this; omega
        have Htl := Lib.hid htl
        clear hl6 hxt htl
        by_cases hx1 : 1 < x.toNat
        · have hx1' : (1 : Int) < (x.toNat : Int) := by omega
          go_wp2
          refine bodyPost_ret (v := .tuple #[.agg #[.int .i64 0, .slice none 0 0, .int .i64 0, .int .i64 0, .string ⟨#[]⟩], .int .i64 160]) ?_ rfl ?_
          · simp [results, Try.results14, go_sem, hR]
          · refine RDec_err ?_ ?_
            · unfold dec; rw [if_neg (by rw [Hln.out]; exact hn2), Hu.out]; simp only; rw [← Hrr.out]; rw [if_neg (by rw [Hrl.out]; omega), Hxt.out]; simp only; rw [if_pos hx1]
            · exact ((((hB1.setCell (by dsimp only; omega) _).setCell (by dsimp only; omega) _).setCell (by dsimp only; omega) _).setCell (by dsimp only; omega) _).setCell (by dsimp only; omega) _
        · have hx1' : ¬ (1 : Int) < (x.toNat : Int) := by omega
          obtain ⟨A3, hcut3, hr3⟩ := run_cutI slb hr hc (2 + k) (by omega) .i64 (2 + (k : Int)) (by omega)
          have hrd : (bcs l).drop (2 + k) = bcs r := by rw [← bcs_drop, Hrr.out, List.drop_drop]
          rw [hrd] at hr3
          obtain ⟨A4, hcut4, hr4⟩ := run_cutI slb hr3 (c := c - (2 + k)) (by omega) 7 (by omega) .i64 7 rfl
          have hrd4 : (bcs r).drop 7 = bcs t := by
            rw [← bcs_drop, show (7 : Nat) = 6 + 1 from rfl, ← List.drop_drop, Hxt.out]; rfl
          rw [hrd4] at hr4
          obtain ⟨b3, o3, rfl, hb3B, hcell3⟩ := hr3.byte (k := 0) (by omega)
          have hc0 : ∀ W, Below w.heap.size w W → W.cell? ⟨b, o, none⟩ = some (.int .u8 ((l[0]'(by rw [Hln.out]; omega)).toNat : Int)) := fun W h => (h.cell (p := ⟨b, o, none⟩) (by dsimp only; omega)).trans (hcell 0 (by rw [Hln.out]; omega))
          have hc1 : ∀ W, Below w.heap.size w W → W.cell? ⟨b, o + 1, none⟩ = some (.int .u8 ((l[1]'(by rw [Hln.out]; omega)).toNat : Int)) := fun W h => (h.cell (p := ⟨b, o + 1, none⟩) (by dsimp only; omega)).trans (hcell 1 (by rw [Hln.out]; omega))
          have hc6 : ∀ W, Below w.heap.size w W → W.cell? ⟨b3, o3 + 6, none⟩ = some (.int .u8 (x.toNat : Int)) := fun W h => (h.cell (p := ⟨b3, o3 + 6, none⟩) (by dsimp only; omega)).trans (by rw [← hx6]; exact hcell3 6 hr6)
          have hconv : ∀ W, Below w.heap.size w W → (convert 22 9 (.slice A4 (n - (2 + k) - 7) (c - (2 + k) - 7))).run Try.prog W = .ok (.string ⟨t.toArray⟩) W := fun W h => run_str (P := Try.prog) Try.underlying22 Try.underlying5 Try.underlying9 (hr4.below h hB)
          have hlen3 : (7 : Int) ≤ ((n - (2 + k) : Nat) : Int) := by omega
          have hlen2 : (2 : Int) ≤ (n : Int) := by omega
          have h2 : num (l.take 2) = (l[0]'(by rw [Hln.out]; omega)).toNat * 256 + (l[1]'(by rw [Hln.out]; omega)).toNat := by
            rw [show (2 : Nat) = 0 + 1 + 1 from rfl, num_take l (0 + 1) (by rw [Hln.out]; omega), num_take l 0 (by rw [Hln.out]; omega)]
            simp [num]
          have H2 := Lib.hid h2
          clear h2 hcell hx6
          have hlt0 := (l[0]'(by rw [Hln.out]; omega)).toNat_lt
          have hlt1 := (l[1]'(by rw [Hln.out]; omega)).toNat_lt
          generalize (l[0]'(by rw [Hln.out]; omega)).toNat = y0 at *
          generalize (l[1]'(by rw [Hln.out]; omega)).toNat = y1 at *
          have hxl := x.toNat_lt
          have i0 : 0 < n := by omega
          have i1 : (1 : Int) < (n : Int) := by omega
          have i6 : (6 : Int) < ((n - (2 + k) : Nat) : Int) := by omega
          have s0 : IntKind.i64.wrap (x.toNat : Int) = (x.toNat : Int) := IntWalk.i64_in _ (by omega)
          have s1 : IntKind.i64.wrap (1 - (x.toNat : Int)) = 1 - (x.toNat : Int) := IntWalk.i64_in _ (by omega)
          have s2 : IntKind.i64.wrap ((y0 : Int) * 256) = (y0 : Int) * 256 := IntWalk.i64_in _ (by omega)
          have s3 : IntKind.i64.wrap ((y0 : Int) * 256 + (y1 : Int)) = (y0 : Int) * 256 + (y1 : Int) := IntWalk.i64_in _ (by omega)
          have s4 : IntKind.i64.wrap (y0 : Int) = (y0 : Int) := IntWalk.i64_in _ (by omega)
          have s5 : IntKind.i64.wrap (y1 : Int) = (y1 : Int) := IntWalk.i64_in _ (by omega)
          go_wp2_with fail
          go_region_held3 (fun W => Below w.heap.size w W) (first | exact hB1.drew | assumption | exact (Below.alloc hB1 (by omega) _).drew | exact Below.alloc (by assumption) (by simp; omega) _ | exact Below.setCell (by assumption) (by simp; omega) _)
            (fail)
          clear i0 i1 i6 s0 s1 s2 s3 s4 s5 hc0 hc1 hc6 hconv hcut3 hcut4 hcx hR0 hR
          obtain ⟨w3, hw3⟩ : ∃ y, y = (w1.alloc (.cells #[.int .i64 ((y0 : Int) * 256 + (y1 : Int)), .slice Av (bcs s).length cv, .int .i64 0, .int .i64 (1 - (x.toNat : Int)), .string ⟨t.toArray⟩] 24)).drew := ⟨_, rfl⟩
          have HK3 : Bk w3 w1.heap.size 24 #[.int .i64 ((y0 : Int) * 256 + (y1 : Int)), .slice Av (bcs s).length cv, .int .i64 0, .int .i64 (1 - (x.toNat : Int)), .string ⟨t.toArray⟩] := by rw [hw3]; exact Bk.new_ w1 _ _
          have HR3 : Bk w3 w.heap.size 24 #[.int .i64 0, .slice none 0 0, .int .i64 0, .int .i64 0, .string ⟨#[]⟩] := by rw [hw3]; exact (HR.alloc _)
          have hB3 : Below w.heap.size w w3 := by rw [hw3]; exact (hB1.alloc (by omega) _).drew
          have hown3 : Own w3 (w.heap.size + 1) 5 (.slice Av (bcs s).length cv) (bcs s) := by rw [hw3]; exact (hown.alloc _).drew
          have hcell6 : ∀ j (hj : j < r.length), w3.cell? ⟨b3, o3 + j, none⟩ = some (.int .u8 (r[j].toNat : Int)) := fun j hj => (hB3.cell (by dsimp only; omega)).trans (hcell3 j hj)
          rw [← hw3]
          have hsz3 : w1.heap.size < w3.heap.size := HK3.lt
          have hob : (Value.slice Av (bcs s).length cv).ownBlock ≠ some w1.heap.size := fun e => by have := (World.ownsRow.lt hown _ e).2; omega
          generalize w1.heap.size = g at *
          have hgne : w.heap.size ≠ g := by omega
          clear hw3 hb HR hB1 hown hRz
          go_wp2_with fail
          go_loop [9, 10] (fun m i => ∃ j : Nat, j ≤ 6 ∧ i = .int .i64 j ∧ m = .int .i64 (num (r.take j) : Nat)) (fun _ i => 6 - (intOf i).toNat)
          case atStart => exact ⟨0, by omega, rfl, rfl⟩
          case round =>
            obtain ⟨j, hj, rfl, rfl⟩ := hrel
            by_cases hj6 : j < 6
            · have hjr : j < r.length := by omega
              have hcj := hcell6 j hjr
              have hnl2 : num (r.take j) < 1099511627776 := by
                refine Nat.lt_of_lt_of_le (num_lt (r.take j)) ?_
                rw [List.length_take, Nat.min_eq_left (by omega)]
                exact Nat.le_trans (Nat.pow_le_pow_right (by decide) (show j ≤ 5 by omega)) (by decide)
              have hbt := r[j].toNat_lt
              have Hnt := Lib.hid (num_take r j hjr)
              have hji : (j : Int) < ((n - (2 + k) : Nat) : Int) := by omega
              clear hcell6 hcell3
              go_wp2
              go_round
              case rel => exact ⟨j + 1, by omega, by go_num, by rw [Hnt.out]; simp⟩
              case measure => simp [intOf]; omega
            · obtain rfl : j = 6 := by omega
              have hN : num (r.take 6) ≤ 281474976710655 := by
                have := num_lt (r.take 6)
                rw [List.length_take, Nat.min_eq_left (by omega)] at this
                exact Nat.le_of_lt_succ this
              have hdec : dec l = if 65536 < s.length ∨ 1024 < t.length then .error 2 else .ok ⟨num (l.take 2), s, 281474976710655 - (num (r.take 6) : Nat), 1 - (x.toNat : Int), t⟩ := by
                unfold dec
                rw [if_neg (by rw [Hln.out]; omega), Hu.out]
                simp only
                rw [← Hrr.out, if_neg (by omega), Hxt.out]
                simp only
                rw [if_neg hx1]
              have Hdec := Lib.hid hdec
              clear hdec hcell6 hcell3
              generalize num (r.take 6) = N6 at *
              have hk := HK3.cell
              have hkz := HK3.frz
              have hR := HR3.cell
              have hRz := HR3.frz
              have hbl := bcs_length s
              have Hbl := Lib.hid hbl
              clear hbl
              by_cases hsl : 65536 < s.length
              · have hsl' : 65536 < (bcs s).length := by rw [Hbl.out]; exact hsl
                go_wp2
                refine bodyPost_ret (v := .tuple #[.agg #[.int .i64 0, .slice none 0 0, .int .i64 0, .int .i64 0, .string ⟨#[]⟩], .int .i64 2]) ?_ rfl ?_
                · simp [results, Try.results14, go_sem, hR]
                · refine RDec_err ?_ ?_
                  · rw [Hdec.out, if_pos (.inl hsl)]
                  · exact (((((hB3.setCell (by dsimp only; omega) _).setCell (by dsimp only; omega) _).setCell (by dsimp only; omega) _).setCell (by dsimp only; omega) _).setCell (by dsimp only; omega) _).setCell (by dsimp only; omega) _
              · have hsl' : ¬ 65536 < (bcs s).length := by rw [Hbl.out]; exact hsl
                by_cases htl : 1024 < t.length
                · go_wp2
                  refine bodyPost_ret (v := .tuple #[.agg #[.int .i64 0, .slice none 0 0, .int .i64 0, .int .i64 0, .string ⟨#[]⟩], .int .i64 2]) ?_ rfl ?_
                  · simp [results, Try.results14, go_sem, hR]
                  · refine RDec_err ?_ ?_
                    · rw [Hdec.out, if_pos (.inr htl)]
                    · exact (((((hB3.setCell (by dsimp only; omega) _).setCell (by dsimp only; omega) _).setCell (by dsimp only; omega) _).setCell (by dsimp only; omega) _).setCell (by dsimp only; omega) _).setCell (by dsimp only; omega) _
                · go_wp2
                  refine bodyPost_ret (v := .tuple #[keyVal ⟨num (l.take 2), s, 281474976710655 - (N6 : Nat), 1 - (x.toNat : Int), t⟩ (.slice Av (bcs s).length cv), .int .i64 0]) ?_ rfl ?_
                  · simp [results, Try.results14, keyVal, go_sem, hR, H2.out]
                  · refine .inl ⟨_, _, ?_, rfl, ?_, ?_⟩
                    · rw [Hdec.out, if_neg (by omega)]
                    · refine Own.mono (B := w.heap.size + 1) ?_ (by omega)
                      exact ownsRow_setCell_below (ownsRow_setCell_below (ownsRow_setCell_below (ownsRow_setCell_below (ownsRow_setCell_below (ownsRow_setCell_other hown3 hob _) (by dsimp only; omega) _) (by dsimp only; omega) _) (by dsimp only; omega) _) (by dsimp only; omega) _) (by dsimp only; omega) _
                    · exact (((((hB3.setCell (by dsimp only; omega) _).setCell (by dsimp only; omega) _).setCell (by dsimp only; omega) _).setCell (by dsimp only; omega) _).setCell (by dsimp only; omega) _).setCell (by dsimp only; omega) _
    · rw [World.size_alloc] at hb
      have HR := hR0.below hb (by omega)
      have hR := HR.cell
      have hRz := HR.frz
      go_wp2
      refine bodyPost_ret (v := .tuple #[.agg #[.int .i64 0, .slice none 0 0, .int .i64 0, .int .i64 0, .string ⟨#[]⟩], .int .i64 160]) ?_ rfl ?_
      · simp [results, Try.results14, go_sem, hR]
      · refine RDec_err ?_ ?_
        · unfold dec; rw [if_neg (by rw [Hln.out]; exact hn2), hu]
        · exact (((((((Below.refl _ _).alloc (Nat.le_refl _) _).trans (hb.mono (by omega))).setCell (by dsimp only; omega) _).setCell (by dsimp only; omega) _).setCell (by dsimp only; omega) _).setCell (by dsimp only; omega) _).setCell (by dsimp only; omega) _
end Go.Proofs.Yteokhnjjneeeeaa
