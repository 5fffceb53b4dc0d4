/- Layer 16: decode. -/
import Derived.Test.YteokhnjjneeeeaaIkH
namespace Go.Proofs.Yteokhnjjneeeeaa
open Go.RowKit Go.Lec

theorem bcs_drop (l : List UInt8) (k : Nat) : bcs (l.drop k) = (bcs l).drop k := by simp [bcs]
/-- A key as a value, its sort key held by v. -/
def keyVal (K : Key) (v : Value) : Value := .agg #[.int .i64 K.ep, v, .int .i64 K.sq, .int .i64 K.kd, .string ⟨K.txt.toArray⟩]
/-- What decode answers, or throws. -/
def DecPost (w : World) (l : List UInt8) (e : Ending) (w' : World) : Prop :=
  (∃ K v, dec l = .ok K ∧ e = .returned (keyVal K v) ∧ Own w' w.heap.size 5 v (bcs K.srt) ∧ Below w.heap.size w w') ∨
  (∃ err, dec l = .error err ∧ e = .panicked [{ v := failVal err, recovered := false }] ∧ Below w.heap.size w w')

set_option maxHeartbeats 1600000 in
theorem c_decode (w : World) {B : Nat} {A : Option Addr} {n c : Nat} {l : List UInt8} (hr : Rd w B A n (bcs l)) (hB : B ≤ w.heap.size) (hc : n ≤ c) (hn : n ≤ 1099511627) :
    Calls Try.prog 31 #[.slice A n c] w (DecPost w l) := by
  have hmf : ∀ (fn : Fn) (first cap : Array Value) (w : World), (Instr.makeFunc fn first cap).run Try.prog w = .ok (.func fn first cap) w := fun _ _ _ _ => rfl
  have hln := hr.1
  rw [bcs_length] at hln
  have Hln := Lib.hid hln; clear hln
  go_enter Try.func31, Try.ntmps31
  go_wp2_with fail
  refine (c_number _ (w.heap.size + 1) 2 ((hr.alloc hB _).alloc (by simp; omega) _) hc hn (by decide) (by decide) (by simp [go_sem]) (by simp [go_sem])).mono ?_
  rintro e w1 (⟨A1, c1, hw1, rfl, hc1, hr1, rfl⟩ | ⟨hw1, rfl, rfl⟩)
  · have hr1w : Rd w B A1 (n - 2) (bcs (l.drop 2)) := hr1.keep fun p hp => by rw [World.cell?_alloc_lt _ _ _ (by simp; omega), World.cell?_alloc_lt _ _ _ (by omega)]
    clear hr1
    go_wp2_with fail
    obtain ⟨HR, HG, HK, hsz, hBl⟩ := Bk.new3 w 24 #[.int .i64 0, .slice none 0 0, .int .i64 0, .int .i64 0, .string ⟨#[]⟩] 65 #[.slice A1 (n - 2) c1] 24 #[.int .i64 (num (l.take 2) : Nat), .slice none 0 0, .int .i64 0, .int .i64 0, .string ⟨#[]⟩]
    refine (c_unescape _ (hr1w.below hBl hB) (by rw [hsz]; omega) (by omega)).mono ?_
    rintro e w1 (⟨s, k, v, hu, rfl, hown, hb⟩ | ⟨hu, rfl, hb⟩)
    · rw [hsz] at hown hb
      have HR1 := HR.below hb (by omega)
      have HG1 := HG.below hb (by omega)
      have HK1 := HK.below hb (by omega)
      have hB1 : Below w.heap.size w w1 := hBl.trans (hb.mono (by omega))
      have hs1 : w.heap.size + 1 + 1 + 1 ≤ w1.heap.size := by have := hb.size; omega
      obtain ⟨Av, cv, rfl, hcv⟩ := hown.shape
      have hkl := unesc_len hu
      rw [List.length_drop, Hln.out] at hkl
      obtain ⟨A2, hcut, hr2⟩ := run_cut slb hr1w hc1 (k := k) (by omega) .i64
      rw [← bcs_drop] at hr2
      obtain ⟨r, hrr⟩ : ∃ r, r = (l.drop 2).drop k := ⟨_, rfl⟩
      rw [← hrr] at hr2
      have hrl : r.length = n - 2 - k := by rw [hrr, List.length_drop, List.length_drop, Hln.out]
      have Hrr := Lib.hid hrr
      have Hrl := Lib.hid hrl
      clear hrr hrl
      have Hu := Lib.hid hu
      clear HR HG HK hsz hBl hb hu
      have hG := HG1.cell 0
      have hGz := HG1.frz 0
      have hK := HK1.cell
      have hKz := HK1.frz
      go_wp2_with fail
      obtain ⟨w2, hw2⟩ : ∃ x, x = (w1.setCell ⟨w.heap.size + 1, 0, none⟩ (.slice A2 (n - 2 - k) (c1 - k))).setCell ⟨w.heap.size + 1 + 1, 1, none⟩ (.slice Av (bcs s).length cv) := ⟨_, rfl⟩
      rw [← hw2]
      have HR2 : Bk w2 w.heap.size 24 #[.int .i64 0, .slice none 0 0, .int .i64 0, .int .i64 0, .string ⟨#[]⟩] := by rw [hw2]; exact (HR1.far (by simp) _).far (by simp; omega) _
      have HG2 : Bk w2 (w.heap.size + 1) 65 #[.slice A2 (n - 2 - k) (c1 - k)] := by rw [hw2]; exact (HG1.set_ 0 _).far (by simp) _
      have HK2 : Bk w2 (w.heap.size + 1 + 1) 24 #[.int .i64 (num (l.take 2) : Nat), .slice Av (bcs s).length cv, .int .i64 0, .int .i64 0, .string ⟨#[]⟩] := by rw [hw2]; exact (HK1.far (by simp) _).set_ 1 _
      have hB2 : Below w.heap.size w w2 := by rw [hw2]; exact (hB1.setCell (by simp) _).setCell (by simp; omega) _
      have hown2 : Own w2 (w.heap.size + 1 + 1 + 1) 5 (.slice Av (bcs s).length cv) (bcs s) := by rw [hw2]; exact ownsRow_setCell_below (ownsRow_setCell_below hown (by simp) _) (by simp) _
      have hs2 : w.heap.size + 1 + 1 + 1 ≤ w2.heap.size := by rw [hw2]; simpa using hs1
      clear hw2 hK hKz hG hGz hown hB1 HR1 HG1 HK1 hcut hs1
      refine (c_number w2 (w.heap.size + 1) 6 (hr2.below hB2 hB) (by omega) (by omega) (by decide) (by decide) (HG2.cell 0) (HG2.frz 0)).mono ?_
      rintro e w3 (⟨A3, c3, hw6, rfl, hc3, hr3, hw3⟩ | ⟨hw6, rfl, rfl⟩)
      · have hr3w : Rd w B A3 (n - 2 - k - 6) (bcs (r.drop 6)) := hr3.keep fun p hp => (hB2.cell (by omega)).symm
        have HR3 : Bk w3 w.heap.size 24 #[.int .i64 0, .slice none 0 0, .int .i64 0, .int .i64 0, .string ⟨#[]⟩] := by rw [hw3]; exact HR2.far (by simp) _
        have HG3 : Bk w3 (w.heap.size + 1) 65 #[.slice A3 (n - 2 - k - 6) c3] := by rw [hw3]; exact HG2.set_ 0 _
        have HK3 : Bk w3 (w.heap.size + 1 + 1) 24 #[.int .i64 (num (l.take 2) : Nat), .slice Av (bcs s).length cv, .int .i64 0, .int .i64 0, .string ⟨#[]⟩] := by rw [hw3]; exact HK2.far (by simp) _
        have hB3 : Below w.heap.size w w3 := by rw [hw3]; exact hB2.setCell (by simp) _
        have hown3 : Own w3 (w.heap.size + 1 + 1 + 1) 5 (.slice Av (bcs s).length cv) (bcs s) := by rw [hw3]; exact ownsRow_setCell_below hown2 (by simp) _
        have hs3 : w.heap.size + 1 + 1 + 1 ≤ w3.heap.size := by rw [hw3]; simpa using hs2
        clear hw3 hown2 hB2 HR2 HG2 HK2 hs2 hr3
        have hK := HK3.cell
        have hKz := HK3.frz
        have hN : num (r.take 6) ≤ 281474976710655 := by
          have := num_lt (r.take 6)
          rw [List.length_take, Hrl.out, Nat.min_eq_left hw6] at this
          exact Nat.le_of_lt_succ this
        generalize hN6 : num (r.take 6) = N6 at hN ⊢
        have HN6 := Lib.hid hN6; clear hN6
        go_wp2_with fail
        obtain ⟨w4, hw4⟩ : ∃ x, x = w3.setCell ⟨w.heap.size + 1 + 1, 2, none⟩ (.int .i64 (281474976710655 - (N6 : Int))) := ⟨_, rfl⟩
        rw [← hw4]
        have HR4 : Bk w4 w.heap.size 24 #[.int .i64 0, .slice none 0 0, .int .i64 0, .int .i64 0, .string ⟨#[]⟩] := by rw [hw4]; exact HR3.far (by simp; omega) _
        have HG4 : Bk w4 (w.heap.size + 1) 65 #[.slice A3 (n - 2 - k - 6) c3] := by rw [hw4]; exact HG3.far (by simp) _
        have HK4 : Bk w4 (w.heap.size + 1 + 1) 24 #[.int .i64 (num (l.take 2) : Nat), .slice Av (bcs s).length cv, .int .i64 (281474976710655 - (N6 : Int)), .int .i64 0, .string ⟨#[]⟩] := by rw [hw4]; exact HK3.set_ 2 _
        have hB4 : Below w.heap.size w w4 := by rw [hw4]; exact hB3.setCell (by simp; omega) _
        have hown4 : Own w4 (w.heap.size + 1 + 1 + 1) 5 (.slice Av (bcs s).length cv) (bcs s) := by rw [hw4]; exact ownsRow_setCell_below hown3 (by simp) _
        have hs4 : w.heap.size + 1 + 1 + 1 ≤ w4.heap.size := by rw [hw4]; simpa using hs3
        clear hw4 hown3 hB3 HR3 HG3 HK3 hs3 hK hKz
        refine (c_number w4 (w.heap.size + 1) 1 (hr3w.below hB4 hB) (by omega) (by omega) (by decide) (by decide) (HG4.cell 0) (HG4.frz 0)).mono ?_
        rintro e w5 (⟨A5, c5, hw7, rfl, hc5, hr5, hw5⟩ | ⟨hw7, rfl, rfl⟩)
        · obtain ⟨x, t, hxt⟩ : ∃ x t, r.drop 6 = x :: t := by
            cases hx : r.drop 6 with
            | nil => have := congrArg List.length hx; rw [List.length_drop, Hrl.out] at this; simp at this; omega
            | cons x t => exact ⟨x, t, rfl⟩
          rw [hxt] at hr5 ⊢
          have htl : t.length = n - 2 - k - 6 - 1 := by have := congrArg List.length hxt; rw [List.length_drop, Hrl.out] at this; simp at this; omega
          have Hxt := Lib.hid hxt
          have Htl := Lib.hid htl
          clear hxt htl
          rw [show num (List.take 1 (x :: t)) = x.toNat from by simp [num]]
          rw [show List.drop 1 (x :: t) = t from rfl] at hr5
          have hr5w : Rd w B A5 (n - 2 - k - 6 - 1) (bcs t) := hr5.keep fun p hp => (hB4.cell (by omega)).symm
          have HR5 : Bk w5 w.heap.size 24 #[.int .i64 0, .slice none 0 0, .int .i64 0, .int .i64 0, .string ⟨#[]⟩] := by rw [hw5]; exact HR4.far (by simp) _
          have HG5 : Bk w5 (w.heap.size + 1) 65 #[.slice A5 (n - 2 - k - 6 - 1) c5] := by rw [hw5]; exact HG4.set_ 0 _
          have HK5 : Bk w5 (w.heap.size + 1 + 1) 24 #[.int .i64 (num (l.take 2) : Nat), .slice Av (bcs s).length cv, .int .i64 (281474976710655 - (N6 : Int)), .int .i64 0, .string ⟨#[]⟩] := by rw [hw5]; exact HK4.far (by simp) _
          have hB5 : Below w.heap.size w w5 := by rw [hw5]; exact hB4.setCell (by simp) _
          have hown5 : Own w5 (w.heap.size + 1 + 1 + 1) 5 (.slice Av (bcs s).length cv) (bcs s) := by rw [hw5]; exact ownsRow_setCell_below hown4 (by simp) _
          have hs5 : w.heap.size + 1 + 1 + 1 ≤ w5.heap.size := by rw [hw5]; simpa using hs4
          clear hw5 hown4 hB4 HR4 HG4 HK4 hs4 hr5
          have hG := HG5.cell 0
          have hGz := HG5.frz 0
          have hK := HK5.cell
          have hKz := HK5.frz
          have hR := HR5.cell
          have hRz := HR5.frz
          have hdec : dec l = if 1 < x.toNat then .error 160 else if 65536 < s.length ∨ 1024 < t.length then .error 2 else .ok ⟨num (l.take 2), s, 281474976710655 - (N6 : Nat), 1 - (x.toNat : Int), t⟩ := by
            unfold dec
            rw [if_neg (by rw [Hln.out]; omega), Hu.out]
            simp only
            rw [← Hrr.out, if_neg (by rw [Hrl.out]; omega), Hxt.out, HN6.out]
          have Hdec := Lib.hid hdec
          clear hdec
          by_cases hx1 : 1 < x.toNat
          · have hx1' : ¬ ((x.toNat : Int) ≤ 1) := by omega
            go_wp2_with (first | (go_at_call 38; refine (c_must_no _ _ _ ?_).mono ?_; (first | rfl | (simp; done) | (simp; omega) | (simp [*]; done)); rintro e w' ⟨rfl, rfl⟩))
            exact ⟨rfl, .inr ⟨160, by rw [Hdec.out, if_pos hx1], rfl, hB5⟩⟩
          · have hx1' : ((x.toNat : Int) ≤ 1) := by omega
            have hr6 : Rd (w5.setCell ⟨w.heap.size + 1 + 1, 3, none⟩ (.int .i64 (1 - (x.toNat : Int)))) B A5 (n - 2 - k - 6 - 1) (bcs t) := (hr5w.below hB5 hB).keep fun p hp => World.cell?_setCell_other _ _ _ _ (fun e => by rw [← e] at hp; simp at hp; omega)
            have hconv := run_str (P := Try.prog) Try.underlying22 Try.underlying5 Try.underlying9 (c := c5) hr6
            have htm := Htl.out
            generalize n - 2 - k - 6 - 1 = m5 at *
            have Htm := Lib.hid htm
            clear hr6 hr5w Htl htm hc5 hw7
            by_cases hsl : s.length ≤ 65536
            · have hsl' : (bcs s).length ≤ 65536 := by rw [bcs_length]; exact hsl
              by_cases htl : m5 ≤ 1024
              · go_wp2_with (first | (go_at_call 38; refine (c_must_ok _ _ _ ?_).mono ?_; (first | rfl | (simp; done) | (simp; omega) | (simp [*]; done)); rintro e w' ⟨rfl, rfl⟩))
                refine bodyPost_ret (v := keyVal ⟨num (l.take 2), s, 281474976710655 - (N6 : Nat), 1 - (x.toNat : Int), t⟩ (.slice Av (bcs s).length cv)) ?_ rfl ?_
                · simp [results, Try.results31, keyVal, go_sem, hR]
                · refine .inl ⟨_, _, ?_, rfl, ?_, ?_⟩
                  · rw [Hdec.out, if_neg hx1, if_neg]
                    rw [Htm.out]
                    omega
                  · refine Own.mono (B := w.heap.size + 1 + 1 + 1) ?_ (by omega)
                    exact ownsRow_setCell_below (ownsRow_setCell_below (ownsRow_setCell_below (ownsRow_setCell_below (ownsRow_setCell_below (ownsRow_setCell_below (ownsRow_setCell_below hown5 (by dsimp only; omega) _) (by dsimp only; omega) _) (by dsimp only; omega) _) (by dsimp only; omega) _) (by dsimp only; omega) _) (by dsimp only; omega) _) (by dsimp only; omega) _
                  · exact Below.setCell (Below.setCell (Below.setCell (Below.setCell (Below.setCell (Below.setCell (Below.setCell hB5 (by dsimp only; omega) _) (by dsimp only; omega) _) (by dsimp only; omega) _) (by dsimp only; omega) _) (by dsimp only; omega) _) (by dsimp only; omega) _) (by dsimp only; omega) _
              · go_wp2_with (first | (go_at_call 38; refine (c_must_ok _ _ _ ?_).mono ?_; (first | rfl | (simp; done) | (simp; omega) | (simp [*]; done)); rintro e w' ⟨rfl, rfl⟩) | (go_at_call 38; refine (c_must_no _ _ _ ?_).mono ?_; (first | rfl | (simp; done) | (simp; omega) | (simp [*]; done)); rintro e w' ⟨rfl, rfl⟩))
                exact ⟨rfl, .inr ⟨2, by rw [Hdec.out, if_neg hx1, if_pos (.inr (by rw [Htm.out]; omega))], rfl, hB5.setCell (by simp; omega) _⟩⟩
            · have hsl' : ¬ (bcs s).length ≤ 65536 := by rw [bcs_length]; exact hsl
              go_wp2_with (first | (go_at_call 38; refine (c_must_ok _ _ _ ?_).mono ?_; (first | rfl | (simp; done) | (simp; omega) | (simp [*]; done)); rintro e w' ⟨rfl, rfl⟩) | (go_at_call 38; refine (c_must_no _ _ _ ?_).mono ?_; (first | rfl | (simp; done) | (simp; omega) | (simp [*]; done)); rintro e w' ⟨rfl, rfl⟩))
              exact ⟨rfl, .inr ⟨2, by rw [Hdec.out, if_neg hx1, if_pos (.inl (by omega))], rfl, hB5.setCell (by simp; omega) _⟩⟩
        · go_wp2_with fail
          refine ⟨rfl, .inr ⟨160, ?_, rfl, hB4⟩⟩
          unfold dec
          rw [if_neg (by rw [Hln.out]; omega), Hu.out]
          simp only
          rw [← Hrr.out, if_neg (by rw [Hrl.out]; omega), List.drop_eq_nil_of_le (by rw [Hrl.out]; omega)]
      · go_wp2_with fail
        refine ⟨rfl, .inr ⟨160, ?_, rfl, hB2⟩⟩
        unfold dec
        rw [if_neg (by rw [Hln.out]; omega), Hu.out]
        simp only
        rw [← Hrr.out, if_pos (by rw [Hrl.out]; omega)]
    · rw [hsz] at hb
      go_wp2_with fail
      refine ⟨rfl, .inr ⟨160, ?_, rfl, hBl.trans (hb.mono (by omega))⟩⟩
      unfold dec
      rw [if_neg (by rw [Hln.out]; omega), hu]
  · go_wp2_with fail
    exact ⟨rfl, .inr ⟨160, by unfold dec; rw [Hln.out, if_pos hw1], rfl, ((Below.refl _ _).alloc (Nat.le_refl _) _).alloc (by simp) _⟩⟩
end Go.Proofs.Yteokhnjjneeeeaa
