/- Layer 20: the reference reads entries: the walk. -/
import Derived.LoopN
import Derived.Test.YtjcifmbbdofjiaaBlRd
import Derived.Test.YtjcifmbbdofjiaaCdE
namespace Go.Lec
open Go.RowKit
theorem ownK_ne {w : World} {B B' k n : Nat} {e e' : TypeId} {v v' : Value} {xs ys : List Value} (h : OwnK w B e k v n xs) (h' : Own w B' e' v' ys) (hne : e ≠ e') (g : Nat) (hg : v.ownBlock = some g) : v'.ownBlock ≠ some g := by
  intro hg'
  rcases h.2 with ⟨rfl, _⟩ | ⟨g1, cap, cur, rfl, _, hh, _⟩
  · cases hg
  · rcases h'.2 with ⟨rfl, _⟩ | ⟨g2, cap2, cur2, rfl, _, hh2, _⟩
    · cases hg'
    · cases hg
      cases hg'
      rw [hh] at hh2
      cases hh2
      exact hne rfl
theorem own_far {w : World} {B : Nat} {e : TypeId} {A : Option Addr} {n c : Nat} {xs : List Value} (h : Own w B e (.slice A n c) xs) (a : Addr) (ha : A = some a) : (Value.slice A n c).ownBlock = some a.block := by subst ha; rfl
section
variable {b last : List UInt8} {s f h r v t k0 k1 k2 : Nat} {acc : List Pl} {er : Int}
theorem rd3_e0 (h0 : rdU (b.drop s) = .error er) : rd3 b s = none := by rw [rd3, h0]
theorem rd3_e1 (h0 : rdU (b.drop s) = .ok (h, k0)) (h1 : rdU (b.drop (s + k0)) = .error er) : rd3 b s = none := by rw [rd3, h0]; simp only []; rw [h1]
theorem rd3_e2 (h0 : rdU (b.drop s) = .ok (h, k0)) (h1 : rdU (b.drop (s + k0)) = .ok (r, k1)) (h2 : rdU (b.drop (s + k0 + k1)) = .error er) : rd3 b s = none := by rw [rd3, h0]; simp only []; rw [h1]; simp only []; rw [h2]
theorem rd3_on (h0 : rdU (b.drop s) = .ok (h, k0)) (h1 : rdU (b.drop (s + k0)) = .ok (r, k1)) (h2 : rdU (b.drop (s + k0 + k1)) = .ok (v, k2)) : rd3 b s = some (h, r, v, s + k0 + k1 + k2) := by rw [rd3, h0]; simp only []; rw [h1]; simp only []; rw [h2]
theorem rfEs_no (hlt : s < b.length) (h3 : rd3 b s = none) : rfEs (f + 1) b s last acc = none := by rw [rfEs, if_pos hlt, h3]
theorem rfEs_off (hlt : s < b.length) (h3 : rd3 b s = some (h, r, v, t)) (hc : ¬ (h ≤ last.length ∧ r ≤ b.length - t ∧ v ≤ b.length - t - r)) : rfEs (f + 1) b s last acc = none := by rw [rfEs, if_pos hlt, h3]; simp only []; rw [if_neg hc]
theorem rfEs_on (hlt : s < b.length) (h3 : rd3 b s = some (h, r, v, t)) (hc : h ≤ last.length ∧ r ≤ b.length - t ∧ v ≤ b.length - t - r) :
    rfEs (f + 1) b s last acc = rfEs f b (t + r + v) (last.take h ++ (b.drop t).take r) (acc ++ [(last.take h ++ (b.drop t).take r, (b.drop (t + r)).take v)]) := by rw [rfEs, if_pos hlt, h3]; simp only []; rw [if_pos hc]
end
end Go.Lec
namespace Go.Proofs.Ytjcifmbbdofjiaa
open Go.RowKit Go.Lec Go.Op
/-- What entries answers. -/
def EtPost (w : World) (b : List UInt8) (e : Ending) (w' : World) : Prop :=
  (∃ (l : List Pl) (A : Option Addr) (n c : Nat) (O : List Pr), rfAll b = some l ∧ e = .returned (.tuple #[.slice A n c, .bool true]) ∧ Prs w' w'.heap.size A n O ∧ O.map Pr.pl = l ∧ Below w.heap.size w w') ∨
  (rfAll b = none ∧ e = .returned (.tuple #[.slice none 0 0, .bool false]) ∧ Below w.heap.size w w')
set_option maxRecDepth 100000 in
set_option maxHeartbeats 8000000 in
theorem c_entries (w : World) {B n c : Nat} {A : Option Addr} {b : List UInt8} (hr : Rd w B A n (bcs b)) (hB : B ≤ w.heap.size) (hc : n ≤ c) (hn : n ≤ 1048576) :
    Calls Try.prog 59 #[.slice A n c] w (EtPost w b) := by
  have hln := hr.1
  rw [bcs_length] at hln
  obtain ⟨RA, hRA⟩ : ∃ R, R = rfAll b := ⟨_, rfl⟩
  have HRA := Lib.hid hRA.symm
  have Hln := Lib.hid hln
  have HR0 := Lib.hid (show RA = rfEs (n + 1) b 0 [] [] from by rw [hRA, rfAll, hln])
  clear hRA hln
  go_enter Try.func59, Try.ntmps59
  go_wp2
  go_loopw [0, 4, 5] (fun bv ov lv wr => ∃ (s f : Nat) (As : Option Addr) (cs : Nat) (O : List Pr) (last : List UInt8), bv = .slice As (n - s) cs ∧ n - s ≤ cs ∧ s ≤ n ∧ Rd w B As (n - s) (bcs (b.drop s)) ∧ Lec.Own wr w.heap.size 5 lv (bcs last) ∧ Gth encPr (w.heap.size ≤ ·) w wr 35 O ov ∧ Hid (RA = rfEs f b s last (O.map Pr.pl)) ∧ n + 1 ≤ f + s ∧ O.length ≤ s ∧ last.length ≤ s) (fun bv _ _ _ => lenOf bv)
  case atStart => exact ⟨0, n + 1, A, c, [], [], rfl, hc, Nat.zero_le _, by simpa using hr, Lec.Own.nil_ _ _ _, Gth.nil _ _ _ _ (Below.refl _ _), HR0, by omega, Nat.zero_le _, Nat.zero_le _⟩
  case round =>
    obtain ⟨s, f, A0, c0, O, last, rfl, hc0, hsn, hrd0, hla, hG, HRs, hfs, hOs, hls⟩ := hrel
    obtain ⟨W0, hW0⟩ : ∃ x, x = wr := ⟨_, rfl⟩
    subst hW0
    obtain ⟨Ao, co, rfl, hco⟩ := hG.own.shape
    obtain ⟨nL, hnL⟩ : ∃ x, x = last.length := ⟨_, rfl⟩
    obtain ⟨AL, cL, rfl, hcL⟩ := hla.shapeN (n := nL) (by rw [bcs_length, hnL])
    have hnLs : nL ≤ s := by omega
    by_cases hlt : s < n
    · obtain ⟨f', rfl⟩ : ∃ f', f = f' + 1 := ⟨f - 1, by omega⟩
      obtain ⟨n0, hn0⟩ : ∃ x, x = n - s := ⟨_, rfl⟩
      rw [← hn0] at hc0 hrd0 ⊢
      have hi0 : (0 : Int) < ((n0 : Nat) : Int) := by omega
      have hbG := hG.below
      have hz0 := hbG.size
      have HQ0 := Bk.new_ W0 108 #[.int .u64 0, .int .u64 0, .int .u64 0]
      have hbw0 := hbG.alloc hz0 (.cells #[.int .u64 0, .int .u64 0, .int .u64 0] 108)
      have hbq0 := (Below.refl W0.heap.size W0).alloc (Nat.le_refl _) (.cells #[.int .u64 0, .int .u64 0, .int .u64 0] 108)
      obtain ⟨q, hq⟩ : ∃ x, x = W0.heap.size := ⟨_, rfl⟩
      obtain ⟨W1, hW1⟩ : ∃ x, x = W0.alloc (.cells #[.int .u64 0, .int .u64 0, .int .u64 0] 108) := ⟨_, rfl⟩
      rw [← hW1] at HQ0 hbw0 hbq0
      rw [← hq] at HQ0 hz0
      have Hq := Lib.hid hq
      have HW1 := Lib.hid hW1
      have HnL := Lib.hid hnL
      have Hn0 := Lib.hid hn0
      have HG := Lib.hid hG
      have HLA := Lib.hid hla
      have hn0m : n0 ≤ 1048576 := by omega
      clear hW1 hq hnL hn0 hla hG
      go_upto_region 5 with fail
      rw [← Hq.out, ← HW1.out]
      go_wp2
      refine wp_loop_rounds 4 ?_
      -- one number: W the world, j its place
      rw [rounds_succ]
      have g0 := HQ0.cell
      have z0 := HQ0.frz
      have HU0 := Lib.hid (c_rReadUint W1 (c := c0) (hrd0.below hbw0 hB) (by omega))
      cases hu0 : rdU (b.drop (s)) with
      | error err =>
        have HRn := Lib.hid (show RA = none from by rw [HRs.out]; exact rfEs_no (by rw [Hln.out]; exact hlt) (rd3_e0 hu0))
        have hne : (err != 0) = true := by have := rdU_err hu0; rw [bne_iff_ne]; omega
        go_wp2_with (first | (go_at_call 72; (with_reducible refine HU0.out.mono ?_); rintro e w' hw'; obtain ⟨rfl, hww⟩ : e = .returned (.tuple #[.int .u64 0, .int .i64 0, .int .i64 err]) ∧ w' = W1 := (by
          rcases hw' with ⟨v, k, h1, _, _⟩ | ⟨err', h1, h2, h3⟩
          · rw [hu0] at h1; cases h1
          · rw [hu0] at h1; cases h1; exact ⟨h2, h3.symm⟩); obtain rfl := hww.symm))
        go_ret2
        exact .inr ⟨by rw [HRA.out]; exact HRn.out, rfl, hbw0⟩
      | ok p0 =>
        obtain ⟨x0, k0⟩ := p0
        have hx0 := (rdU_inv hu0).1
        obtain ⟨hkp0, hkl0⟩ := rdU_len hu0
        rw [List.length_drop, Hln.out] at hkl0
        obtain ⟨A1, hcut0, hrd1⟩ := run_cutI (P := Try.prog) slb hrd0 hc0 k0 (by have := Hn0.out; omega) .i64 (k0 : Int) rfl
        rw [← bcs_drop, List.drop_drop] at hrd1
        have hc1 : n0 - k0 ≤ c0 - k0 := by omega
        obtain ⟨n1, hn1⟩ : ∃ x, x = n0 - k0 := ⟨_, rfl⟩
        obtain ⟨c1, hcc1⟩ : ∃ x, x = c0 - k0 := ⟨_, rfl⟩
        rw [← hn1, ← hcc1] at hcut0 hc1
        rw [← hn1] at hrd1
        have Hn1 := Lib.hid (show n1 = n - (s + k0) from by have := Hn0.out; omega)
        have hnm1 : n1 ≤ 1048576 := by have := Hn0.out; omega
        clear hn1 hcc1
        go_wp2_with (first | (go_at_call 72; (with_reducible refine HU0.out.mono ?_); rintro e w' hw'; obtain ⟨rfl, hww⟩ : e = .returned (.tuple #[.int .u64 (x0 : Int), .int .i64 (k0 : Int), .int .i64 0]) ∧ w' = W1 := (by
          rcases hw' with ⟨v, k, h1, h2, h3⟩ | ⟨err', h1, h2, h3⟩
          · rw [hu0] at h1; cases h1; exact ⟨h2, h3.symm⟩
          · rw [hu0] at h1; cases h1); obtain rfl := hww.symm))
        have HQ1 : Bk (W1.setCell ⟨q, 0, none⟩ (.int .u64 (x0 : Int))) q 108 #[.int .u64 (x0 : Int), .int .u64 0, .int .u64 0] := HQ0.set_ 0 _
        have hbw1 := hbw0.setCell (p := ⟨q, 0, none⟩) hz0 (.int .u64 (x0 : Int))
        have hbq1 := hbq0.setCell (p := ⟨q, 0, none⟩) (by have := Hq.out; dsimp only; omega) (.int .u64 (x0 : Int))
        obtain ⟨W2, hV1⟩ : ∃ x, x = W1.setCell ⟨q, 0, none⟩ (.int .u64 (x0 : Int)) := ⟨_, rfl⟩
        rw [← hV1] at HQ1 hbw1 hbq1 ⊢
        clear hV1 HQ0 hbw0 hbq0 hcut0 g0 z0 HU0
        -- one number: W the world, j its place
        rw [rounds_succ]
        have g1 := HQ1.cell
        have z1 := HQ1.frz
        have HU1 := Lib.hid (c_rReadUint W2 (c := c1) (hrd1.below hbw1 hB) (by omega))
        cases hu1 : rdU (b.drop (s + k0)) with
        | error err =>
          have HRn := Lib.hid (show RA = none from by rw [HRs.out]; exact rfEs_no (by rw [Hln.out]; exact hlt) (rd3_e1 hu0 hu1))
          have hne : (err != 0) = true := by have := rdU_err hu1; rw [bne_iff_ne]; omega
          go_wp2_with (first | (go_at_call 72; (with_reducible refine HU1.out.mono ?_); rintro e w' hw'; obtain ⟨rfl, hww⟩ : e = .returned (.tuple #[.int .u64 0, .int .i64 0, .int .i64 err]) ∧ w' = W2 := (by
            rcases hw' with ⟨v, k, h1, _, _⟩ | ⟨err', h1, h2, h3⟩
            · rw [hu1] at h1; cases h1
            · rw [hu1] at h1; cases h1; exact ⟨h2, h3.symm⟩); obtain rfl := hww.symm))
          go_ret2
          exact .inr ⟨by rw [HRA.out]; exact HRn.out, rfl, hbw1⟩
        | ok p1 =>
          obtain ⟨x1, k1⟩ := p1
          have hx1 := (rdU_inv hu1).1
          obtain ⟨hkp1, hkl1⟩ := rdU_len hu1
          rw [List.length_drop, Hln.out] at hkl1
          obtain ⟨A2, hcut1, hrd2⟩ := run_cutI (P := Try.prog) slb hrd1 hc1 k1 (by have := Hn1.out; omega) .i64 (k1 : Int) rfl
          rw [← bcs_drop, List.drop_drop] at hrd2
          have hc2 : n1 - k1 ≤ c1 - k1 := by omega
          obtain ⟨n2, hn2⟩ : ∃ x, x = n1 - k1 := ⟨_, rfl⟩
          obtain ⟨c2, hcc2⟩ : ∃ x, x = c1 - k1 := ⟨_, rfl⟩
          rw [← hn2, ← hcc2] at hcut1 hc2
          rw [← hn2] at hrd2
          have Hn2 := Lib.hid (show n2 = n - (s + k0 + k1) from by have := Hn1.out; omega)
          have hnm2 : n2 ≤ 1048576 := by have := Hn1.out; omega
          clear hn2 hcc2
          go_wp2_with (first | (go_at_call 72; (with_reducible refine HU1.out.mono ?_); rintro e w' hw'; obtain ⟨rfl, hww⟩ : e = .returned (.tuple #[.int .u64 (x1 : Int), .int .i64 (k1 : Int), .int .i64 0]) ∧ w' = W2 := (by
            rcases hw' with ⟨v, k, h1, h2, h3⟩ | ⟨err', h1, h2, h3⟩
            · rw [hu1] at h1; cases h1; exact ⟨h2, h3.symm⟩
            · rw [hu1] at h1; cases h1); obtain rfl := hww.symm))
          have HQ2 : Bk (W2.setCell ⟨q, 1, none⟩ (.int .u64 (x1 : Int))) q 108 #[.int .u64 (x0 : Int), .int .u64 (x1 : Int), .int .u64 0] := HQ1.set_ 1 _
          have hbw2 := hbw1.setCell (p := ⟨q, 1, none⟩) hz0 (.int .u64 (x1 : Int))
          have hbq2 := hbq1.setCell (p := ⟨q, 1, none⟩) (by have := Hq.out; dsimp only; omega) (.int .u64 (x1 : Int))
          obtain ⟨W3, hV2⟩ : ∃ x, x = W2.setCell ⟨q, 1, none⟩ (.int .u64 (x1 : Int)) := ⟨_, rfl⟩
          rw [← hV2] at HQ2 hbw2 hbq2 ⊢
          clear hV2 HQ1 hbw1 hbq1 hcut1 g1 z1 HU1
          -- one number: W the world, j its place
          rw [rounds_succ]
          have g2 := HQ2.cell
          have z2 := HQ2.frz
          have HU2 := Lib.hid (c_rReadUint W3 (c := c2) (hrd2.below hbw2 hB) (by omega))
          cases hu2 : rdU (b.drop (s + k0 + k1)) with
          | error err =>
            have HRn := Lib.hid (show RA = none from by rw [HRs.out]; exact rfEs_no (by rw [Hln.out]; exact hlt) (rd3_e2 hu0 hu1 hu2))
            have hne : (err != 0) = true := by have := rdU_err hu2; rw [bne_iff_ne]; omega
            go_wp2_with (first | (go_at_call 72; (with_reducible refine HU2.out.mono ?_); rintro e w' hw'; obtain ⟨rfl, hww⟩ : e = .returned (.tuple #[.int .u64 0, .int .i64 0, .int .i64 err]) ∧ w' = W3 := (by
              rcases hw' with ⟨v, k, h1, _, _⟩ | ⟨err', h1, h2, h3⟩
              · rw [hu2] at h1; cases h1
              · rw [hu2] at h1; cases h1; exact ⟨h2, h3.symm⟩); obtain rfl := hww.symm))
            go_ret2
            exact .inr ⟨by rw [HRA.out]; exact HRn.out, rfl, hbw2⟩
          | ok p2 =>
            obtain ⟨x2, k2⟩ := p2
            have hx2 := (rdU_inv hu2).1
            obtain ⟨hkp2, hkl2⟩ := rdU_len hu2
            rw [List.length_drop, Hln.out] at hkl2
            obtain ⟨A3, hcut2, hrd3⟩ := run_cutI (P := Try.prog) slb hrd2 hc2 k2 (by have := Hn2.out; omega) .i64 (k2 : Int) rfl
            rw [← bcs_drop, List.drop_drop] at hrd3
            have hc3 : n2 - k2 ≤ c2 - k2 := by omega
            obtain ⟨n3, hn3⟩ : ∃ x, x = n2 - k2 := ⟨_, rfl⟩
            obtain ⟨c3, hcc3⟩ : ∃ x, x = c2 - k2 := ⟨_, rfl⟩
            rw [← hn3, ← hcc3] at hcut2 hc3
            rw [← hn3] at hrd3
            have Hn3 := Lib.hid (show n3 = n - (s + k0 + k1 + k2) from by have := Hn2.out; omega)
            have hnm3 : n3 ≤ 1048576 := by have := Hn2.out; omega
            clear hn3 hcc3
            go_wp2_with (first | (go_at_call 72; (with_reducible refine HU2.out.mono ?_); rintro e w' hw'; obtain ⟨rfl, hww⟩ : e = .returned (.tuple #[.int .u64 (x2 : Int), .int .i64 (k2 : Int), .int .i64 0]) ∧ w' = W3 := (by
              rcases hw' with ⟨v, k, h1, h2, h3⟩ | ⟨err', h1, h2, h3⟩
              · rw [hu2] at h1; cases h1; exact ⟨h2, h3.symm⟩
              · rw [hu2] at h1; cases h1); obtain rfl := hww.symm))
            have HQ3 : Bk (W3.setCell ⟨q, 2, none⟩ (.int .u64 (x2 : Int))) q 108 #[.int .u64 (x0 : Int), .int .u64 (x1 : Int), .int .u64 (x2 : Int)] := HQ2.set_ 2 _
            have hbw3 := hbw2.setCell (p := ⟨q, 2, none⟩) hz0 (.int .u64 (x2 : Int))
            have hbq3 := hbq2.setCell (p := ⟨q, 2, none⟩) (by have := Hq.out; dsimp only; omega) (.int .u64 (x2 : Int))
            obtain ⟨W4, hV3⟩ : ∃ x, x = W3.setCell ⟨q, 2, none⟩ (.int .u64 (x2 : Int)) := ⟨_, rfl⟩
            rw [← hV3] at HQ3 hbw3 hbq3 ⊢
            clear hV3 HQ2 hbw2 hbq2 hcut2 g2 z2 HU2
            have H3 := Lib.hid (rd3_on hu0 hu1 hu2)
            rw [rounds_succ]
            have g3 := HQ3.cell
            have hwL : IntKind.u64.wrap (nL : Int) = (nL : Int) := wrapN64 _ (by omega)
            have hwN : IntKind.u64.wrap (n3 : Int) = (n3 : Int) := wrapN64 _ (by omega)
            clear hu0 hu1 hu2
            obtain ⟨t, ht⟩ : ∃ t, t = s + k0 + k1 + k2 := ⟨_, rfl⟩
            rw [← ht] at hrd3 H3 Hn3
            have hst : s + 3 ≤ t := by omega
            have htn0 : t ≤ n := by omega
            clear ht
            have hwS : x1 ≤ n3 → IntKind.u64.wrap ((n3 : Int) - (x1 : Int)) = ((n3 - x1 : Nat) : Int) := fun h => by
              rw [show (n3 : Int) - (x1 : Int) = ((n3 - x1 : Nat) : Int) by omega]
              exact wrapN64 _ (by omega)
            by_cases hcc : x0 ≤ nL ∧ x1 ≤ n3 ∧ x2 ≤ n3 - x1
            · obtain ⟨e1, e2, e3⟩ := hcc
              have d1 : decide ((nL : Int) < (x0 : Int)) = false := decide_eq_false (by omega)
              have d2 : decide ((n3 : Int) < (x1 : Int)) = false := decide_eq_false (by omega)
              have d3 : decide (((n3 - x1 : Nat) : Int) < (x2 : Int)) = false := decide_eq_false (by omega)
              have hwS := hwS e2
              go_upto_region 15 with fail
              have hzq := hbq3.size
              have hla4 := HLA.out.below hbq3 (Nat.le_refl _)
              have rdL := ((Lec.Own.rd hla4).take_ e1)
              rw [← bcs_take] at rdL
              have hcH1 := run_cutH (P := Try.prog) slb AL nL cL x0 (by omega) .u64 (x0 : Int) rfl
              have hcH2 := run_cutH (P := Try.prog) slb A3 n3 c3 x1 (by omega) .u64 (x1 : Int) rfl
              have HK := Lib.hid (fun (W' : World) (h : Bk W' q 108 #[.int .u64 (x0 : Int), .int .u64 (x1 : Int), .int .u64 (x2 : Int)]) => (⟨h.cell 0, h.cell 1⟩ : W'.cell? ⟨q, 0, none⟩ = some (.int .u64 (x0 : Int)) ∧ W'.cell? ⟨q, 1, none⟩ = some (.int .u64 (x1 : Int))))
              have hoL : Lec.Own (W4.drew.alloc (.cells #[] 5)) W0.heap.size 5 (.slice (some ⟨W4.heap.size, 0, none⟩) 0 0) [] := Lec.Own.lit W4.drew [] hzq (by decide)
              have hQL : Bk (W4.drew.alloc (.cells #[] 5)) q 108 #[.int .u64 (x0 : Int), .int .u64 (x1 : Int), .int .u64 (x2 : Int)] := HQ3.drew.alloc _
              have hbL : Below W0.heap.size W0 (W4.drew.alloc (.cells #[] 5)) := (Below.drew hbq3).alloc hzq _
              have hxs : x0 + x1 + x2 ≤ 2097152 := by omega
              have HRB := Lib.hid (fun (X : World) (h : Below w.heap.size w X) => (by have := (hrd3.below h hB).take_ e2; rw [← bcs_take] at this; exact this : Rd X B A3 x1 (bcs ((b.drop t).take x1))))
              have HKl := Lib.hid (show (bcs (last.take x0 ++ (b.drop t).take x1)).length = x0 + x1 from by
                have h1 := rdL.1
                have h2 := (HRB.out _ hbw3).1
                rw [bcs_length] at h1 h2
                rw [bcs_length, List.length_append, h1, h2])
              have HL1 := Lib.hid (show ([] ++ bcs (last.take x0) : List Value).length + x1 ≤ 1099511627776 from by
                have h1 := rdL.1
                rw [List.nil_append, h1]; omega)
              clear hla4
              go_region_held3 (fun W' => W'.cell? ⟨q, 0, none⟩ = some (.int .u64 (x0 : Int)) ∧ W'.cell? ⟨q, 1, none⟩ = some (.int .u64 (x1 : Int)))
                ((refine HK.out _ ?_; first | exact HQ3.drew | exact hQL | exact hQ8 | exact hQ9))
                (first
                  | (refine at_app (.tmp 58) (.tmp 62) ?_; go_loud (refine step_app_rd (m := x0) rfl (.tmp 58) (.tmp 62) rfl slb (by decide) rfl hoL hbL hbL.size rfl (rdL.below ((Below.drew (Below.refl W4.heap.size W4)).alloc (Nat.le_refl _) _) (Nat.le_refl _) |>.more (by simp)) bcs_one (by simp; omega) ?_); intro v8 w8 ho8 hb8 hg8 hs8; have hQ8 := hQL.grownX hg8 (own_bk hoL hQL (by decide)))
                  | (refine at_app (.tmp 63) (.tmp 67) ?_; (refine step_app_rd (m := x1) rfl (.tmp 63) (.tmp 67) rfl slb (by decide) rfl ho8 hb8 hs8 rfl ((HRB.out w8 (hbG.trans (hb8.mono hbG.size))).more (Nat.le_trans hB (Nat.le_trans hbG.size hs8))) bcs_one HL1.out ?_); intro v9 w9 ho9 hb9 hg9 hs9; have hQ9 := hQ8.grownX hg9 (own_bk ho8 hQ8 (by decide)); rw [List.nil_append, ← bcs_append] at ho9; obtain ⟨A9, c9, rfl, hc9⟩ := ho9.shapeN (n := x0 + x1) HKl.out))
              have g9 := hQ9.cell
              have hbw9 : Below w.heap.size w w9 := hbG.trans (hb9.mono hbG.size)
              clear hoL hQL hbL hQ8 ho8 hb8 hg8 hs8 hg9 hcH1 hcH2 rdL HK HQ3 g3
              obtain ⟨AV, hcV, rdV⟩ := run_cut2I (P := Try.prog) slb hrd3 hc3 x1 (x1 + x2) (by omega) (by omega) .u64 .u64 (x1 : Int) ((x1 : Int) + (x2 : Int)) rfl (by omega)
              rw [← bcs_take, ← bcs_drop, List.drop_take, List.drop_drop, Nat.add_sub_cancel_left] at rdV
              simp only [Nat.add_sub_cancel_left] at hcV
              obtain ⟨AN, hcN, rdN⟩ := run_cutI (P := Try.prog) slb hrd3 hc3 (x1 + x2) (by omega) .u64 ((x1 : Int) + (x2 : Int)) (by omega)
              rw [← bcs_drop, List.drop_drop] at rdN
              have hwA : IntKind.u64.wrap ((x1 : Int) + (x2 : Int)) = (x1 : Int) + (x2 : Int) := by rw [show (x1 : Int) + (x2 : Int) = ((x1 + x2 : Nat) : Int) by omega]; exact wrapN64 _ (by omega)
              have hoV : Lec.Own (w9.alloc (.cells #[] 5)) w9.heap.size 5 (.slice (some ⟨w9.heap.size, 0, none⟩) 0 0) [] := Lec.Own.lit w9 [] (Nat.le_refl _) (by decide)
              have hb91 := (Below.refl w9.heap.size w9).alloc (Nat.le_refl _) (.cells #[] 5)
              have hQ91 := hQ9.alloc (.cells #[] 5)
              have g91 := hQ91.cell
              have hz9 := hbw9.size
              have hq9 := hQ9.lt
              have HVl := Lib.hid (show (bcs ((b.drop (t + x1)).take x2)).length = x2 from rdV.1)
              have HP := Lib.hid (fun (X : World) (A10 : Option Addr) (c10 : Nat) (hc : x2 ≤ c10) (h1 : Lec.Own X W0.heap.size 5 (.slice A9 (x0 + x1) c9) (bcs (last.take x0 ++ (b.drop t).take x1))) (h2 : Lec.Own X w9.heap.size 5 (.slice A10 x2 c10) (bcs ((b.drop (t + x1)).take x2))) (hz : W0.heap.size ≤ X.heap.size) (hz2 : W0.heap.size ≤ w9.heap.size) =>
                (by
                  have g1 := h1.ge
                  have g2 := h2.ge
                  refine ⟨encPr_ok ⟨Lec.Own.rd h1, Lec.Own.rd h2, hc9, hc, (by dsimp only; omega), (by dsimp only; omega)⟩, HG.out.far ?_, ?_⟩
                  · intro p hp h0 a ha
                    simp only [encPr, List.mem_cons, List.not_mem_nil, or_false] at hp
                    rcases hp with rfl | rfl
                    · exact g1 a ha
                    · exact Nat.le_trans hz2 (g2 a ha)
                  · intro p hp h0 a ha
                    simp only [encPr, List.mem_cons, List.not_mem_nil, or_false] at hp
                    rcases hp with rfl | rfl
                    · exact Nat.le_trans hbG.size (g1 a ha)
                    · exact Nat.le_trans hbG.size (Nat.le_trans hz2 (g2 a ha)) : encPr.ok X X.heap.size (⟨A9, x0 + x1, c9, last.take x0 ++ (b.drop t).take x1, A10, x2, c10, (b.drop (t + x1)).take x2⟩ : Pr) ∧ encPr.lie (fun b => some b ≠ (Value.slice Ao O.length co).ownBlock) (⟨A9, x0 + x1, c9, last.take x0 ++ (b.drop t).take x1, A10, x2, c10, (b.drop (t + x1)).take x2⟩ : Pr) ∧ encPr.lie (w.heap.size ≤ ·) (⟨A9, x0 + x1, c9, last.take x0 ++ (b.drop t).take x1, A10, x2, c10, (b.drop (t + x1)).take x2⟩ : Pr)))
              have hzq9 := hb9.size
              have hc3' := hc3
              clear hc3
              go_wp2_with (first
                | (at_builtin; (refine wpList_app_rd (m := x2) rfl _ _ rfl slb rfl hoV rfl (rdV.below (hbw9.alloc hz9 (.cells #[] 5)) hB) bcs_one (by simp; omega) (by decide) (by simp) ?_); intro vV w10 hoV0 hbV0 _; rw [List.nil_append] at hoV0; have hb10 := hb91.trans hbV0; obtain ⟨A10, c10, rfl, hc10⟩ := hoV0.shapeN (n := x2) HVl.out; have hk10 := ho9.below hb10 (Nat.le_refl _); have hbq10 : Below W0.heap.size W0 w10 := hb9.trans (hb10.mono hzq9); have hG10 := HG.out.grow hbq10; have hQ10 := hQ9.below hb10 hq9; obtain ⟨hpok, hp1, hp2⟩ := HP.out w10 A10 c10 hc10 hk10 hoV0 (Nat.le_trans hzq9 hb10.size) hzq9)
                | (at_builtin; (refine wpList_appK_new rfl _ _ rfl slp (by decide) rfl hG10.own hG10.below hG10.below.size rfl (news := (Pr.cs ⟨A9, x0 + x1, c9, last.take x0 ++ (b.drop t).take x1, A10, x2, c10, (b.drop (t + x1)).take x2⟩)) rfl (Pr.cs_one _) (by omega) ?_); intro v11 w11 ho11 hb11 hg11 hat11 hs11; obtain ⟨A11, c11, rfl, hc11⟩ := ho11.shape; have hQ11 := hQ10.grownX hg11 (fun e => by have := (HG.out.own.lt q e.symm).2; have := Hq.out; omega); have g11 := hQ11.cell))
              have hG11 := hG10.snoc hpok hp1 hp2 ho11 hg11 hat11 hb11
              have hk11 := Lec.Own.grown (Lec.Own.mono hk10 hbG.size) hg11 (fun g hg => ownK_ne hG10.own (Lec.Own.mono hk10 hbG.size) (by decide) g hg)
              have HRf := Lib.hid (show RA = rfEs f' b (t + (x1 + x2)) (last.take x0 ++ (b.drop t).take x1) ((O ++ [(⟨A9, x0 + x1, c9, last.take x0 ++ (b.drop t).take x1, A10, x2, c10, (b.drop (t + x1)).take x2⟩ : Pr)]).map Pr.pl) from by
                rw [HRs.out, rfEs_on (by rw [Hln.out]; exact hlt) H3.out ⟨by rw [← HnL.out]; exact e1, by rw [Hln.out, ← Hn3.out]; exact e2, by rw [Hln.out, ← Hn3.out]; exact e3⟩, List.map_append, Nat.add_assoc]
                rfl)
              have HKl2 := HKl.out
              rw [bcs_length] at HKl2
              have hne1 : n3 - (x1 + x2) = n - (t + (x1 + x2)) := by have := Hn3.out; omega
              have hne2 : n - (t + (x1 + x2)) ≤ c3 - (x1 + x2) := by omega
              have htn : t + (x1 + x2) ≤ n := by have := Hn3.out; omega
              have HN0 := Hn0.out
              clear hpok hp1 hp2 ho11 hg11 hat11 hb11 hG10 hk10
              go_roundw
              case rel => exact ⟨t + (x1 + x2), f', AN, c3 - (x1 + x2), O ++ [⟨A9, x0 + x1, c9, last.take x0 ++ (b.drop t).take x1, A10, x2, c10, (b.drop (t + x1)).take x2⟩], _, by rw [hne1], hne2, htn, hne1 ▸ rdN, hk11, hG11, HRf, by omega, by simp; omega, by omega⟩
              case measure => simp [lenOf]; omega
            · have HRn := Lib.hid (show RA = none from by rw [HRs.out]; exact rfEs_off (by rw [Hln.out]; exact hlt) H3.out (by rw [Hln.out, ← Hn3.out, ← HnL.out]; exact hcc))
              by_cases e1 : x0 ≤ nL
              · have d1 : decide ((nL : Int) < (x0 : Int)) = false := decide_eq_false (by omega)
                by_cases e2 : x1 ≤ n3
                · have d2 : decide ((n3 : Int) < (x1 : Int)) = false := decide_eq_false (by omega)
                  have d3 : decide (((n3 - x1 : Nat) : Int) < (x2 : Int)) = true := decide_eq_true (by have : ¬ x2 ≤ n3 - x1 := fun h => hcc ⟨e1, e2, h⟩; omega)
                  have hwS := hwS e2
                  go_wp2
                  go_ret2
                  exact .inr ⟨by rw [HRA.out]; exact HRn.out, rfl, hbw3⟩
                · have d2 : decide ((n3 : Int) < (x1 : Int)) = true := decide_eq_true (by omega)
                  clear hwS
                  go_wp2
                  go_ret2
                  exact .inr ⟨by rw [HRA.out]; exact HRn.out, rfl, hbw3⟩
              · have d1 : decide ((nL : Int) < (x0 : Int)) = true := decide_eq_true (by omega)
                clear hwS
                go_wp2
                go_ret2
                exact .inr ⟨by rw [HRA.out]; exact HRn.out, rfl, hbw3⟩
    · obtain rfl : s = n := by omega
      have hi0 : ¬ (0 : Int) < ((s - s : Nat) : Int) := by omega
      have HE := Lib.hid (show RA = some (O.map Pr.pl) from by
        cases f with
        | zero => omega
        | succ f' => rw [HRs.out, rfEs, if_neg (by rw [Hln.out]; omega)])
      have hP := prs_of_els (hG.els rfl)
      have hbf := hG.below
      clear hG hla
      go_wp2
      go_ret2
      exact .inl ⟨_, _, _, _, O, by rw [HRA.out]; exact HE.out, rfl, hP, rfl, hbf⟩
end Go.Proofs.Ytjcifmbbdofjiaa
