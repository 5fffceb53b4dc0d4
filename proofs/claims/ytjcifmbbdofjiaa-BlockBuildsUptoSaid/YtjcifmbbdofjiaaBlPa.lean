/- Layer 20: the reference builds: the walk of places. -/
import Derived.Test.YtjcifmbbdofjiaaBlLaw
namespace Go.Proofs.Ytjcifmbbdofjiaa
open Go.RowKit Go.Lec Go.Op
/-- What places answers. -/
def PlPost (w : World) (l : List (List UInt8 × List UInt8)) (every : Nat) (e : Ending) (w' : World) : Prop :=
  ∃ v u, e = .returned (.tuple #[v, u]) ∧ Lec.Own w' w.heap.size 5 v (bcs (bld l every)) ∧ Lec.Own w' w.heap.size 3 u (ncs (plTo l every l.length)) ∧ Below w.heap.size w w'
set_option maxRecDepth 100000 in
set_option maxHeartbeats 4000000 in
theorem c_rPlaces (w : World) {B N c every : Nat} {A : Option Addr} {L : List Pr} (hp : Prs w B A N L) (hB : B ≤ w.heap.size) (he1 : 1 ≤ every) (he2 : every ≤ 1024) (hf : tot (L.map Pr.pl) ≤ 16777216) :
    Calls Try.prog 31 #[.slice A N c, .int .i64 (every : Int)] w (PlPost w (L.map Pr.pl) every) := by
  have hN := hp.len
  have hNt := tot_len (L.map Pr.pl)
  rw [List.length_map, hN] at hNt
  obtain ⟨Lp, hLp⟩ : ∃ l, l = L.map Pr.pl := ⟨_, rfl⟩
  rw [← hLp] at hf hNt ⊢
  have hLpl : Lp.length = N := by rw [hLp, List.length_map, hN]
  have HLp := Lib.hid hLp
  have HLpl := Lib.hid hLpl
  clear hLp hLpl hN
  have hev0 : ((every : Int) == 0) = false := by rw [beq_eq_false_iff_ne]; omega
  go_enter Try.func31, Try.ntmps31
  go_wp2
  go_loopw [8, 6, 7] (fun i v u wr => ∃ k : Nat, k ≤ N ∧ i = .int .i64 (k : Int) ∧ Lec.Own wr w.heap.size 5 v (bcs (bodyTo Lp every k)) ∧ Lec.Own wr w.heap.size 3 u (ncs (plTo Lp every k)) ∧ Below w.heap.size w wr) (fun i _ _ _ => N - (intOf i).toNat)
  case atStart => exact ⟨0, Nat.zero_le _, rfl, Lec.Own.nil_ _ _ _, Lec.Own.nil_ _ _ _, Below.refl _ _⟩
  case round =>
    obtain ⟨k, hk, rfl, ho, hu, hbe⟩ := hrel
    obtain ⟨W0, hW0⟩ : ∃ x, x = wr := ⟨_, rfl⟩
    subst hW0
    have hzw := hbe.size
    by_cases hlt : k < N
    · obtain ⟨b, o, m, rfl, hbB, hmk, _, hmok, hcell⟩ := hp.cell2 hlt
      have HCL := Lib.hid (fun (X : World) (h : Below w.heap.size w X) => hcell X (h.mono hB))
      obtain ⟨c0, c1⟩ := HCL.out W0 hbe
      have hkl : Lp[k]? = some m.pl := by rw [HLp.out, List.getElem?_map, hmk]; rfl
      have htg := tot_get hkl
      have ec1 := hmok.2.2.1
      have hl1 : m.key.length = m.n1 := by have := hmok.1.1; rwa [bcs_length] at this
      have hl2 : m.vl.length = m.n2 := by have := hmok.2.1.1; rwa [bcs_length] at this
      have hm1 : m.n1 + m.n2 ≤ 16777216 := by have := htg; simp only [Pr.pl] at this; omega
      have hki : (k : Int) < (N : Int) := by omega
      obtain ⟨nb, hnb⟩ : ∃ x, x = (bodyTo Lp every k).length := ⟨_, rfl⟩
      have hnbs : nb ≤ 201326592 := by rw [hnb]; exact bodyTo_big hf (by rw [HLpl.out]; exact hk)
      obtain ⟨Av, cv, rfl, hcv⟩ := ho.shapeN (n := nb) (by rw [bcs_length, hnb])
      have hNA : numsAt Lp every k = [sameAt Lp every k, m.n1 - sameAt Lp every k, m.n2] := by
        simp only [numsAt, getD_of hkl, Pr.pl, hl1, hl2]
      have hEN : bodyTo Lp every (k + 1) = bodyTo Lp every k ++ ((numsAt Lp every k).flatMap uvar ++ (m.key.drop (sameAt Lp every k) ++ m.vl)) := by
        rw [bodyTo, entAt, getD_of hkl]; rfl
      have HEN := Lib.hid hEN
      have Hnb := Lib.hid hnb
      have Hl1 := Lib.hid hl1
      have Hkl := Lib.hid hkl
      clear hEN hnb hl1 hl2 hmk hkl hcell htg
      by_cases h0 : k % every = 0
      · have hrem : ((k : Int) % (every : Int) == 0) = true := by
          rw [← Int.natCast_emod, h0]; rfl
        have hsm : sameAt Lp every k = 0 := by rw [sameAt, if_pos h0]
        have HPL := Lib.hid (show plTo Lp every (k + 1) = plTo Lp every k ++ [nb] from by rw [plTo, if_pos h0, ← Hnb.out])
        have hpl := plTo_len Lp every k
        rw [hsm] at hNA HEN
        rw [Nat.sub_zero] at hNA
        have HNA := Lib.hid hNA
        clear h0 hsm hNA
        go_upto_region 8 with fail
        go_upto_region 10 with (at_builtin; (refine wpList_app_new (m := 1) rfl _ _ rfl sln rfl hu rfl (news := [.int .i64 (nb : Int)]) rfl (by intro u hu; rw [List.mem_singleton.1 hu]; rfl) (by rw [ncs_length]; omega) (by decide) hzw ?_); intro v5 w5 ho5 hb5 hg5)
        have hov5 := Lec.Own.grown ho hg5 (fun g hg => own_ne hu ho (by decide) g hg)
        have hbe5 : Below w.heap.size w w5 := hbe.trans hb5
        have hou5 : Lec.Own w5 w.heap.size 3 v5 (ncs (plTo Lp every (k + 1))) := by rw [HPL.out, ncs_app]; exact ho5
        have HU1 : Hid (∀ W' : World, Calls Try.prog 54 #[.int .u64 0] W' (RetB 5 W' (uvar 0))) := Lib.hid (fun W' => c_rUint W' 0 (by omega))
        have HU2 := Lib.hid (fun W' : World => c_rUint W' m.n1 (by omega))
        have HU3 := Lib.hid (fun W' : World => c_rUint W' m.n2 (by omega))
        have ux1 := uvar_len4 (n := 0) (by omega)
        have ux2 := uvar_len4 (n := m.n1) (by omega)
        have ux3 := uvar_len4 (n := m.n2) (by omega)
        have hHb : ∀ X : World, Below w.heap.size w X → w.heap.size ≤ X.heap.size := fun X h => h.size
        obtain ⟨Ac, hcut, hrc⟩ := run_cutI (P := Try.prog) slb hmok.1 ec1 0 (Nat.zero_le _) .i64 0 rfl
        rw [← bcs_drop] at hrc
        simp only [Nat.sub_zero] at hcut hrc
        have HB9 := Lib.hid (show bcs (bodyTo Lp every (k + 1)) = bcs (bodyTo Lp every k) ++ bcs (uvar 0) ++ bcs (uvar m.n1) ++ bcs (uvar m.n2) ++ bcs (m.key.drop 0) ++ bcs m.vl from by rw [HEN.out, HNA.out]; simp only [bcs_append, List.append_assoc, List.flatMap_cons, List.flatMap_nil, List.append_nil])
        obtain ⟨z0, z1⟩ := HCL.out w5 hbe5
        go_wp2_with (first
          | (go_at_call 54; (with_reducible refine (HU1.out _).mono ?_); rintro e x1 ⟨y1, rfl, oy1, by1⟩; obtain ⟨a1, d1, rfl, _⟩ := oy1.shapeN (n := (uvar 0).length) (bcs_length _); have ov1 := hov5.below by1 (Nat.le_refl _); have ou1 := hou5.below by1 (Nat.le_refl _); have hb1 : Below w.heap.size w x1 := hbe5.trans (by1.mono hbe5.size); have r1 := Lec.Own.rd oy1)
          | (at_builtin; (refine wpList_app_rd (m := (uvar 0).length) rfl _ _ rfl slb rfl ov1 rfl r1 bcs_one (by have := Hnb.out; simp only [bcs_length, List.length_append]; omega) (by decide) hb1.size ?_); intro v2 x2 ov2 by2 hg2; have ou2 := Lec.Own.grown ou1 hg2 (fun g hg => own_ne ov1 ou1 (by decide) g hg); have hb2 : Below w.heap.size w x2 := hb1.trans by2; obtain ⟨w20, w21⟩ := HCL.out _ hb2)
          | (go_at_call 54; (with_reducible refine (HU2.out _).mono ?_); rintro e x3 ⟨y3, rfl, oy3, by3⟩; obtain ⟨a3, d3, rfl, _⟩ := oy3.shapeN (n := (uvar m.n1).length) (bcs_length _); have ov3 := ov2.below by3 (Nat.le_refl _); have ou3 := ou2.below by3 (Nat.le_refl _); have hb3 : Below w.heap.size w x3 := hb2.trans (by3.mono hb2.size); have r3 := Lec.Own.rd oy3)
          | (at_builtin; (refine wpList_app_rd (m := (uvar m.n1).length) rfl _ _ rfl slb rfl ov3 rfl r3 bcs_one (by have := Hnb.out; simp only [bcs_length, List.length_append]; omega) (by decide) hb3.size ?_); intro v4 x4 ov4 by4 hg4; have ou4 := Lec.Own.grown ou3 hg4 (fun g hg => own_ne ov3 ou3 (by decide) g hg); have hb4 : Below w.heap.size w x4 := hb3.trans by4; obtain ⟨w40, w41⟩ := HCL.out _ hb4)
          | (go_at_call 54; (with_reducible refine (HU3.out _).mono ?_); rintro e x5 ⟨y5, rfl, oy5, by5⟩; obtain ⟨a5, d5, rfl, _⟩ := oy5.shapeN (n := (uvar m.n2).length) (bcs_length _); have ov5 := ov4.below by5 (Nat.le_refl _); have ou5 := ou4.below by5 (Nat.le_refl _); have hb5 : Below w.heap.size w x5 := hb4.trans (by5.mono hb4.size); have r5 := Lec.Own.rd oy5)
          | (at_builtin; (refine wpList_app_rd (m := (uvar m.n2).length) rfl _ _ rfl slb rfl ov5 rfl r5 bcs_one (by have := Hnb.out; simp only [bcs_length, List.length_append]; omega) (by decide) hb5.size ?_); intro v6 x6 ov6 by6 hg6; have ou6 := Lec.Own.grown ou5 hg6 (fun g hg => own_ne ov5 ou5 (by decide) g hg); have hb6 : Below w.heap.size w x6 := hb5.trans by6; obtain ⟨w60, w61⟩ := HCL.out _ hb6)
          | (at_builtin; (refine wpList_app_rd (m := m.n1) rfl _ _ rfl slb rfl ov6 rfl ((hrc.below (hb6.mono hB) (Nat.le_refl _))) bcs_one (by have := Hnb.out; simp only [bcs_length, List.length_append]; omega) (by decide) hb6.size ?_); intro v7 x7 ov7 by7 hg7; have ou7 := Lec.Own.grown ou6 hg7 (fun g hg => own_ne ov6 ou6 (by decide) g hg); have hb7 : Below w.heap.size w x7 := hb6.trans by7; obtain ⟨w70, w71⟩ := HCL.out _ hb7)
          | (at_builtin; (refine wpList_app_rd (m := m.n2) rfl _ _ rfl slb rfl ov7 rfl ((hmok.2.1.below (hb7.mono hB) (Nat.le_refl _))) bcs_one (by have := Hnb.out; have := Hl1.out; simp only [bcs_length, List.length_append, List.length_drop]; omega) (by decide) hb7.size ?_); intro v8 x8 ov8 by8 hg8; have ou8 := Lec.Own.grown ou7 hg8 (fun g hg => own_ne ov7 ou7 (by decide) g hg); have hb8 : Below w.heap.size w x8 := hb7.trans by8))
        go_roundw
        case rel => exact ⟨k + 1, by omega, by go_num, by rw [HB9.out]; exact ov8, ou8, hb8⟩
        case measure => simp [intOf]; omega
      · have hrem : ((k : Int) % (every : Int) == 0) = false := by
          rw [← Int.natCast_emod, beq_eq_false_iff_ne]; omega
        obtain ⟨j, hj⟩ : ∃ j, k = j + 1 := by
          rcases Nat.eq_zero_or_pos k with h | h
          · rw [h, Nat.zero_mod] at h0; exact absurd rfl h0
          · exact ⟨k - 1, by omega⟩
        obtain ⟨b', o', m0, hA, _, hmk0, _, hmok0, hcell0⟩ := hp.cell2 (k := j) (by omega)
        cases hA
        obtain ⟨d0, _⟩ := hcell0 W0 (hbe.mono hB)
        have hkl0 : Lp[j]? = some m0.pl := by rw [HLp.out, List.getElem?_map, hmk0]; rfl
        obtain ⟨sm, hsm⟩ : ∃ x, x = com m0.key m.key := ⟨_, rfl⟩
        have hsame : sameAt Lp every k = sm := by
          rw [sameAt, if_neg h0, getD_of Hkl.out, hj, Nat.add_sub_cancel, getD_of hkl0, hsm]; rfl
        have hsm2 : sm ≤ m.n1 := by rw [hsm, ← Hl1.out]; exact com_le2 _ _
        have HPL := Lib.hid (show plTo Lp every (k + 1) = plTo Lp every k from by rw [plTo, if_neg h0])
        obtain ⟨d, hd⟩ : ∃ x, x = m.n1 - sm := ⟨_, rfl⟩
        have hdI : (m.n1 : Int) - (sm : Int) = (d : Int) := by omega
        rw [hsame] at hNA HEN
        rw [← hd] at hNA
        have HNA := Lib.hid hNA
        have hn0 : m0.n1 ≤ 1099511627776 := by have := tot_get hkl0; have h2 := hmok0.1.1; rw [bcs_length] at h2; simp only [Pr.pl] at this; omega
        have HC := Lib.hid (c_rcommon W0.drew (c := m0.c1) (c' := m.c1) ((hmok0.1.below (hbe.mono hB) (Nat.le_refl _)).drew) (show B ≤ W0.drew.heap.size from Nat.le_trans hB hzw) ((hmok.1.below (hbe.mono hB) (Nat.le_refl _)).drew) (show B ≤ W0.drew.heap.size from Nat.le_trans hB hzw) hn0 (by omega))
        rw [← hsm] at HC
        have lb1 : b < W0.heap.size := by omega
        have HKs := Lib.hid (fun (W' : World) (hb : Below W0.heap.size W0 W') => (⟨(hb.cell (p := ⟨b, o + j * 2, none⟩) lb1).trans d0, (hb.cell (p := ⟨b, o + k * 2, none⟩) lb1).trans c0⟩ :
          W'.cell? ⟨b, o + j * 2, none⟩ = some (.slice m0.A1 m0.n1 m0.c1) ∧ W'.cell? ⟨b, o + k * 2, none⟩ = some (.slice m.A1 m.n1 m.c1)))
        have Hd := Lib.hid hd
        have hx0 : (0 : Int) ≤ (k : Int) - 1 := by omega
        have hx1 : (k : Int) - 1 < (N : Int) := by omega
        have hx2 : ((k : Int) - 1).toNat = j := by omega
        have hx3 : (1 : Int) ≤ (k : Int) := by omega
        have hx4 : (k : Int) ≤ (N : Int) := by omega
        have hwk : IntKind.i64.wrap ((k : Int) - 1) = (k : Int) - 1 := IntWalk.i64_in _ (by omega)
        clear h0 hsame hNA hsm hmk0 hmok0 hcell0 hkl0 hd hj
        go_wp2
        go_region_held3 (fun W' => W'.cell? ⟨b, o + j * 2, none⟩ = some (.slice m0.A1 m0.n1 m0.c1) ∧ W'.cell? ⟨b, o + k * 2, none⟩ = some (.slice m.A1 m.n1 m.c1))
          ((refine HKs.out _ ?_; first | exact (Below.refl _ _).drew | exact hbk))
          (first | (go_at_call 53; (with_reducible refine HC.out.mono ?_); rintro e w5 ⟨rfl, hb5⟩; have hbk : Below W0.heap.size W0 w5 := (Below.refl _ _).drew.trans hb5))
        have hov5 := ho.below hbk (Nat.le_refl _)
        have hou5 : Lec.Own w5 w.heap.size 3 u7 (ncs (plTo Lp every (k + 1))) := by rw [HPL.out]; exact hu.below hbk (Nat.le_refl _)
        have hbe5 : Below w.heap.size w w5 := hbe.trans (hbk.mono hzw)
        have HU1 : Hid (∀ W' : World, Calls Try.prog 54 #[.int .u64 (sm : Int)] W' (RetB 5 W' (uvar sm))) := Lib.hid (fun W' => c_rUint W' sm (by omega))
        have HU2 := Lib.hid (fun W' : World => c_rUint W' d (by omega))
        have HU3 := Lib.hid (fun W' : World => c_rUint W' m.n2 (by omega))
        have ux1 := uvar_len4 (n := sm) (by omega)
        have ux2 := uvar_len4 (n := d) (by omega)
        have ux3 := uvar_len4 (n := m.n2) (by omega)
        have hHb : ∀ X : World, Below w.heap.size w X → w.heap.size ≤ X.heap.size := fun X h => h.size
        obtain ⟨Ac, hcut, hrc⟩ := run_cutI (P := Try.prog) slb hmok.1 ec1 sm hsm2 .i64 (sm : Int) rfl
        rw [← bcs_drop] at hrc
        simp only [← Hd.out] at hcut hrc
        have HB9 := Lib.hid (show bcs (bodyTo Lp every (k + 1)) = bcs (bodyTo Lp every k) ++ bcs (uvar sm) ++ bcs (uvar d) ++ bcs (uvar m.n2) ++ bcs (m.key.drop sm) ++ bcs m.vl from by rw [HEN.out, HNA.out]; simp only [bcs_append, List.append_assoc, List.flatMap_cons, List.flatMap_nil, List.append_nil])
        obtain ⟨z0, z1⟩ := HCL.out w5 hbe5
        go_wp2_with (first
          | (go_at_call 54; (with_reducible refine (HU1.out _).mono ?_); rintro e x1 ⟨y1, rfl, oy1, by1⟩; obtain ⟨a1, d1, rfl, _⟩ := oy1.shapeN (n := (uvar sm).length) (bcs_length _); have ov1 := hov5.below by1 (Nat.le_refl _); have ou1 := hou5.below by1 (Nat.le_refl _); have hb1 : Below w.heap.size w x1 := hbe5.trans (by1.mono hbe5.size); have r1 := Lec.Own.rd oy1)
          | (at_builtin; (refine wpList_app_rd (m := (uvar sm).length) rfl _ _ rfl slb rfl ov1 rfl r1 bcs_one (by have := Hnb.out; simp only [bcs_length, List.length_append]; omega) (by decide) hb1.size ?_); intro v2 x2 ov2 by2 hg2; have ou2 := Lec.Own.grown ou1 hg2 (fun g hg => own_ne ov1 ou1 (by decide) g hg); have hb2 : Below w.heap.size w x2 := hb1.trans by2; obtain ⟨w20, w21⟩ := HCL.out _ hb2)
          | (go_at_call 54; (with_reducible refine (HU2.out _).mono ?_); rintro e x3 ⟨y3, rfl, oy3, by3⟩; obtain ⟨a3, d3, rfl, _⟩ := oy3.shapeN (n := (uvar d).length) (bcs_length _); have ov3 := ov2.below by3 (Nat.le_refl _); have ou3 := ou2.below by3 (Nat.le_refl _); have hb3 : Below w.heap.size w x3 := hb2.trans (by3.mono hb2.size); have r3 := Lec.Own.rd oy3)
          | (at_builtin; (refine wpList_app_rd (m := (uvar d).length) rfl _ _ rfl slb rfl ov3 rfl r3 bcs_one (by have := Hnb.out; simp only [bcs_length, List.length_append]; omega) (by decide) hb3.size ?_); intro v4 x4 ov4 by4 hg4; have ou4 := Lec.Own.grown ou3 hg4 (fun g hg => own_ne ov3 ou3 (by decide) g hg); have hb4 : Below w.heap.size w x4 := hb3.trans by4; obtain ⟨w40, w41⟩ := HCL.out _ hb4)
          | (go_at_call 54; (with_reducible refine (HU3.out _).mono ?_); rintro e x5 ⟨y5, rfl, oy5, by5⟩; obtain ⟨a5, d5, rfl, _⟩ := oy5.shapeN (n := (uvar m.n2).length) (bcs_length _); have ov5 := ov4.below by5 (Nat.le_refl _); have ou5 := ou4.below by5 (Nat.le_refl _); have hb5 : Below w.heap.size w x5 := hb4.trans (by5.mono hb4.size); have r5 := Lec.Own.rd oy5)
          | (at_builtin; (refine wpList_app_rd (m := (uvar m.n2).length) rfl _ _ rfl slb rfl ov5 rfl r5 bcs_one (by have := Hnb.out; simp only [bcs_length, List.length_append]; omega) (by decide) hb5.size ?_); intro v6 x6 ov6 by6 hg6; have ou6 := Lec.Own.grown ou5 hg6 (fun g hg => own_ne ov5 ou5 (by decide) g hg); have hb6 : Below w.heap.size w x6 := hb5.trans by6; obtain ⟨w60, w61⟩ := HCL.out _ hb6)
          | (at_builtin; (refine wpList_app_rd (m := d) rfl _ _ rfl slb rfl ov6 rfl ((hrc.below (hb6.mono hB) (Nat.le_refl _))) bcs_one (by have := Hnb.out; simp only [bcs_length, List.length_append]; omega) (by decide) hb6.size ?_); intro v7 x7 ov7 by7 hg7; have ou7 := Lec.Own.grown ou6 hg7 (fun g hg => own_ne ov6 ou6 (by decide) g hg); have hb7 : Below w.heap.size w x7 := hb6.trans by7; obtain ⟨w70, w71⟩ := HCL.out _ hb7)
          | (at_builtin; (refine wpList_app_rd (m := m.n2) rfl _ _ rfl slb rfl ov7 rfl ((hmok.2.1.below (hb7.mono hB) (Nat.le_refl _))) bcs_one (by have := Hnb.out; have := Hl1.out; simp only [bcs_length, List.length_append, List.length_drop]; omega) (by decide) hb7.size ?_); intro v8 x8 ov8 by8 hg8; have ou8 := Lec.Own.grown ou7 hg8 (fun g hg => own_ne ov7 ou7 (by decide) g hg); have hb8 : Below w.heap.size w x8 := hb7.trans by8))
        go_roundw
        case rel => exact ⟨k + 1, by omega, by go_num, by rw [HB9.out]; exact ov8, ou8, hb8⟩
        case measure => simp [intOf]; omega
    · obtain rfl : k = N := by omega
      obtain ⟨pl, hpl⟩ : ∃ x, x = (plTo Lp every k).length := ⟨_, rfl⟩
      have hpln : pl ≤ 16777216 := by rw [hpl]; have := plTo_len Lp every k; omega
      obtain ⟨PS, hPS⟩ : ∃ x, x = plTo Lp every k := ⟨_, rfl⟩
      have hPSl : PS.length = pl := by rw [hPS, hpl]
      have hPSs : ∀ x ∈ PS, x ≤ 201326592 := by
        intro x hx
        rw [hPS] at hx
        exact plTo_big hf k (by rw [HLpl.out]; exact Nat.le_refl _) x hx
      have HBLD := Lib.hid (show bcs (bld Lp every) = bcs (bodyTo Lp every k ++ PS.flatMap (le 4)) ++ bcs (le 4 pl) from by rw [bld, HLpl.out, hPS, hpl, ← bcs_append, List.flatMap_append, List.flatMap_cons, List.flatMap_nil, List.append_nil, List.append_assoc])
      obtain ⟨nb, hnb⟩ : ∃ x, x = (bodyTo Lp every k).length := ⟨_, rfl⟩
      have hnbs : nb ≤ 201326592 := by rw [hnb]; exact bodyTo_big hf (by rw [HLpl.out]; exact Nat.le_refl _)
      obtain ⟨Ap, cp, rfl, hcp⟩ := hu.shapeN (n := pl) (by rw [ncs_length, hpl])
      have Hnb := Lib.hid hnb
      have HPSl := Lib.hid hPSl
      have HPSe := Lib.hid hPS
      rw [← hPS] at hu
      clear hpl hPS hPSl hnb
      go_wp2
      go_loopw [10, 6] (fun jj v wr => ∃ j : Nat, j ≤ pl ∧ jj = .int .i64 (j : Int) ∧ Lec.Own wr w.heap.size 5 v (bcs (bodyTo Lp every k ++ (PS.take j).flatMap (le 4))) ∧ Lec.Own wr w.heap.size 3 (.slice Ap pl cp) (ncs PS) ∧ Below w.heap.size w wr) (fun jj _ _ => pl - (intOf jj).toNat)
      case atStart => exact ⟨0, Nat.zero_le _, rfl, by simpa using ho, hu, hbe⟩
      case round =>
        clear ho hu hbe
        obtain ⟨j, hj, rfl, hob, hop, hbx⟩ := hrel
        obtain ⟨W6, hW6⟩ : ∃ x, x = wr := ⟨_, rfl⟩
        subst hW6
        have hz6 := hbx.size
        by_cases hjM : j < pl
        · obtain ⟨b5, o5, rfl, hb5, hcell5⟩ := (Lec.Own.rd hop).natAt hjM
          have hjl : j < PS.length := by rw [HPSl.out]; exact hjM
          have hcx := hcell5 W6 (Below.refl _ _) j PS[j] (List.getElem?_eq_getElem hjl)
          have hxs := hPSs _ (List.getElem_mem hjl)
          have HT := Lib.hid (List.take_succ_eq_append_getElem hjl)
          generalize PS[j] = x at hcx hxs HT
          have HFx := Lib.hid (c_rFixed W6 x (by omega))
          have hfl : ((PS.take j).flatMap (le 4)).length ≤ 67108864 := by rw [flat_le_len, List.length_take]; have := HPSl.out; omega
          have hjI : (j : Int) < (pl : Int) := by omega
          clear hcell5
          go_wp2_with (first | (go_at_call 55; refine HFx.out.mono ?_; rintro e w6 ⟨vx, rfl, hox, hbx6⟩; obtain ⟨Ax, cx, rfl, hcx⟩ := hox.shapeN (n := 4) (by rw [bcs_length, le_length]); have ho6 := hob.below hbx6 (Nat.le_refl _); have hr6 := Lec.Own.rd hox; have hb6 : Below w.heap.size w w6 := hbx.trans (hbx6.mono hz6); have hop6 := hop.below hbx6 (Nat.le_refl _)) | (at_builtin; (refine wpList_app_rd (m := 4) rfl _ _ rfl slb rfl ho6 rfl hr6 bcs_one (by have := Hnb.out; rw [bcs_length, List.length_append]; omega) (by decide) hb6.size ?_); intro v7 w7 ho7 hb7 hg7))
          go_roundw
          case rel => exact ⟨j + 1, by omega, by go_num, by rw [HT.out, bcs_snocF]; exact ho7, Lec.Own.grown hop6 hg7 (fun g hg => own_ne ho6 hop6 (by decide) g hg), hb6.trans hb7⟩
          case measure => simp [intOf]; omega
        · obtain rfl : j = pl := by omega
          rw [List.take_of_length_le (by rw [HPSl.out]; exact Nat.le_refl _)] at hob
          have HFx := Lib.hid (c_rFixed W6 j (by omega))
          have hfl : (PS.flatMap (le 4)).length ≤ 67108864 := by rw [flat_le_len]; have := HPSl.out; omega
          go_wp2_with (first | (go_at_call 55; refine HFx.out.mono ?_; rintro e w6 ⟨vx, rfl, hox, hbx6⟩; obtain ⟨Ax, cx, rfl, hcx⟩ := hox.shapeN (n := 4) (by rw [bcs_length, le_length]); have ho6 := hob.below hbx6 (Nat.le_refl _); have hr6 := Lec.Own.rd hox; have hb6 : Below w.heap.size w w6 := hbx.trans (hbx6.mono hz6); have hop6 := hop.below hbx6 (Nat.le_refl _)) | (at_builtin; (refine wpList_app_rd (m := 4) rfl _ _ rfl slb rfl ho6 rfl hr6 bcs_one (by have := Hnb.out; rw [bcs_length, List.length_append]; omega) (by decide) hb6.size ?_); intro v7 w7 ho7 hb7 hg7))
          go_ret2
          refine ⟨_, _, rfl, by rw [HBLD.out]; exact ho7, ?_, hb6.trans hb7⟩
          rw [HLpl.out, ← HPSe.out]
          exact Lec.Own.grown hop6 hg7 (fun g hg => own_ne ho6 hop6 (by decide) g hg)
end Go.Proofs.Ytjcifmbbdofjiaa
/- Layer 20: the reference builds, or refuses; it finds: the walks. -/
namespace Go.Lec
open Go.RowKit Go.Op
/-- The first k keys rise. -/
def risenTo (l : List Pl) (k : Nat) : Prop := ∀ i, i + 1 < k → bytesLess (keyAt l i) (keyAt l (i + 1)) = true
theorem risen_iff (l : List Pl) : risen l ↔ risenTo l l.length := by
  constructor
  · intro h i hi
    have p0 : l[i]? = some l[i] := List.getElem?_eq_getElem (by omega)
    have p1 : l[i + 1]? = some l[i + 1] := List.getElem?_eq_getElem hi
    rw [keyAt_of p0, keyAt_of p1]
    exact h i _ _ p0 p1
  · intro h i p q hp hq
    rw [← keyAt_of hp, ← keyAt_of hq]
    exact h i (List.getElem?_eq_some_iff.1 hq).1
/-- What the reference builds. -/
inductive RB (l : List Pl) (every : Int) : Int → List UInt8 → Prop
  | range : every < 1 ∨ 1024 < every → RB l every 1 []
  | rise : 1 ≤ every → every ≤ 1024 → ¬ risen l → RB l every 200 []
  | long : 1 ≤ every → every ≤ 1024 → risen l → 1048576 < (bld l every.toNat).length → RB l every 2 []
  | ok : 1 ≤ every → every ≤ 1024 → risen l → (bld l every.toNat).length ≤ 1048576 → RB l every 0 (bld l every.toNat)
end Go.Lec
namespace Go.Proofs.Ytjcifmbbdofjiaa
open Go.RowKit Go.Lec Go.Op
/-- What the reference's Build answers. -/
def RBPost (w : World) (l : List Pl) (every : Int) (e : Ending) (w' : World) : Prop :=
  ∃ err b A c, RB l every err b ∧ e = .returned (.tuple #[.slice A b.length c, .int .i64 err]) ∧ b.length ≤ c ∧ Rd w' w'.heap.size A b.length (bcs b) ∧ (∀ a, A = some a → w.heap.size ≤ a.block) ∧ Below w.heap.size w w'
set_option maxRecDepth 40000 in
set_option maxHeartbeats 1600000 in
theorem c_rBuild (w : World) {B N c : Nat} {A : Option Addr} {L : List Pr} (every : Int) (hp : Prs w B A N L) (hB : B ≤ w.heap.size) (hf : tot (L.map Pr.pl) ≤ 16777216) (hei : -9223372036854775808 ≤ every) (hei2 : every ≤ 9223372036854775807) :
    Calls Try.prog 11 #[.slice A N c, .int .i64 every] w (RBPost w (L.map Pr.pl) every) := by
  have hN := hp.len
  have hNt := tot_len (L.map Pr.pl)
  rw [List.length_map, hN] at hNt
  by_cases hlo : every < 1
  · have d1 : decide (every < 1) = true := decide_eq_true hlo
    go_enter Try.func11, Try.ntmps11
    go_wp2
    go_ret2
    exact ⟨1, [], none, 0, .range (.inl hlo), rfl, Nat.le_refl _, Rd.nil_, (fun a h => by cases h), Below.refl _ _⟩
  by_cases hhi : 1024 < every
  · have d1 : decide (every < 1) = false := decide_eq_false hlo
    have d2 : decide (1024 < every) = true := decide_eq_true hhi
    go_enter Try.func11, Try.ntmps11
    go_wp2
    go_ret2
    exact ⟨1, [], none, 0, .range (.inr hhi), rfl, Nat.le_refl _, Rd.nil_, (fun a h => by cases h), Below.refl _ _⟩
  obtain ⟨ev, rfl⟩ : ∃ ev : Nat, every = (ev : Int) := ⟨every.toNat, by omega⟩
  have d1 : decide ((ev : Int) < 1) = false := decide_eq_false hlo
  have d2 : decide (1024 < (ev : Int)) = false := decide_eq_false hhi
  have he1 : 1 ≤ ev := by omega
  have he2 : ev ≤ 1024 := by omega
  obtain ⟨Lp, hLp⟩ : ∃ l, l = L.map Pr.pl := ⟨_, rfl⟩
  have hLpl : Lp.length = N := by rw [hLp, List.length_map, hN]
  have HLp := Lib.hid hLp
  have HLpl := Lib.hid hLpl
  have HPl := Lib.hid (fun W (h : Below w.heap.size w W) => c_rPlaces W (c := c) (hp.below h hB) (Nat.le_trans hB h.size) he1 he2 hf)
  rw [← hLp] at HPl hNt hf ⊢
  clear hLp hLpl hN hei hei2 hlo hhi
  go_enter Try.func11, Try.ntmps11
  go_wp2
  go_loopw [6] (fun i wr => ∃ k : Nat, 1 ≤ k ∧ i = .int .i64 (k : Int) ∧ k ≤ N + 1 ∧ Hid (risenTo Lp k) ∧ Below w.heap.size w wr) (fun i _ => N + 1 - (intOf i).toNat)
  case atStart => exact ⟨1, Nat.le_refl _, rfl, by omega, Lib.hid (fun i hi => absurd hi (by omega)), Below.refl _ _⟩
  case round =>
    obtain ⟨k, hk1, rfl, hkN, HRs, hb⟩ := hrel
    obtain ⟨W0, hW0⟩ : ∃ x, x = wr := ⟨_, rfl⟩
    subst hW0
    by_cases hlt : k < N
    · obtain ⟨b, o, m, rfl, hbB, hmk, _, hmok, hcell⟩ := hp.cell2 hlt
      obtain ⟨j, hj⟩ : ∃ j, k = j + 1 := ⟨k - 1, by omega⟩
      obtain ⟨b', o', m0, hA, _, hmk0, _, hmok0, hcell0⟩ := hp.cell2 (k := j) (by omega)
      cases hA
      obtain ⟨c0, _⟩ := hcell W0 (hb.mono hB)
      obtain ⟨d0, _⟩ := hcell0 W0 (hb.mono hB)
      have hkl : Lp[k]? = some m.pl := by rw [HLp.out, List.getElem?_map, hmk]; rfl
      have hkl0 : Lp[j]? = some m0.pl := by rw [HLp.out, List.getElem?_map, hmk0]; rfl
      have hk2 := keyAt_of hkl
      have hk3 := keyAt_of hkl0
      have hs1 : ∀ q, (convert 25 9 (.slice m0.A1 m0.n1 m0.c1)).run Try.prog (W0.drewN q) = .ok (.string ⟨m0.key.toArray⟩) (W0.drewN q) := fun q => run_str (P := Try.prog) Try.underlying25 Try.underlying5 Try.underlying9 (c := m0.c1) ((hmok0.1.below (hb.mono hB) (Nat.le_refl _)).drewN q)
      have hs2 : ∀ q, (convert 25 9 (.slice m.A1 m.n1 m.c1)).run Try.prog (W0.drewN q) = .ok (.string ⟨m.key.toArray⟩) (W0.drewN q) := fun q => run_str (P := Try.prog) Try.underlying25 Try.underlying5 Try.underlying9 (c := m.c1) ((hmok.1.below (hb.mono hB) (Nat.le_refl _)).drewN q)
      have hki : (k : Int) < (N : Int) := by omega
      have hx0 : (0 : Int) ≤ (k : Int) - 1 := by omega
      have hx1 : (k : Int) - 1 < (N : Int) := by omega
      have hx2 : ((k : Int) - 1).toNat = j := by omega
      have hx3 : (1 : Int) ≤ (k : Int) := by omega
      have hx4 : (k : Int) ≤ (N : Int) := by omega
      cases hl : bytesLess m0.key m.key
      · have HNR := Lib.hid (show ¬ risen Lp from fun h => by
          have := (risen_iff Lp).1 h j (by rw [HLpl.out]; omega)
          rw [← hj, hk2, hk3] at this
          simp only [Pr.pl] at this
          rw [hl] at this
          cases this)
        clear hmk hmk0 hcell hcell0 hkl hkl0 hk2 hk3 hmok hmok0 hj
        go_wp2
        go_quiet (fail)
        go_wp2
        go_ret2
        exact ⟨200, [], none, 0, .rise (by omega) (by omega) HNR.out, rfl, Nat.le_refl _, Rd.nil_, (fun a h => by cases h), belowN hb _⟩
      · have HR2 := Lib.hid (show risenTo Lp (k + 1) from fun i hi => by
          rcases Nat.lt_or_ge (i + 1) k with h | h
          · exact HRs.out i h
          · obtain rfl : i = j := by omega
            rw [← hj, hk2, hk3]
            exact hl)
        clear hmk hmk0 hcell hcell0 hkl hkl0 hk2 hk3 hmok hmok0 hj HRs
        go_wp2
        go_quiet (fail)
        go_wp2
        go_roundw
        case rel => exact ⟨k + 1, by omega, by go_num, by omega, HR2, belowN hb _⟩
        case measure => simp [intOf]; omega
    · have HRi := Lib.hid (show risen Lp from (risen_iff Lp).2 (fun i hi => HRs.out i (by rw [HLpl.out] at hi; omega)))
      have HC := Lib.hid (HPl.out W0 hb)
      clear HRs
      go_wp2_with fail
      refine HC.out.mono ?_
      rintro e w1 ⟨v, u, rfl, ho, hu, hb1⟩
      obtain ⟨nT, hnT⟩ : ∃ x, x = (bld Lp ev).length := ⟨_, rfl⟩
      obtain ⟨A9, c9, rfl, hc9⟩ := ho.shapeN (n := nT) (by rw [bcs_length, hnT])
      have hge := fun a ha => Nat.le_trans hb.size (Lec.Own.ge ho a ha)
      have hR := Lec.Own.rd ho
      have hbx := hb.trans (hb1.mono hb.size)
      have HnT := Lib.hid hnT
      clear hnT
      by_cases hbig : 1048576 < nT
      · have hbi : (1048576 : Int) < (nT : Int) := by omega
        go_wp2
        go_ret2
        exact ⟨2, [], none, 0, .long (by omega) (by omega) HRi.out (by rw [Int.toNat_natCast, ← HnT.out]; exact hbig), rfl, Nat.le_refl _, Rd.nil_, (fun a h => by cases h), hbx⟩
      · have hbi : ¬ (1048576 : Int) < (nT : Int) := by omega
        go_wp2
        go_ret2
        refine ⟨0, _, A9, c9, .ok (by omega) (by omega) HRi.out (by rw [Int.toNat_natCast, ← HnT.out]; omega), ?_, ?_, ?_, hge, hbx⟩
        · rw [Int.toNat_natCast, ← HnT.out]; rfl
        · rw [Int.toNat_natCast, ← HnT.out]; exact hc9
        · rw [Int.toNat_natCast, ← HnT.out]; exact hR
set_option maxRecDepth 40000 in
set_option maxHeartbeats 800000 in
theorem c_rFind (w : World) {B B2 N c n2 c2 : Nat} {A A2 : Option Addr} {L : List Pr} {key : List UInt8} (hp : Prs w B A N L) (hB : B ≤ w.heap.size) (hr : Rd w B2 A2 n2 (bcs key)) (hB2 : B2 ≤ w.heap.size) (hN : N ≤ 1099511627776) :
    Calls Try.prog 24 #[.slice A N c, .slice A2 n2 c2] w fun e w' => e = .returned (.int .i64 (findL (L.map Pr.pl) key : Nat)) ∧ Below w.heap.size w w' := by
  have hLl := hp.len
  obtain ⟨Lp, hLp⟩ : ∃ l, l = L.map Pr.pl := ⟨_, rfl⟩
  have hLpl : Lp.length = N := by rw [hLp, List.length_map, hLl]
  rw [← hLp]
  have HLp := Lib.hid hLp
  have HLpl := Lib.hid hLpl
  clear hLp hLpl hLl
  go_enter Try.func24, Try.ntmps24
  go_wp2
  go_loopw [5] (fun i wr => ∃ k : Nat, k ≤ N ∧ i = .int .i64 (k : Int) ∧ Hid (∀ j p, j < k → Lp[j]? = some p → bytesLess p.1 key = true) ∧ Below w.heap.size w wr) (fun i _ => N - (intOf i).toNat)
  case atStart => exact ⟨0, Nat.zero_le _, rfl, Lib.hid (fun j p hj => absurd hj (by omega)), Below.refl _ _⟩
  case round =>
    obtain ⟨k, hk, rfl, HK, hb⟩ := hrel
    obtain ⟨W0, hW0⟩ : ∃ x, x = wr := ⟨_, rfl⟩
    subst hW0
    have hs2 : ∀ q, (convert 25 9 (.slice A2 n2 c2)).run Try.prog (W0.drewN q) = .ok (.string ⟨key.toArray⟩) (W0.drewN q) := fun q => run_str (P := Try.prog) Try.underlying25 Try.underlying5 Try.underlying9 (c := c2) ((hr.below hb hB2).drewN q)
    by_cases hlt : k < N
    · obtain ⟨b, o, m, rfl, hbB, hmk, _, hmok, hcell⟩ := hp.cell2 hlt
      obtain ⟨c0, _⟩ := hcell W0 (hb.mono hB)
      have hkl : Lp[k]? = some m.pl := by rw [HLp.out, List.getElem?_map, hmk]; rfl
      have hs1 : ∀ q, (convert 25 9 (.slice m.A1 m.n1 m.c1)).run Try.prog (W0.drewN q) = .ok (.string ⟨m.key.toArray⟩) (W0.drewN q) := fun q => run_str (P := Try.prog) Try.underlying25 Try.underlying5 Try.underlying9 (c := m.c1) ((hmok.1.below (hb.mono hB) (Nat.le_refl _)).drewN q)
      have hki : (k : Int) < (N : Int) := by omega
      have hd : decide ((k : Int) < (N : Int)) = true := decide_eq_true hki
      cases hl : bytesLess m.key key
      · have HF := Lib.hid (show findL Lp key = k from findL_of Lp key k (by rw [HLpl.out]; exact hk) HK.out (fun p hp => by rw [hkl] at hp; cases hp; exact hl))
        clear hmk hcell hkl hmok HK
        go_wp2
        go_quiet (fail)
        go_wp2
        go_ret
        exact ⟨by rw [HF.out]; rfl, belowN hb _⟩
      · have HK2 := Lib.hid (show ∀ j p, j < k + 1 → Lp[j]? = some p → bytesLess p.1 key = true from fun j p hj hp => by
          rcases Nat.lt_or_ge j k with h | h
          · exact HK.out j p h hp
          · obtain rfl : j = k := by omega
            rw [hkl] at hp; cases hp; exact hl)
        clear hmk hcell hkl hmok HK
        go_wp2
        go_quiet (fail)
        go_wp2
        go_roundw
        case rel => exact ⟨k + 1, by omega, by go_num, HK2, belowN hb _⟩
        case measure => simp [intOf]; omega
    · obtain rfl : k = N := by omega
      have hd : decide ((k : Int) < (k : Int)) = false := by simp
      have HF := Lib.hid (show findL Lp key = k from findL_of Lp key k (by rw [HLpl.out]; exact Nat.le_refl _) HK.out (fun p hp => by rw [List.getElem?_eq_none (by rw [HLpl.out]; exact Nat.le_refl _)] at hp; cases hp))
      clear HK
      go_wp2
      go_quiet (fail)
      go_wp2
      go_ret
      exact ⟨by rw [HF.out]; rfl, belowN hb _⟩
/-- few, for lists whose lengths' sum is borne. -/
theorem plen_tot (L : List Pr) (h : ∀ m ∈ L, m.key.length = m.n1 ∧ m.vl.length = m.n2) : L.foldr (fun m s => m.n1 + m.n2 + 1 + s) 0 = tot (L.map Pr.pl) := by
  induction L with
  | nil => rfl
  | cons m L ih =>
    rw [List.foldr_cons, ih (fun x hx => h x (List.mem_cons_of_mem _ hx)), List.map_cons, tot]
    obtain ⟨h1, h2⟩ := h m List.mem_cons_self
    simp only [Pr.pl, h1, h2]
set_option maxRecDepth 40000 in
set_option maxHeartbeats 800000 in
theorem c_few (w : World) {B N c : Nat} {A : Option Addr} {L : List Pr} (hp : Prs w B A N L) (hB : B ≤ w.heap.size) (hf : tot (L.map Pr.pl) ≤ 8796093022208) :
    Calls Try.prog 9 #[.slice A N c] w fun e w' => e = .returned (.bool (decide (tot (L.map Pr.pl) ≤ 4000))) ∧ Below w.heap.size w w' := by
  have hN := hp.len
  have hNt := tot_len (L.map Pr.pl)
  rw [List.length_map, hN] at hNt
  obtain ⟨Lp, hLp⟩ : ∃ l, l = L.map Pr.pl := ⟨_, rfl⟩
  rw [← hLp] at hf hNt ⊢
  have hLpl : Lp.length = N := by rw [hLp, List.length_map, hN]
  have HLp := Lib.hid hLp
  have HLpl := Lib.hid hLpl
  obtain ⟨T, hT⟩ : ∃ T, T = tot Lp := ⟨_, rfl⟩
  rw [← hT]
  have HT := Lib.hid hT
  clear hLp hLpl hN hT
  go_enter Try.func9, Try.ntmps9
  go_wp2
  go_loopw [10, 3] (fun i s wr => ∃ k x : Nat, k ≤ N ∧ i = .int .i64 (k : Int) ∧ s = .int .i64 (x : Int) ∧ Hid (x + k = N + tot (Lp.take k)) ∧ x ≤ 17592186044416 ∧ Below w.heap.size w wr) (fun i _ _ => N - (intOf i).toNat)
  case atStart => exact ⟨0, N, Nat.zero_le _, rfl, rfl, Lib.hid (by simp [tot]), by omega, Below.refl _ _⟩
  case round =>
    obtain ⟨k, x, hk, rfl, rfl, HX, hx, hb⟩ := hrel
    obtain ⟨W0, hW0⟩ : ∃ x, x = wr := ⟨_, rfl⟩
    subst hW0
    by_cases hlt : k < N
    · obtain ⟨b, o, m, rfl, hbB, hmk, _, hmok, hcell⟩ := hp.cell2 hlt
      obtain ⟨c0, c1⟩ := hcell W0 (hb.mono hB)
      have hkl : Lp[k]? = some m.pl := by rw [HLp.out, List.getElem?_map, hmk]; rfl
      have hl1 : m.key.length = m.n1 := by have := hmok.1.1; rwa [bcs_length] at this
      have hl2 : m.vl.length = m.n2 := by have := hmok.2.1.1; rwa [bcs_length] at this
      have ht := tot_take hkl
      have ht2 := tot_take_le Lp (k + 1)
      simp only [Pr.pl, hl1, hl2] at ht
      have hX := HX.out
      have hs : x + (m.n1 + m.n2) ≤ 17592186044416 := by omega
      have HX2 := Lib.hid (show x + (m.n1 + m.n2) + (k + 1) = N + tot (Lp.take (k + 1)) from by omega)
      have hb1 := hb.alloc hb.size (.cells #[.slice m.A1 m.n1 m.c1, .slice m.A2 m.n2 m.c2] 35)
      have hP := (Bk.new_ W0 35 #[.slice m.A1 m.n1 m.c1, .slice m.A2 m.n2 m.c2]).cell
      have hki : (k : Int) < (N : Int) := by omega
      have lb : b < W0.heap.size := by have := hb.size; omega
      clear hX HX ht ht2 hl1 hl2 hkl hmk hcell hmok
      go_wp2
      go_roundw
      case rel => exact ⟨k + 1, x + (m.n1 + m.n2), by omega, by go_num, by go_num, HX2, hs, hb1⟩
      case measure => simp [intOf]; omega
    · obtain rfl : k = N := by omega
      have hX := HX.out
      rw [List.take_of_length_le (by rw [HLpl.out]; exact Nat.le_refl _)] at hX
      rw [← HT.out] at hX
      have hxT : x = T := by omega
      subst hxT
      clear hX HX hf
      go_wp2
      go_ret
      exact ⟨by simp; omega, hb⟩
end Go.Proofs.Ytjcifmbbdofjiaa
