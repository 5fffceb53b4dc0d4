/- Layer 24, LevelKeeps: how pairs are cut into files by the document: the walk of the reference's Cut. -/
import Derived.Test.YtgpbkebmfbbamaaSeN
namespace Go.Proofs.Ytgpbkebmfbbamaa
open Go.RowKit Go.Lec

theorem beqC (a b : List UInt8) : (a == b) = (b == a) := by rw [Bool.eq_iff_iff]; simp only [beq_iff_eq]; exact eq_comm
set_option maxRecDepth 40000 in
set_option maxHeartbeats 3200000 in
theorem c_rCut (w : World) {B n c : Nat} {A : Option Addr} {L : List Pr} (most : Int) (hr : Prs w B A n L) (hB : B ≤ w.heap.size) (hn : n ≤ 1000000) (hm : ∀ m ∈ L, m.n1 + m.n2 ≤ 1000000) (h1 : 1 ≤ most) :
    Calls Try.prog 25 #[.slice A n c, .int .i64 most] w (CutPost w (cutF most (L.map Pr.pl))) := by
  have Hln := Lib.hid hr.len
  have HM := Lib.hid hm
  clear hm
  have hmost : ¬ most < 1 := by omega
  obtain ⟨CP, hCP⟩ : ∃ CP, CP = cutF most (L.map Pr.pl) := ⟨_, rfl⟩
  rw [← hCP]
  have HCP := Lib.hid hCP
  clear hCP
  go_enter Try.func25, Try.ntmps25
  go_wp2
  go_loopw [6, 7, 8, 19] (fun vo vn sz i wr => ∃ (k : Nat) (out : List (Sl Pr)) (now : List Pr) (S : CSt) (N : Int), k ≤ n ∧ i = .int .i64 k ∧ CutIn w wr S out vo now vn ∧ sz = .int .i64 N ∧ Hid (S = cutSt most ((L.map Pr.pl).take k)) ∧ Hid (N = S.n) ∧ 0 ≤ N ∧ N ≤ 1000000 * k ∧ out.length ≤ k ∧ now.length ≤ k) (fun _ _ _ i _ => n - (intOf i).toNat)
  case atStart => exact ⟨0, [], [], ⟨[], [], 0, none⟩, 0, Nat.zero_le _, rfl, ⟨Two.nil _ _ _ (Below.refl _ _), rfl, rfl⟩, rfl, Lib.hid rfl, Lib.hid rfl, by omega, by omega, Nat.zero_le _, Nat.zero_le _⟩
  case round =>
    obtain ⟨k, out, now, S, N, hk, rfl, hA, rfl, HS, HN, hN0, hN1, hlo, hln⟩ := hrel
    obtain ⟨Ao, co, rfl, hco⟩ := hA.two.go.own.shape
    obtain ⟨An, cn, rfl, hcn⟩ := hA.two.gn.own.shape
    by_cases hlt : k < n
    · obtain ⟨b, o, m, rfl, hbB, hmk, htk, hmok, hcell⟩ := hr.cell2 hlt
      obtain ⟨h0, h1⟩ := hcell wr (hA.two.gn.below.mono hB)
      have hmo := hmok.below (hA.two.gn.below.mono hB) (Nat.le_refl _)
      have hml := HM.out m (List.mem_of_getElem? hmk)
      have HP := Bk.new_ wr 82 #[.slice m.A1 m.n1 m.c1, .slice m.A2 m.n2 m.c2]
      have hbP := (Below.refl wr.heap.size wr).alloc (Nat.le_refl _) (.cells #[.slice m.A1 m.n1 m.c1, .slice m.A2 m.n2 m.c2] 82)
      have hA1 : CutIn w _ S out _ now _ := ⟨hA.two.grow hbP, hA.eo, hA.en⟩
      have hkc := HP.cell
      have hBr : B ≤ wr.heap.size := Nat.le_trans hB hA.two.gn.below.size
      have hmo1 := hmo.alloc hBr (.cells #[.slice m.A1 m.n1 m.c1, .slice m.A2 m.n2 m.c2] 82)
      have Hst := Lib.hid (show cutSt most ((L.map Pr.pl).take (k + 1)) = CSt.step most S m.pl from by
        have hk' : k < (L.map Pr.pl).length := by rw [List.length_map, Hln.out]; exact hlt
        rw [HS.out, cutSt, List.take_succ_eq_append_getElem hk', List.foldl_append]
        obtain ⟨_, e⟩ := List.getElem?_eq_some_iff.1 hmk
        simp [cutSt, e])
      have hogl := fun g e => hA.two.go.own.lt g e
      have hngl := fun g e => hA.two.gn.own.lt g e
      have hwB := hA1.two.gn.below.mono hB
      obtain ⟨G, hG⟩ : ∃ G, G = wr.heap.size := ⟨_, rfl⟩
      clear hmk htk hcell hA hmok hmo hbP
      go_upto_region 9 with fail
      obtain ⟨W1, hW1⟩ : ∃ W, W = wr.alloc (.cells #[.slice m.A1 m.n1 m.c1, .slice m.A2 m.n2 m.c2] 82) := ⟨_, rfl⟩
      have hBr1 : B ≤ W1.heap.size := by rw [hW1]; simp; omega
      have hGl : G < W1.heap.size := by rw [hW1, hG]; simp
      rw [← hW1] at HP hA1 hmo1 hkc hwB ⊢
      rw [← hG] at HP hkc hogl hngl ⊢
      clear hW1 hG h0 hBr
      obtain ⟨D, hD⟩ : ∃ D, D = S.brk most m.pl := ⟨_, rfl⟩
      have HD0 := Lib.hid hD
      have HD := Lib.hid (show D = (decide (0 < now.length) && decide (most ≤ N) && !(sameG S.last (preO m.pl))) from by
        rw [hD, CSt.brk, HN.out, ← hA1.en, List.length_map])
      clear hD
      obtain ⟨Q, hQ⟩ : ∃ Q, Q = (decide (0 < now.length) && decide (most ≤ N)) := ⟨_, rfl⟩
      rw [← hQ] at HD
      have HQ := Lib.hid hQ
      clear hQ
      go_cut [31] from 24 to 31 (fun v wx => v = .bool Q ∧ wx = W1)
      case first =>
        clear hA1 HP hmo1 hkc HS Hst HCP HM HD HD0
        by_cases g1 : 0 < now.length
        · have Hq := Lib.hid (show Q = decide (most ≤ N) from by rw [HQ.out, decide_eq_true g1]; rfl)
          clear HQ
          go_wp2
          go_meet
          case rel => exact ⟨by rw [Hq.out], rfl⟩
        · have Hq := Lib.hid (show Q = false from by rw [HQ.out, decide_eq_false g1]; rfl)
          clear HQ
          go_wp2
          go_meet
          case rel => exact ⟨by rw [Hq.out], rfl⟩
      case rest =>
       obtain ⟨rfl, rfl⟩ := hcut
       have HQk := Lib.hid (show Q = true → 0 < now.length from fun h => by rw [HQ.out] at h; simp only [Bool.and_eq_true, decide_eq_true_eq] at h; exact h.1)
       clear HQ
       go_upto_if 31 with fail
       go_cut [6, 7, 8] from 31 to 60 (fun vo vn sz wx => ∃ (S' : CSt) (out' : List (Sl Pr)) (now' : List Pr) (N' : Int), CutIn w wx S' out' vo now' vn ∧ sz = .int .i64 N' ∧ Hid (S' = if D then S.shut else S) ∧ Hid (N' = S'.n) ∧ 0 ≤ N' ∧ N' ≤ 1000000 * k ∧ out'.length ≤ k + 1 ∧ now'.length ≤ k ∧ vn.ownBlock ≠ some G ∧ Bk wx G 82 #[.slice m.A1 m.n1 m.c1, .slice m.A2 m.n2 m.c2] ∧ m.ok wx B)
       case first =>
         clear Hst HCP HD0
         cases hQv : Q
         rotate_left
         · · have g1 := HQk.out hQv
             have Hq := Lib.hid (show D = !(sameG S.last (preO m.pl)) from by rw [HD.out, hQv]; rfl)
             clear hQv
             obtain ⟨j, rfl⟩ : ∃ j, k = j + 1 := ⟨k - 1, by omega⟩
             obtain ⟨b', o', m0, hA', hbB', hmk0, htk0, hmok0, hcell0⟩ := hr.cell2 (k := j) (by omega)
             cases hA'
             obtain ⟨f0, f1⟩ := hcell0 wc hwB
             have hmo0 := hmok0.below hwB (Nat.le_refl _)
             have hml0 := HM.out m0 (List.mem_of_getElem? hmk0)
             have Hla := Lib.hid (show S.last = preO m0.pl from by
               have hk' : j < (L.map Pr.pl).length := by rw [List.length_map, Hln.out]; omega
               rw [HS.out, List.take_succ_eq_append_getElem hk', cutSt_last]
               obtain ⟨_, e⟩ := List.getElem?_eq_some_iff.1 hmk0
               simp [e])
             have i1 : (0 : Int) ≤ (j : Int) := by omega
             have i2 : (j : Int) < (n : Int) := by omega
             clear hmk0 htk0 hmok0 hcell0
             go_wp2_with fail
             refine (c_prefix wc m0 hmo0 hBr1 (by omega)).mono ?_
             rintro e w3 ⟨Pa, xa, rfl, hpa, hb3⟩
             have Hpa := Lib.hid hpa
             have HP3 := HP.below hb3 hGl
             have hkc3 := HP3.cell
             have hmo3 := hmo1.below hb3 hBr1
             have hBr3 := Nat.le_trans hBr1 hb3.size
             have hA3 : CutIn w w3 S out _ now _ := ⟨hA1.two.grow hb3, hA1.eo, hA1.en⟩
             clear hpa f0 f1 hkc HP hA1 hmo1
             go_wp2_with fail
             refine (c_prefix w3 m hmo3 hBr3 (by omega)).mono ?_
             rintro e w5 ⟨Pb, xb, rfl, hpb, hb5⟩
             have Hpb := Lib.hid hpb
             have HP2 := HP3.below hb5 HP3.lt
             have hkc2 := HP2.cell
             have hmo2 := hmo3.below hb5 hBr3
             have hBr2 := Nat.le_trans hBr3 hb5.size
             have hA2 : CutIn w w5 S out _ now _ := ⟨hA3.two.grow hb5, hA3.eo, hA3.en⟩
             have Hq2 := Lib.hid (show D = !(xb && xa && (Pb == Pa)) from by rw [Hq.out, Hla.out, Hpa.out, Hpb.out, sameG_eq])
             clear hpb hkc3 HP3 hA3 hmo3 Hq Hla Hpa Hpb
             cases xa
             · have Hq3 := Lib.hid (show D = true from by rw [Hq2.out, Bool.and_false]; rfl)
               clear Hq2
               have H' : Hid (S.shut = if D then S.shut else S) := Lib.hid (by rw [Hq3.out]; rfl)
               clear HD
               go_wp2_with (first
                 | (at_builtin; (refine wpList_appK_new rfl _ _ rfl sls (by decide) rfl hA2.two.go.own hA2.two.go.below hA2.two.go.below.size rfl (news := [.slice An now.length cn]) rfl (fun u hu => by rw [List.mem_singleton.1 hu]; rfl) (by omega) ?_); intro v8 w8 ho8 hb8 hg8 hat8 hs8))
               replace hat8 : v8.ownBlock = (Value.slice Ao out.length co).ownBlock ∨ ∃ g, v8.ownBlock = some g ∧ w5.heap.size ≤ g := hat8
               replace hg8 : w5.grownBy w8 (Value.slice Ao out.length co).ownBlock := hg8
               have hA8 : CutIn w w8 S.shut (out ++ [⟨An, now.length, cn, now⟩]) v8 [] (.slice none 0 0) := ⟨Two.shut (by decide) hA2.two rfl hcn ho8 hg8 hat8 hb8, by rw [List.map_append, hA2.eo]; simp [Sl.pls, CSt.shut, hA2.en], rfl⟩
               have hP8 := HP2.grownX hg8 (fun e => by have := (hogl _ e.symm).2; omega)
               have hm8 := hmo2.keepX hBr2 (fun g e => by have := (hogl _ e).1; omega) hg8
               clear hA2 ho8 hg8 hat8
               go_wp2
               go_meet
               case rel => exact ⟨S.shut, _, [], 0, hA8, rfl, H', Lib.hid rfl, by omega, by omega, by simp; omega, Nat.zero_le _, (fun e => by cases e), hP8, hm8⟩
             · cases xb
               · have Hq3 := Lib.hid (show D = true from by rw [Hq2.out]; rfl)
                 clear Hq2
                 have H' : Hid (S.shut = if D then S.shut else S) := Lib.hid (by rw [Hq3.out]; rfl)
                 clear HD
                 go_wp2_with (first
                   | (at_builtin; (refine wpList_appK_new rfl _ _ rfl sls (by decide) rfl hA2.two.go.own hA2.two.go.below hA2.two.go.below.size rfl (news := [.slice An now.length cn]) rfl (fun u hu => by rw [List.mem_singleton.1 hu]; rfl) (by omega) ?_); intro v8 w8 ho8 hb8 hg8 hat8 hs8))
                 replace hat8 : v8.ownBlock = (Value.slice Ao out.length co).ownBlock ∨ ∃ g, v8.ownBlock = some g ∧ w5.heap.size ≤ g := hat8
                 replace hg8 : w5.grownBy w8 (Value.slice Ao out.length co).ownBlock := hg8
                 have hA8 : CutIn w w8 S.shut (out ++ [⟨An, now.length, cn, now⟩]) v8 [] (.slice none 0 0) := ⟨Two.shut (by decide) hA2.two rfl hcn ho8 hg8 hat8 hb8, by rw [List.map_append, hA2.eo]; simp [Sl.pls, CSt.shut, hA2.en], rfl⟩
                 have hP8 := HP2.grownX hg8 (fun e => by have := (hogl _ e.symm).2; omega)
                 have hm8 := hmo2.keepX hBr2 (fun g e => by have := (hogl _ e).1; omega) hg8
                 clear hA2 ho8 hg8 hat8
                 go_wp2
                 go_meet
                 case rel => exact ⟨S.shut, _, [], 0, hA8, rfl, H', Lib.hid rfl, by omega, by omega, by simp; omega, Nat.zero_le _, (fun e => by cases e), hP8, hm8⟩
               · cases hab : (Pa == Pb)
                 · have Hq3 := Lib.hid (show D = true from by rw [Hq2.out, beqC, hab]; rfl)
                   clear Hq2
                   have H' : Hid (S.shut = if D then S.shut else S) := Lib.hid (by rw [Hq3.out]; rfl)
                   clear HD
                   go_wp2_with (first
                     | (at_builtin; (refine wpList_appK_new rfl _ _ rfl sls (by decide) rfl hA2.two.go.own hA2.two.go.below hA2.two.go.below.size rfl (news := [.slice An now.length cn]) rfl (fun u hu => by rw [List.mem_singleton.1 hu]; rfl) (by omega) ?_); intro v8 w8 ho8 hb8 hg8 hat8 hs8))
                   replace hat8 : v8.ownBlock = (Value.slice Ao out.length co).ownBlock ∨ ∃ g, v8.ownBlock = some g ∧ w5.heap.size ≤ g := hat8
                   replace hg8 : w5.grownBy w8 (Value.slice Ao out.length co).ownBlock := hg8
                   have hA8 : CutIn w w8 S.shut (out ++ [⟨An, now.length, cn, now⟩]) v8 [] (.slice none 0 0) := ⟨Two.shut (by decide) hA2.two rfl hcn ho8 hg8 hat8 hb8, by rw [List.map_append, hA2.eo]; simp [Sl.pls, CSt.shut, hA2.en], rfl⟩
                   have hP8 := HP2.grownX hg8 (fun e => by have := (hogl _ e.symm).2; omega)
                   have hm8 := hmo2.keepX hBr2 (fun g e => by have := (hogl _ e).1; omega) hg8
                   clear hA2 ho8 hg8 hat8
                   go_wp2
                   go_meet
                   case rel => exact ⟨S.shut, _, [], 0, hA8, rfl, H', Lib.hid rfl, by omega, by omega, by simp; omega, Nat.zero_le _, (fun e => by cases e), hP8, hm8⟩
                 · have Hq3 := Lib.hid (show D = false from by rw [Hq2.out, beqC, hab]; rfl)
                   clear Hq2
                   have H' : Hid (S = if D then S.shut else S) := Lib.hid (by rw [Hq3.out]; rfl)
                   clear HD
                   go_wp2
                   go_meet
                   case rel => exact ⟨S, out, now, N, hA2, rfl, H', HN, hN0, hN1, by omega, hln, (fun e => by have := (hngl _ e).2; omega), HP2, hmo2⟩
         · have Hq := Lib.hid (show D = false from by rw [HD.out, hQv]; rfl)
           clear hQv
           have H' : Hid (S = if D then S.shut else S) := Lib.hid (by rw [Hq.out]; rfl)
           clear HD
           go_wp2
           go_meet
           case rel => exact ⟨S, out, now, N, hA1, rfl, H', HN, hN0, hN1, by omega, hln, (fun e => by have := (hngl _ e).2; omega), HP, hmo1⟩
       case rest =>
         obtain ⟨S', out', now', N', hA3, rfl, HS', HN', hN0', hN1', hlo', hln', hnG, HP3, hmo3⟩ := hcut
         have HS2 := Lib.hid (show S'.add m.pl = cutSt most ((L.map Pr.pl).take (k + 1)) from by rw [Hst.out, CSt.step, ← HD0.out, ← HS'.out])
         clear hA1 HP hkc hmo1 hogl hngl HS HN Hst HD HD0 HS' hN0 hN1 hwB
         obtain ⟨Ao', co', rfl, hco'⟩ := hA3.two.go.own.shape
         obtain ⟨An', cn', rfl, hcn'⟩ := hA3.two.gn.own.shape
         have hkc3 := HP3.cell
         have hl1 := hmo3.1.1
         have hl2 := hmo3.2.1.1
         rw [bcs_length] at hl1 hl2
         have Hl1 := Lib.hid hl1
         have Hl2 := Lib.hid hl2
         have hms : m.ok wc wc.heap.size := hmo3.more (Nat.le_trans hB hA3.two.gn.below.size)
         have hlt3 := (encPr_ok hmo3).lt
         have hf1 : encPr.lie (fun b => some b ≠ (Value.slice An' now'.length cn').ownBlock) m := hlt3.imp fun b hb eb => by have := (hA3.two.gn.own.lt _ eb.symm).1; omega
         have hf3 : encPr.lie (fun b => some b ≠ (Value.slice Ao' out'.length co').ownBlock) m := hlt3.imp fun b hb eb => by have := (hA3.two.go.own.lt _ eb.symm).1; omega
         clear hl1 hl2 hlt3 hmo3
         go_wp2_with (first
           | (at_builtin; (refine wpList_appK_new rfl _ _ rfl slp (by decide) rfl hA3.two.gn.own hA3.two.gn.below hA3.two.gn.below.size rfl (news := m.cs) rfl m.cs_one (by omega) ?_); intro v8 w8 ho8 hb8 hg8 hat8 hs8; have hkc8 := (HP3.grownX (x := (Value.slice An' now'.length cn').ownBlock) hg8 (fun e => hnG e.symm)).cell))
         replace hat8 : v8.ownBlock = (Value.slice An' now'.length cn').ownBlock ∨ ∃ g, v8.ownBlock = some g ∧ wc.heap.size ≤ g := hat8
         replace hg8 : wc.grownBy w8 (Value.slice An' now'.length cn').ownBlock := hg8
         have hA8 : CutIn w w8 (S'.add m.pl) out' _ (now' ++ [m]) v8 := ⟨hA3.two.put (encPr_ok hms) hf1 hf3 ho8 hg8 hat8 hb8, hA3.eo, by rw [List.map_append, hA3.en]; simp [CSt.add]⟩
         clear hA3 ho8 hg8 hat8 hf1 hf3 hms hkc8 hkc3 HP3
         go_roundw
         case rel => exact ⟨k + 1, out', now' ++ [m], S'.add m.pl, N' + ((m.n1 : Int) + (m.n2 : Int)), by omega, by go_num, hA8, rfl, HS2, Lib.hid (by rw [CSt.add, HN'.out]; show _ = _ + ((m.key.length : Int) + (m.vl.length : Int)); rw [Hl1.out, Hl2.out]), by omega, by omega, by omega, by simp; omega⟩
         case measure => simp [intOf]; omega
    · obtain rfl : k = n := by omega
      have hfin : CP = if 0 < now.length then S.out ++ [S.now] else S.out := by
        have e1 : S = cutSt most (L.map Pr.pl) := by rw [HS.out, List.take_of_length_le (by rw [List.length_map, Hln.out]; exact Nat.le_refl _)]
        rw [HCP.out, cutF, ← e1, ← hA.en, List.length_map]
      by_cases g1 : 0 < now.length
      · rw [if_pos g1] at hfin
        have Hfin := Lib.hid hfin
        clear hfin HS HCP
        go_wp2_with (first
          | (at_builtin; (refine wpList_appK_new rfl _ _ rfl sls (by decide) rfl hA.two.go.own hA.two.go.below hA.two.go.below.size rfl (news := [.slice An now.length cn]) rfl (fun u hu => by rw [List.mem_singleton.1 hu]; rfl) (by omega) ?_); intro v8 w8 ho8 hb8 hg8 hat8 hs8))
        replace hat8 : v8.ownBlock = (Value.slice Ao out.length co).ownBlock ∨ ∃ g, v8.ownBlock = some g ∧ wr.heap.size ≤ g := hat8
        replace hg8 : wr.grownBy w8 (Value.slice Ao out.length co).ownBlock := hg8
        have hA8 := Two.shut (by decide) hA.two rfl hcn ho8 hg8 hat8 hb8
        have heo := hA.eo
        have hen := hA.en
        clear hA ho8 hg8 hat8
        obtain ⟨A9, c9, rfl, hc9⟩ := hA8.go.own.shape
        go_ret2
        exact ⟨A9, _, c9, _, rfl, hc9, hA8.go.els rfl, by rw [Hfin.out, List.map_append, heo]; simp [Sl.pls, hen], hA8.go.below⟩
      · rw [if_neg g1] at hfin
        have Hfin := Lib.hid hfin
        clear hfin HS HCP
        go_wp2
        go_ret2
        exact ⟨Ao, _, co, out, rfl, hco, hA.two.go.els rfl, by rw [Hfin.out, hA.eo], hA.two.go.below⟩
end Go.Proofs.Ytgpbkebmfbbamaa
