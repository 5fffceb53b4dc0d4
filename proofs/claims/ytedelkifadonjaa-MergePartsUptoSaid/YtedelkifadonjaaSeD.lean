/- Layer 24, LevelSees: the pairs of a list in order (the document's All): the walk. -/
import Derived.Test.YtedelkifadonjaaSeC
import Derived.Deep.CutBlock
namespace Go.Proofs.Ytedelkifadonjaa
open Go.RowKit Go.Lec
/-- What is gathered. -/
def AllPost (w : World) (L : List Pr) (e : Ending) (w' : World) : Prop := ∃ (A : Option Addr) (n c : Nat) (O : List Pr), e = .returned (.slice A n c) ∧ n ≤ c ∧ n ≤ L.length ∧ Prs w' w'.heap.size A n O ∧ (∀ m ∈ O, m ∈ L) ∧ O.map Pr.pl = allL (L.map Pr.pl) ∧ Below w.heap.size w w'

set_option maxRecDepth 20000 in
set_option maxHeartbeats 3200000 in
theorem c_All (w : World) {B g n c : Nat} {A : Option Addr} {L : List Pr} (hg : w.cell? ⟨g, 0, none⟩ = some (.slice A n c)) (hr : Prs w B A n L) (hB : B ≤ w.heap.size) (hn : n ≤ 100000) :
    Calls Try.prog 9 #[.slice (some ⟨g, 0, none⟩) 1 1] w (AllPost w L) := by
  have hgl : g < w.heap.size := World.block_lt_of_cell? w _ hg
  have Hln := Lib.hid hr.len
  have Hok := Lib.hid hr.2
  go_enter Try.func9, Try.ntmps9
  go_wp2
  go_loopw [3, 11] (fun v i wr => ∃ (k : Nat) (O : List Pr), k ≤ 1 ∧ i = .int .i64 k ∧ AllR w wr 56 L v O ∧ O.length ≤ n ∧ Hid ((k = 0 → O = []) ∧ (k = 1 → O.map Pr.pl = allL (L.map Pr.pl)))) (fun _ i _ => 1 - (intOf i).toNat)
  case atStart => exact ⟨0, [], by omega, rfl, ⟨OwnK.nil_ _ _ _ _, fun m h => (by cases h), Below.refl _ _⟩, Nat.zero_le _, Lib.hid ⟨fun _ => rfl, fun h => absurd h (by omega)⟩⟩
  case round =>
    obtain ⟨k, O, hk, rfl, hA, hOn, hO⟩ := hrel
    by_cases hlt : k < 1
    · obtain rfl : k = 0 := by omega
      have hg' := (hA.below.cell (p := ⟨g, 0, none⟩) hgl).trans hg
      obtain rfl := hO.out.1 rfl
      clear hO hOn
      go_wp2
      go_loopw [3, 17] (fun v i wr => ∃ (k : Nat) (O : List Pr), k ≤ n ∧ i = .int .i64 k ∧ AllR w wr 56 L v O ∧ O.length ≤ k ∧ Hid (O.map Pr.pl = ((L.map Pr.pl).take k).foldl putIn [])) (fun _ i _ => n - (intOf i).toNat)
      case atStart => exact ⟨0, [], Nat.zero_le _, rfl, hA, Nat.zero_le _, Lib.hid rfl⟩
      case round =>
        clear hA hg'
        obtain ⟨k, O, hk, rfl, hA, hOk, hO⟩ := hrel
        by_cases hlt : k < n
        · obtain ⟨b, o, m, rfl, hbB, hmk, htk, hmok, hcell⟩ := hr.cell2 hlt
          have hbelow := hA.below.mono hB
          obtain ⟨h0, h1⟩ := hcell wr hbelow
          have HP1 := Bk.new_ wr 56 #[.slice m.A1 m.n1 m.c1, .slice m.A2 m.n2 m.c2]
          have hA1 := hA.grow ((Below.refl _ _).alloc (Nat.le_refl _) (.cells #[.slice m.A1 m.n1 m.c1, .slice m.A2 m.n2 m.c2] 56))
          have hkc := HP1.cell
          obtain ⟨A3, c3, rfl, hc3⟩ := hA.own.shape
          have Hfl := Lib.hid (foldl_take putIn [] (L.map Pr.pl) k m.pl (by rw [List.getElem?_map, hmk]; rfl))
          have hmL := List.mem_of_getElem? hmk
          clear htk hcell hA hmk
          go_upto_block 4 with fail
          obtain ⟨W1, hW1⟩ : ∃ W, W = wr.alloc (.cells #[.slice m.A1 m.n1 m.c1, .slice m.A2 m.n2 m.c2] 56) := ⟨_, rfl⟩
          obtain ⟨G, hG⟩ : ∃ G, G = wr.heap.size := ⟨_, rfl⟩
          rw [← hW1] at hkc HP1 hA1 ⊢
          rw [← hG] at hkc HP1 ⊢
          have hBr : B ≤ W1.heap.size := by have := hA1.below.size; omega
          have hmo := hmok.below (hA1.below.mono hB) (Nat.le_refl _)
          have hprs := hA1.prs Hok.out hB rfl
          clear h0 h1 hkc hbelow hmok
          obtain ⟨N, hN⟩ : ∃ N, N = O.length := ⟨_, rfl⟩
          rw [← hN] at hprs hOk hc3 hA1 ⊢
          have HN := Lib.hid hN
          clear hN hW1 hG
          obtain ⟨J, hJ⟩ : ∃ J, J = slot (O.map Pr.pl) m.key N := ⟨_, rfl⟩
          have hJN : J ≤ N := by rw [hJ]; exact slot_le _ _ _
          have HJ := Lib.hid hJ
          clear hJ
          go_cut [8] from 23 to 39 (fun v wc => v = .int .i64 J ∧ Below W1.heap.size W1 wc)
          case first =>
            go_wp2_with fail
            go_loopw [8] (fun v wr => ∃ j : Nat, j ≤ N ∧ v = .int .i64 j ∧ Hid (J = slot (O.map Pr.pl) m.key j) ∧ Below W1.heap.size W1 wr) (fun v _ => (intOf v).toNat)
            case atStart => exact ⟨N, Nat.le_refl _, rfl, HJ, Below.refl _ _⟩
            case round =>
              clear HJ
              obtain ⟨j, hj, rfl, HJ, hbx⟩ := hrel
              have hp := hprs.below hbx (Nat.le_refl _)
              have hm := hmo.below hbx hBr
              have hP := HP1.below hbx HP1.lt
              rcases j with _ | j
              · have hJ0 : J = 0 := HJ.out
                subst hJ0
                go_wp2
                go_quiet (fail)
                go_wp2
                go_meet
                case rel => exact ⟨rfl, below_drewN hbx _⟩
              · obtain ⟨b2, o2, m2, rfl, hb2, hm2, _, hok2, hcell2⟩ := hp.cell2 (k := j) (by omega)
                obtain ⟨c0, c1⟩ := hcell2 _ (Below.refl _ _)
                have q0 := hP.cell 0
                have q1 := hP.cell 1
                have i1 : (0 : Int) ≤ (j : Int) := by omega
                have i2 : (j : Int) < (N : Int) := by omega
                have i3 : IntKind.i64.wrap (j : Int) = (j : Int) := IntWalk.i64_in _ (by omega)
                have hcv1 := fun k : Nat => run_str (P := Try.prog) Try.underlying23 Try.underlying5 Try.underlying9 (c := m2.c1) (hok2.1.drewN k)
                have hcv2 := fun k : Nat => run_str (P := Try.prog) Try.underlying23 Try.underlying5 Try.underlying9 (c := m.c1) (hm.1.drewN k)
                have hpk := pls_get O j m2 hm2
                have hs : slot (O.map Pr.pl) m.key (j + 1) = if Op.bytesLess m.key m2.key then slot (O.map Pr.pl) m.key j else j + 1 := by rw [slot, hpk]
                have HGT := Lib.hid (gt_less m2.key m.key)
                cases hbl : Op.bytesLess m.key m2.key
                · have hJj : J = j + 1 := by rw [HJ.out, hs, hbl]; rfl
                  subst hJj
                  clear HJ hs
                  rw [hbl] at HGT
                  clear hbl
                  go_wp2
                  go_quiet (fail)
                  simp only [HGT.out]
                  go_wp2
                  go_meet
                  case rel => exact ⟨rfl, below_drewN hbx _⟩
                · have HJ2 : Hid (J = slot (O.map Pr.pl) m.key j) := Lib.hid (by rw [HJ.out, hs, hbl]; rfl)
                  clear HJ hs
                  rw [hbl] at HGT
                  clear hbl
                  go_wp2
                  go_quiet (fail)
                  simp only [HGT.out]
                  go_wp2
                  go_roundw
                  case rel => exact ⟨j, by omega, by go_num, HJ2, below_drewN hbx _⟩
                  case measure => simp [intOf]
          case rest =>
            obtain ⟨rfl, hbx⟩ := hcut
            have hA2 := hA1.grow hbx
            have hp := hprs.below hbx (Nat.le_refl _)
            have hm := hmo.below hbx hBr
            have hP := HP1.below hbx HP1.lt
            have hBc : B ≤ wc.heap.size := Nat.le_trans hBr hbx.size
            have hpw := hprs.below hbx (Nat.le_refl _) |>.more hbx.size
            clear hA1 hprs hmo HP1 hbx hBr
            obtain ⟨D, hD⟩ : ∃ D, D = decide (0 < J ∧ ((O.map Pr.pl).getD (J - 1) ([], [])).1 = m.key) := ⟨_, rfl⟩
            have HD := Lib.hid hD
            clear hD
            go_upto_region 11 with fail
            go_cut [54] from 40 to 54 (fun v w2 => v = .bool D ∧ Below wc.heap.size wc w2)
            case first =>
              have q0 := hP.cell 0
              have q1 := hP.cell 1
              rcases J with _ | j
              · have hD0 : D = false := by rw [HD.out]; exact decide_eq_false (fun h => absurd h.1 (by omega))
                subst hD0
                go_quiet (fail)
                go_wp2
                go_meet
                exact ⟨rfl, below_drewN (Below.refl _ _) _⟩
              · obtain ⟨b2, o2, m2, rfl, hb2, hm2, _, hok2, hcell2⟩ := hp.cell2 (k := j) (by omega)
                obtain ⟨c0, c1⟩ := hcell2 _ (Below.refl _ _)
                have i1 : (0 : Int) ≤ (j : Int) := by omega
                have i2 : (j : Int) < (N : Int) := by omega
                have i3 : IntKind.i64.wrap (j : Int) = (j : Int) := IntWalk.i64_in _ (by omega)
                have hcv1 := fun k : Nat => run_str (P := Try.prog) Try.underlying23 Try.underlying5 Try.underlying9 (c := m2.c1) (hok2.1.drewN k)
                have hcv2 := fun k : Nat => run_str (P := Try.prog) Try.underlying23 Try.underlying5 Try.underlying9 (c := m.c1) (hm.1.drewN k)
                have hpk := pls_get O j m2 hm2
                have hDj : D = (m2.key == m.key) := by rw [HD.out, Nat.add_sub_cancel, hpk]; simp [Bool.beq_eq_decide_eq]
                have HDj := Lib.hid hDj.symm
                clear hDj HD hpk hp hm hm2 hok2 hcell2
                go_quiet (fail)
                simp only [HDj.out]
                go_wp2
                go_meet
                exact ⟨rfl, below_drewN (Below.refl _ _) _⟩
            case rest =>
              obtain ⟨rfl, hbx⟩ := hcut
              have hA3 := hA2.grow hbx
              have hp := (hpw.below hbx (Nat.le_refl _)).more hbx.size
              have hm := hm.below hbx hBc
              have hP := hP.below hbx hP.lt
              have hBw : B ≤ wc.heap.size := Nat.le_trans hBc hbx.size
              clear hA2 hpw hbx
              cases hDv : D
              · have hput : putIn (O.map Pr.pl) m.pl = (O.take J ++ m :: O.drop J).map Pr.pl := by
                  have hlen : (O.map Pr.pl).length = N := by rw [List.length_map, HN.out]
                  have hnd : ¬ (0 < slot (O.map Pr.pl) m.pl.1 (O.map Pr.pl).length ∧ ((O.map Pr.pl).getD (slot (O.map Pr.pl) m.pl.1 (O.map Pr.pl).length - 1) ([], [])).1 = m.pl.1) := by
                    rw [hlen, show m.pl.1 = m.key from rfl, ← HJ.out]
                    have := HD.out
                    rw [hDv] at this
                    exact of_decide_eq_false this.symm
                  unfold putIn
                  rw [if_neg hnd, hlen, show m.pl.1 = m.key from rfl, ← HJ.out]
                  simp [List.map_take, List.map_drop]
                have Hput := Lib.hid hput
                subst hDv
                obtain ⟨A5, hcut5, hr5⟩ := run_cutK slp hp.1 hc3 hJN .i64
                have hcutF := fun W => run_cutF slp (n := N) A3 (Nat.le_trans hJN hc3) .i64 .i64 W
                have q0 := hP.cell 0
                have q1 := hP.cell 1
                have HC := Lib.hid (fun (W : World) (hW : Below wc.heap.size wc W) => (⟨(hW.cell (p := ⟨G, 0, none⟩) hP.lt).trans q0, (hW.cell (p := ⟨G, 1, none⟩) hP.lt).trans q1⟩ : W.cell? ⟨G, 0, none⟩ = some (.slice m.A1 m.n1 m.c1) ∧ W.cell? ⟨G, 1, none⟩ = some (.slice m.A2 m.n2 m.c2)))
                clear hput HD HJ
                go_wp2_with fail
                have hHeld : (fun W : World => W.cell? ⟨G, 0, none⟩ = some (.slice m.A1 m.n1 m.c1) ∧ W.cell? ⟨G, 1, none⟩ = some (.slice m.A2 m.n2 m.c2)) _ := ⟨q0, q1⟩
                refine wp_region_held (S := fun W : World => W.cell? ⟨G, 0, none⟩ = some (.slice m.A1 m.n1 m.c1) ∧ W.cell? ⟨G, 1, none⟩ = some (.slice m.A2 m.n2 m.c2)) (by kernel_rfl) ?_
                simp only [List.size_toArray, List.length_cons, List.length_nil, Nat.reduceAdd]
                refine heldTake (i := 0) (v := ?_) rfl (by kernel_rfl) (by kernel_rfl) (by kernel_rfl) (fun _ _ _ h => h) hHeld (by rfl) ?_ ?_
                rotate_left
                · (intro w hSw; (try dsimp only at hSw); go_simp; try with_reducible rfl)
                try simp only [Act.put, List.setIfInBounds_toArray, List.set_cons_zero, List.set_cons_succ]
                refine heldTake (i := 1) (v := ?_) rfl (by kernel_rfl) (by kernel_rfl) (by kernel_rfl) (fun _ _ _ h => h) hHeld (by rfl) ?_ ?_
                rotate_left
                · (intro w hSw; (try dsimp only at hSw); go_simp; try with_reducible rfl)
                try simp only [Act.put, List.setIfInBounds_toArray, List.set_cons_zero, List.set_cons_succ]
                refine heldTake (i := 2) (v := ?_) rfl (by kernel_rfl) (by kernel_rfl) (by kernel_rfl) (fun _ _ _ h => h) hHeld (by rfl) ?_ ?_
                rotate_left
                · (intro w hSw; (try dsimp only at hSw); go_simp; try with_reducible rfl)
                try simp only [Act.put, List.setIfInBounds_toArray, List.set_cons_zero, List.set_cons_succ]
                refine heldTake (i := 3) (v := ?_) rfl (by kernel_rfl) (by kernel_rfl) (by kernel_rfl) (fun _ _ _ h => h) hHeld (by rfl) ?_ ?_
                rotate_left
                · (intro w hSw; (try dsimp only at hSw); go_simp; try with_reducible rfl)
                try simp only [Act.put, List.setIfInBounds_toArray, List.set_cons_zero, List.set_cons_succ]
                refine heldTake (i := 4) (v := ?_) rfl (by kernel_rfl) (by kernel_rfl) (by kernel_rfl) (fun _ _ _ h => h) hHeld (by rfl) ?_ ?_
                rotate_left
                · (intro w hSw; (try dsimp only at hSw); go_simp; try with_reducible rfl)
                try simp only [Act.put, List.setIfInBounds_toArray, List.set_cons_zero, List.set_cons_succ]
                refine heldTake (i := 6) (v := ?_) rfl (by kernel_rfl) (by kernel_rfl) (by kernel_rfl) (fun _ _ _ h => h) hHeld (by rfl) ?_ ?_
                rotate_left
                · (intro w hSw; (try dsimp only at hSw); go_simp; try with_reducible rfl)
                try simp only [Act.put, List.setIfInBounds_toArray, List.set_cons_zero, List.set_cons_succ]
                refine heldTake (i := 7) (v := ?_) rfl (by kernel_rfl) (by kernel_rfl) (by kernel_rfl) (fun _ _ _ h => h) hHeld (by rfl) ?_ ?_
                rotate_left
                · (intro w hSw; (try dsimp only at hSw); go_simp; try with_reducible rfl)
                try simp only [Act.put, List.setIfInBounds_toArray, List.set_cons_zero, List.set_cons_succ]
                refine heldTake (i := 8) (v := ?_) rfl (by kernel_rfl) (by kernel_rfl) (by kernel_rfl) (fun _ _ _ h => h) hHeld (by rfl) ?_ ?_
                rotate_left
                · (intro w hSw; (try dsimp only at hSw); go_simp; try with_reducible rfl)
                try simp only [Act.put, List.setIfInBounds_toArray, List.set_cons_zero, List.set_cons_succ]
                refine heldStep (i := 5) rfl (by kernel_rfl) (fun K hK => ?_)
                go_simp
                have hbl := (Below.refl wc.heap.size wc).drew.alloc (Nat.le_refl _) (.cells #[.slice m.A1 m.n1 m.c1, .slice m.A2 m.n2 m.c2] 56)
                refine hK.out _ _ (HC.out _ hbl) (fun hHeld => ?_)
                clear hK K
                try simp only [Act.put, List.setIfInBounds_toArray, List.set_cons_zero, List.set_cons_succ]
                refine heldStep (i := 9) rfl (by kernel_rfl) (fun K hK => ?_)
                refine if_oper (ops := #[]) rfl rfl ?_
                have hoL : OwnK (wc.alloc (.cells #[.slice m.A1 m.n1 m.c1, .slice m.A2 m.n2 m.c2] 56)).drew wc.heap.size 56 2 (.slice (some ⟨wc.heap.size, 0, none⟩) 1 1) 1 m.cs := (OwnK.lit wc m.cs 1 (Nat.le_refl _) rfl (by decide)).drew
                refine wpList_appK_sl rfl _ _ rfl slp (by decide) (w0 := wc) (base := wc.heap.size) rfl hoL hbl (by simp) rfl (hr5.below hbl (Nat.le_refl _)) ?_ (by omega) ?_
                · rw [flat_drop Pr.cs_len]
                  intro u hu
                  obtain ⟨x, _, hx⟩ := List.mem_flatMap.1 hu
                  exact x.cs_one u hx
                intro v6 w6 ho6 hb6 _ _
                obtain ⟨A6, c6, rfl, hc6⟩ := ho6.shape
                change K _ _
                refine hK.out _ _ (HC.out _ hb6) (fun hHeld => ?_)
                clear hK K
                try simp only [Act.put, List.setIfInBounds_toArray, List.set_cons_zero, List.set_cons_succ]
                refine heldStep (i := 10) rfl (by kernel_rfl) (fun K hK => ?_)
                refine if_oper (ops := #[]) rfl rfl ?_
                refine wpList_appK_full rfl _ _ rfl slp (by decide) (n := J) rfl ((hp.1.take_ hJN).below hb6 (Nat.le_refl _)) rfl ho6.rd (by omega) (by omega) ?_
                intro c7 w7 ho7 hb7 hz7
                have hb8 := hb6.trans (hb7.mono hb6.size)
                change K _ _
                refine hK.out _ _ (HC.out _ hb8) (fun hHeld => ?_)
                clear hK K
                try simp only [Act.put, List.setIfInBounds_toArray, List.set_cons_zero, List.set_cons_succ]
                refine heldTake (i := 11) (v := ?_) rfl (by kernel_rfl) (by kernel_rfl) (by kernel_rfl) (fun _ _ _ h => h) hHeld (by rfl) ?_ ?_
                rotate_left
                · (intro w hSw; (try dsimp only at hSw); go_simp; try with_reducible rfl)
                try simp only [Act.put, List.setIfInBounds_toArray, List.set_cons_zero, List.set_cons_succ]
                refine wpAnyH_done (by kernel_rfl) ?_ _
                clear HC hcutF hcut5 q0 q1 hHeld
                have hlO : (O.take J ++ m :: O.drop J).length = J + (1 + (N - J)) := by simp only [List.length_append, List.length_take, List.length_cons, List.length_drop, ← HN.out]; omega
                have hA7 : AllR w w7 56 L (.slice (some ⟨w6.heap.size, 0, none⟩) (J + (1 + (N - J))) c7) (O.take J ++ m :: O.drop J) := by
                  refine ⟨?_, fun x hx => ?_, hA3.below.trans (hb8.mono hA3.below.size)⟩
                  · rw [hlO]
                    rw [flat_take Pr.cs_len, flat_drop Pr.cs_len] at ho7
                    have := ho7.mono (B' := w.heap.size) (Nat.le_trans hA3.below.size hb6.size)
                    simpa [List.flatMap_append] using this
                  · rcases List.mem_append.1 hx with hx | hx
                    · exact hA3.sub x (List.mem_of_mem_take hx)
                    · rcases List.mem_cons.1 hx with rfl | hx
                      · exact hmL
                      · exact hA3.sub x (List.mem_of_mem_drop hx)
                have hOn : Hid ((O.take J ++ m :: O.drop J).map Pr.pl = ((L.map Pr.pl).take (k + 1)).foldl putIn []) := Lib.hid (by rw [Hfl.out, ← hO.out, Hput.out])
                have HlO := Lib.hid hlO
                clear hlO ho7 ho6 hoL hb6 hb7 hb8 hbl hA3 hp hm hP hr5
                go_wp2
                go_roundw
                case rel => exact ⟨_, _, _, _, ⟨k + 1, by omega, by go_num, _, hA7, by rw [HlO.out]; omega, hOn⟩, rfl, rfl, rfl, rfl⟩
                case measure => simp [intOf]; omega
              · have hput : putIn (O.map Pr.pl) m.pl = O.map Pr.pl := by
                  have hlen : (O.map Pr.pl).length = N := by rw [List.length_map, HN.out]
                  have hnd : 0 < slot (O.map Pr.pl) m.pl.1 (O.map Pr.pl).length ∧ ((O.map Pr.pl).getD (slot (O.map Pr.pl) m.pl.1 (O.map Pr.pl).length - 1) ([], [])).1 = m.pl.1 := by
                    rw [hlen, show m.pl.1 = m.key from rfl, ← HJ.out]
                    have := HD.out
                    rw [hDv] at this
                    exact of_decide_eq_true this.symm
                  unfold putIn
                  rw [if_pos hnd]
                have hOn : Hid (O.map Pr.pl = ((L.map Pr.pl).take (k + 1)).foldl putIn []) := Lib.hid (by rw [Hfl.out, ← hO.out, hput])
                subst hDv
                clear hput HD HJ hp hm hP
                go_wp2
                go_roundw
                case rel => exact ⟨k + 1, O, by omega, by go_num, hA3, by rw [← HN.out]; omega, hOn⟩
                case measure => simp [intOf]; omega
        · obtain rfl : k = n := by omega
          have hall : O.map Pr.pl = allL (L.map Pr.pl) := by
            rw [hO.out, List.take_of_length_le (by rw [List.length_map, Hln.out]; exact Nat.le_refl _)]
            rfl
          have Hall := Lib.hid hall
          clear hall hO
          go_wp2
          go_roundw
          case rel => exact ⟨1, O, by omega, by rfl, hA, by omega, Lib.hid ⟨fun h => absurd h (by decide), fun _ => Hall.out⟩⟩
          case measure => simp [intOf]
    · obtain rfl : k = 1 := by omega
      obtain ⟨A3, c3, rfl, hc3⟩ := hA.own.shape
      have hfin := Lib.hid (hO.out.2 rfl)
      clear hO
      go_wp2
      go_ret
      exact ⟨A3, _, c3, O, rfl, hc3, by rw [Hln.out]; exact hOn, hA.prs Hok.out hB rfl, hA.sub, hfin.out, hA.below⟩
end Go.Proofs.Ytedelkifadonjaa
