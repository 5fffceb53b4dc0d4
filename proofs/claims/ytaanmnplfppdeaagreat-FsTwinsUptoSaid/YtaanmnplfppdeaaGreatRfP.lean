/- Layer 1: the document's file system: all files, the safe files, how many bytes: the walks. -/
import Derived.Test.YtaanmnplfppdeaaGreatRfH
import Derived.Test.YtaanmnplfppdeaaGreatFsY1
import Derived.Test.YtaanmnplfppdeaaGreatFsX1
import Derived.BigQuiet
namespace Go.Proofs.YtaanmnplfppdeaaGreat
open Go.RowKit Go.Lec Go.Fsy Go.Op Go.Maps
set_option maxRecDepth 100000 in
set_option maxHeartbeats 1600000 in
theorem c_rFiles (w : World) {Y J : Nat → Prop} {rb N : Nat} {s : St} (h : RfP Y J w rb s) (hi : Fsy.Inv s N) (hN : N ≤ 1048576) :
    Calls Tryz.prog 57 #[ptrV rb] w (FilesP w (files s)) := by
  obtain ⟨R, hG⟩ := h
  have q6 : w.cell? ⟨rb, 6, none⟩ = some (.bool s.died) := hG.bk.cell 6
  have q8 : w.cell? ⟨rb, 8, none⟩ = some (.slice R.dA s.dir.length R.dc) := hG.bk.cell 8
  unfold ptrV at *
  cases hd : s.died with
  | true =>
    have hs : files s = [] := by unfold files; rw [hd]; rfl
    have Hs := Lib.hid hs
    rw [hd] at q6
    clear hG hs hd
    go_enter Tryz.func57, Tryz.ntmps57
    go_wp2
    go_ret
    rw [Hs.out]
    exact FilesP.none_ w
  | false =>
    rw [hd] at q6
    have hdl := hi.nDir
    have hdk := hi.dir
    have HN := Lib.hid (c_rNames w (c := R.dc) (.pointer (some ⟨rb, 0, none⟩)) hG.dir (by omega))
    unfold RnmP at HN
    have hnl := namesOf_len s.dir
    have hfe : files s = (namesOf s.dir).map (fileOf s s.dir Nd.data) := by unfold files; rw [hd]; rfl
    have Hfe := Lib.hid hfe
    have HG := Lib.hid hG
    obtain ⟨ln, hln⟩ : ∃ x, x = s.dir.length := ⟨_, rfl⟩
    have Hln := Lib.hid (show (namesOf s.dir).length = ln by rw [hnl, hln])
    have hsf : (files s).length = ln := by rw [hfe, List.length_map, hnl, hln]
    have Hsf := Lib.hid hsf
    have Hdl := Lib.hid hdl
    rw [← hln] at HN hdl q8
    have Hnd := Lib.hid (fun (k : Nat) (hk : k < (namesOf s.dir).length) => namesOf_node hdk hk)
    have Hdk := Lib.hid hdk
    have Hi := Lib.hid (fun i => hi.nd i)
    obtain ⟨nn, hnn⟩ : ∃ x, x = s.nodes.length := ⟨_, rfl⟩
    have Hnn := Lib.hid hnn
    clear hG hdk hnl hln hsf hi hfe hnn hd
    go_enter Tryz.func57, Tryz.ntmps57
    go_wp2_with (first | (go_at_call 86; refine HN.out.mono ?_; rintro e w2 ⟨A, c, rfl, hc, hR, hb2⟩))
    have hR0 := hR.rd
    go_loopw [3, 18] (fun v i wr => ∃ (k : Nat) (FL : List FR), k ≤ ln ∧ i = .int .i64 (k : Int) ∧ FL.map FR.fl = ((namesOf s.dir).take k).map (fileOf s s.dir Nd.data) ∧ FlI 40 w2 wr v FL) (fun _ i _ => ln - (intOf i).toNat)
    case atStart => exact ⟨0, [], Nat.zero_le _, rfl, rfl, FlI.start 40 w2⟩
    case round =>
      obtain ⟨k, FL, hk, rfl, hfl, hF⟩ := hrel
      have hbr := hF.bl
      by_cases hlt : k < ln
      · have hkl : k < (namesOf s.dir).length := by have := Hln.out; omega
        obtain ⟨b, o, rfl, hbB, hcell⟩ := hR0.2 (by omega)
        obtain ⟨i, hi1, hi2, hi3⟩ := Hnd.out k hkl
        have g9 : wr.cell? ⟨b, o + k, none⟩ = some (svl (namesOf s.dir)[k]) := (hbr.cell (p := ⟨b, o + k, none⟩) hbB).trans (hcell k _ (by simp [hkl]))
        have hFl : FL.length = k := by have := congrArg List.length hfl; simpa [List.length_take, Nat.min_eq_left (Nat.le_of_lt hkl)] using this
        obtain ⟨As, cs, rfl, hcs⟩ := hF.own.shape
        have hbw : Below w.heap.size w wr := hb2.trans (hbr.mono hb2.size)
        have hil : i < s.nodes.length := (Hdk.out.2 _ hi3).2.2
        obtain ⟨g, cn, x, hnv, hnc, g0, g1, hxn, hxo, _⟩ := HG.out.nodeAt hil
        have hgl : g < w.heap.size := HG.out.lt g (.inl (HG.out.ynv g (by rw [hnv]; rfl)))
        have HS := Lib.hid (fun (W : World) (hb : Below w.heap.size w W) => show W.cell? ⟨rb, 7, none⟩ = some (.slice (some ⟨g, 0, none⟩) nn cn) ∧ W.cell? ⟨g, i * 2, none⟩ = some (.slice x.A x.sf.length x.c) ∧ W.cell? ⟨g, i * 2 + 1, none⟩ = some (.slice x.A2 x.L.length x.c2) from ⟨by rw [Hnn.out, ← hnv]; exact (HG.out.below hb).bk.cell 7, (hb.cell (p := ⟨g, i * 2, none⟩) hgl).trans g0, (hb.cell (p := ⟨g, i * 2 + 1, none⟩) hgl).trans g1⟩)
        have hil2 : (i : Int) < (nn : Int) := by have := Hnn.out; omega
        have hnc2 : (nn : Int) ≤ (cn : Int) := by have := Hnn.out; omega
        have Htk := Lib.hid (List.take_succ_eq_append_getElem hkl)
        have hfo : fileOf s s.dir Nd.data (namesOf s.dir)[k] = ((namesOf s.dir)[k], x.nd.data) := by unfold fileOf; rw [hi1, hxn]; rfl
        have Hfo := Lib.hid hfo
        have HNo := Lib.hid (fun (W : World) (hb : Below w.heap.size w W) => c_rNode W (n := (namesOf s.dir)[k]) ⟨R, HG.out.below hb⟩ (by have := Hdl.out; omega))
        rw [show nodeI s.dir (namesOf s.dir)[k] = (i : Int) by unfold nodeI; rw [hi1]] at HNo
        have HD := Lib.hid (fun (W : World) (hb : Below w.heap.size w W) => c_rData W (hxo.below hb) (by have h := (Hi.out i).1; rw [← hxn] at h; exact h) (by have h := (Hi.out i).2; rw [← hxn] at h; simp only [NR.nd, List.length_map] at h; omega))
        have hsz : x.nd.data.length ≤ 268435456 := by rw [hxn]; exact fits_data (Hi.out i).1
        obtain ⟨nm, hnm⟩ : ∃ x, x = (namesOf s.dir)[k] := ⟨_, rfl⟩
        rw [← hnm] at g9 Hfo Htk HNo
        obtain ⟨dt, hdt⟩ : ∃ y, y = x.nd.data := ⟨_, rfl⟩
        unfold TwB NR.cs at HD
        rw [← hdt] at Hfo hsz HD
        have Hfl := Lib.hid hfl
        have HFl := Lib.hid hFl
        have hfsz := hF.bl.size
        have HF := Lib.hid hF
        obtain ⟨dl, hdl'⟩ : ∃ x, x = dt.length := ⟨_, rfl⟩
        rw [← hdl'] at HD hsz
        have HdL := Lib.hid hdl'
        have Hbw := Lib.hid hbw
        have hS0 := HS.out wr.drew hbw.drew
        clear hfl hF hcell hi1 hi2 hi3 hfo hnm hdt hdl' hFl hnv hnc hxn hxo g0 g1 hbw
        unfold svl ptrV at *
        go_wp2
        have hHeld : (fun W : World => W.cell? ⟨rb, 7, none⟩ = some (.slice (some ⟨g, 0, none⟩) nn cn) ∧ W.cell? ⟨g, i * 2, none⟩ = some (.slice x.A x.sf.length x.c) ∧ W.cell? ⟨g, i * 2 + 1, none⟩ = some (.slice x.A2 x.L.length x.c2)) wr.drew := hS0
        refine wp_region_T (S := fun W : World => W.cell? ⟨rb, 7, none⟩ = some (.slice (some ⟨g, 0, none⟩) nn cn) ∧ W.cell? ⟨g, i * 2, none⟩ = some (.slice x.A x.sf.length x.c) ∧ W.cell? ⟨g, i * 2 + 1, none⟩ = some (.slice x.A2 x.L.length x.c2)) (m := 16) (by kernel_rfl) ?_
        simp only [List.size_toArray, List.length_cons, List.length_nil, Nat.reduceAdd]
        refine tTake (i := 0) (v := ?_) rfl (by kernel_rfl) (by kernel_rfl) (by kernel_rfl) (by kernel_rfl) (fun _ _ _ h => h) hHeld (by rfl) ?_ ?_
        rotate_left
        · (intro w hSw; (try dsimp only at hSw); go_simp; try with_reducible rfl)
        try simp only [Act.put, List.setIfInBounds_toArray, List.set_cons_zero, List.set_cons_succ]
        refine tTake (i := 1) (v := ?_) rfl (by kernel_rfl) (by kernel_rfl) (by kernel_rfl) (by kernel_rfl) (fun _ _ _ h => h) hHeld (by rfl) ?_ ?_
        rotate_left
        · (intro w hSw; (try dsimp only at hSw); go_simp; try with_reducible rfl)
        try simp only [Act.put, List.setIfInBounds_toArray, List.set_cons_zero, List.set_cons_succ]
        refine tTake (i := 2) (v := ?_) rfl (by kernel_rfl) (by kernel_rfl) (by kernel_rfl) (by kernel_rfl) (fun _ _ _ h => h) hHeld (by rfl) ?_ ?_
        rotate_left
        · (intro w hSw; (try dsimp only at hSw); go_simp; try with_reducible rfl)
        try simp only [Act.put, List.setIfInBounds_toArray, List.set_cons_zero, List.set_cons_succ]
        refine tTake (i := 3) (v := ?_) rfl (by kernel_rfl) (by kernel_rfl) (by kernel_rfl) (by kernel_rfl) (fun _ _ _ h => h) hHeld (by rfl) ?_ ?_
        rotate_left
        · (intro w hSw; (try dsimp only at hSw); go_simp; try with_reducible rfl)
        try simp only [Act.put, List.setIfInBounds_toArray, List.set_cons_zero, List.set_cons_succ]
        refine tTake (i := 4) (v := ?_) rfl (by kernel_rfl) (by kernel_rfl) (by kernel_rfl) (by kernel_rfl) (fun _ _ _ h => h) hHeld (by rfl) ?_ ?_
        rotate_left
        · (intro w hSw; (try dsimp only at hSw); go_simp; try with_reducible rfl)
        try simp only [Act.put, List.setIfInBounds_toArray, List.set_cons_zero, List.set_cons_succ]
        refine tTake (i := 5) (v := ?_) rfl (by kernel_rfl) (by kernel_rfl) (by kernel_rfl) (by kernel_rfl) (fun _ _ _ h => h) hHeld (by rfl) ?_ ?_
        rotate_left
        · (intro w hSw; (try dsimp only at hSw); go_simp; try with_reducible rfl)
        try simp only [Act.put, List.setIfInBounds_toArray, List.set_cons_zero, List.set_cons_succ]
        refine tTake (i := 6) (v := ?_) rfl (by kernel_rfl) (by kernel_rfl) (by kernel_rfl) (by kernel_rfl) (fun _ _ _ h => h) hHeld (by rfl) ?_ ?_
        rotate_left
        · (intro w hSw; (try dsimp only at hSw); go_simp; try with_reducible rfl)
        try simp only [Act.put, List.setIfInBounds_toArray, List.set_cons_zero, List.set_cons_succ]
        refine tTake (i := 7) (v := ?_) rfl (by kernel_rfl) (by kernel_rfl) (by kernel_rfl) (by kernel_rfl) (fun _ _ _ h => h) hHeld (by rfl) ?_ ?_
        rotate_left
        · (intro w hSw; (try dsimp only at hSw); go_simp; try with_reducible rfl)
        try simp only [Act.put, List.setIfInBounds_toArray, List.set_cons_zero, List.set_cons_succ]
        refine tStep (i := 8) rfl (by kernel_rfl) (fun K hK => ?_)
        go_simp
        go_at_call 43
        refine (HNo.out wr.drew Hbw.out.drew).mono ?_
        rintro e w3 ⟨rfl, hb3⟩
        have hb3w : Below w.heap.size w w3 := Hbw.out.drew.trans (hb3.mono Hbw.out.size)
        have hHeldN : (fun W : World => W.cell? ⟨rb, 7, none⟩ = some (.slice (some ⟨g, 0, none⟩) nn cn) ∧ W.cell? ⟨g, i * 2, none⟩ = some (.slice x.A x.sf.length x.c) ∧ W.cell? ⟨g, i * 2 + 1, none⟩ = some (.slice x.A2 x.L.length x.c2)) _ := HS.out w3 hb3w
        refine hK.out _ _ (fun _ => hHeldN) ?_
        clear hK K hHeld
        have hHeld := hHeldN
        clear hHeldN
        try simp only [Act.put, List.setIfInBounds_toArray, List.set_cons_zero, List.set_cons_succ]
        refine tTake (i := 9) (v := ?_) rfl (by kernel_rfl) (by kernel_rfl) (by kernel_rfl) (by kernel_rfl) (fun _ _ _ h => h) hHeld (by rfl) ?_ ?_
        rotate_left
        · (intro w hSw; (try dsimp only at hSw); go_simp; try with_reducible rfl)
        try simp only [Act.put, List.setIfInBounds_toArray, List.set_cons_zero, List.set_cons_succ]
        refine tTake (i := 10) (v := ?_) rfl (by kernel_rfl) (by kernel_rfl) (by kernel_rfl) (by kernel_rfl) (fun _ _ _ h => h) hHeld (by rfl) ?_ ?_
        rotate_left
        · (intro w hSw; (try dsimp only at hSw); go_simp; try with_reducible rfl)
        try simp only [Act.put, List.setIfInBounds_toArray, List.set_cons_zero, List.set_cons_succ]
        refine tStep (i := 11) rfl (by kernel_rfl) (fun K hK => ?_)
        go_simp
        go_at_call 44
        refine (HD.out w3 hb3w).mono ?_
        rintro e w4 ⟨A4, c4, rfl, hc4, ho4, hb4⟩
        have hb4w : Below w.heap.size w w4 := hb3w.trans (hb4.mono hb3w.size)
        have F4 : FlI 40 w2 w4 (.slice As FL.length cs) FL := (HF.out.keep ((Below.refl wr.heap.size wr).drew.trans hb3)).keep hb4
        have hHeldN : (fun W : World => W.cell? ⟨rb, 7, none⟩ = some (.slice (some ⟨g, 0, none⟩) nn cn) ∧ W.cell? ⟨g, i * 2, none⟩ = some (.slice x.A x.sf.length x.c) ∧ W.cell? ⟨g, i * 2 + 1, none⟩ = some (.slice x.A2 x.L.length x.c2)) _ := HS.out w4 hb4w
        refine hK.out _ _ (fun _ => hHeldN) ?_
        clear hK K hHeld
        have hHeld := hHeldN
        clear hHeldN
        try simp only [Act.put, List.setIfInBounds_toArray, List.set_cons_zero, List.set_cons_succ]
        refine tTake (i := 12) (v := ?_) rfl (by kernel_rfl) (by kernel_rfl) (by kernel_rfl) (by kernel_rfl) (fun _ _ _ h => h) hHeld (by rfl) ?_ ?_
        rotate_left
        · (intro w hSw; (try dsimp only at hSw); go_simp; try with_reducible rfl)
        try simp only [Act.put, List.setIfInBounds_toArray, List.set_cons_zero, List.set_cons_succ]
        refine tStep (i := 13) rfl (by kernel_rfl) (fun K hK => ?_)
        go_simp
        have hb5w : Below w.heap.size w (w4.alloc (.cells #[.string ⟨nm.toArray⟩, .slice A4 dl c4] 40)) := hb4w.alloc hb4w.size _
        have F5 : FlI 40 w2 (w4.alloc (.cells #[.string ⟨nm.toArray⟩, .slice A4 dl c4] 40)) (.slice As FL.length cs) FL := F4.keep ((Below.refl w4.heap.size w4).alloc (Nat.le_refl _) _)
        have N5 := Bk.new_ w4 40 #[.string ⟨nm.toArray⟩, .slice A4 dl c4]
        have hHeldN : (fun W : World => W.cell? ⟨rb, 7, none⟩ = some (.slice (some ⟨g, 0, none⟩) nn cn) ∧ W.cell? ⟨g, i * 2, none⟩ = some (.slice x.A x.sf.length x.c) ∧ W.cell? ⟨g, i * 2 + 1, none⟩ = some (.slice x.A2 x.L.length x.c2)) _ := HS.out _ hb5w
        refine hK.out _ _ (fun _ => hHeldN) ?_
        clear hK K hHeld
        have hHeld := hHeldN
        clear hHeldN
        try simp only [Act.put, List.setIfInBounds_toArray, List.set_cons_zero, List.set_cons_succ]
        refine tStep (i := 14) rfl (by kernel_rfl) (fun K hK => ?_)
        refine at_app (.tmp 22) (.tmp 35) ?_
        refine stepK_new rfl (.tmp 22) (.tmp 35) rfl slfl (by decide) rfl F5.own F5.bl.size rfl (news := [.string ⟨nm.toArray⟩, .slice A4 dl c4]) rfl (fun j u hu => by rw [Nat.zero_add]; exact (N5.cell j).trans (by simpa using hu)) (by intro u hu; simp only [List.mem_cons, List.not_mem_nil, or_false] at hu; rcases hu with rfl | rfl <;> rfl) (by have := HFl.out; omega) ?_
        intro v8 w8 ho8 hb8 hg8 hat8
        obtain ⟨A8, c8, rfl, hc8⟩ := ho8.shape
        have hb8b : Below w2.heap.size w2 w8 := F5.bl.trans hb8
        have hb8w : Below w.heap.size w w8 := hb2.trans (hb8b.mono hb2.size)
        have hHeldN : (fun W : World => W.cell? ⟨rb, 7, none⟩ = some (.slice (some ⟨g, 0, none⟩) nn cn) ∧ W.cell? ⟨g, i * 2, none⟩ = some (.slice x.A x.sf.length x.c) ∧ W.cell? ⟨g, i * 2 + 1, none⟩ = some (.slice x.A2 x.L.length x.c2)) _ := HS.out w8 hb8w
        refine hK.out _ _ (fun _ => hHeldN) ?_
        clear hK K hHeld
        have hHeld := hHeldN
        clear hHeldN
        try simp only [Act.put, List.setIfInBounds_toArray, List.set_cons_zero, List.set_cons_succ]
        refine tStep (i := 15) rfl (by kernel_rfl) (fun K hK => ?_)
        go_simp
        have hHeldN : (fun W : World => W.cell? ⟨rb, 7, none⟩ = some (.slice (some ⟨g, 0, none⟩) nn cn) ∧ W.cell? ⟨g, i * 2, none⟩ = some (.slice x.A x.sf.length x.c) ∧ W.cell? ⟨g, i * 2 + 1, none⟩ = some (.slice x.A2 x.L.length x.c2)) _ := hHeld
        refine hK.out _ _ (fun _ => hHeldN) ?_
        clear hK K hHeld
        have hHeld := hHeldN
        clear hHeldN
        try simp only [Act.put, List.setIfInBounds_toArray, List.set_cons_zero, List.set_cons_succ]
        refine tDone (by kernel_rfl) ?_ _
        have hx : (⟨nm, dt, A4, c4⟩ : FR).ok (fun b => w2.heap.size ≤ b ∧ b < (w4.alloc (.cells #[.string ⟨nm.toArray⟩, .slice A4 dl c4] 40)).heap.size ∧ (Value.slice As FL.length cs).ownBlock ≠ some b) (w4.alloc (.cells #[.string ⟨nm.toArray⟩, .slice A4 dl c4] 40)) := by
          unfold Lec.Own at ho4
          rw [bcs_length, HdL.out] at ho4
          have e1 := RdP.newB ho4
          have h34 : wr.heap.size ≤ w3.heap.size := hb3.size
          refine ⟨?_, by show dt.length ≤ c4; rw [← HdL.out]; exact hc4⟩
          refine RdP.below (w := w4) ⟨e1.rd, fun hn p hp => ?_⟩ ((Below.refl w4.heap.size w4).alloc (Nat.le_refl _) _)
          have h2 := e1.lie hn p hp
          refine ⟨by omega, by simp; omega, fun e => ?_⟩
          have h1 := (World.ownsRow.lt HF.out.own p.block e).2
          omega
        have F8 := F5.snoc hx (by show OwnK w8 _ _ 2 (.slice A8 (FL.length + 1) c8) _ (_ ++ [svl nm, .slice A4 dt.length c4]); rw [← HdL.out]; exact ho8) hg8 hat8 hb8b
        go_wp2
        go_roundw
        case rel =>
          refine ⟨k + 1, FL ++ [⟨nm, dt, A4, c4⟩], by omega, by go_num, ?_, F8⟩
          rw [List.map_append, Hfl.out, Htk.out, List.map_append, List.map_cons, List.map_nil, List.map_cons, List.map_nil, Hfo.out]; rfl
        case measure => simp [intOf]; omega
      · obtain rfl : k = ln := by omega
        obtain ⟨As, cs, rfl, hcs⟩ := hF.own.shape
        have hFl : FL.length = k := by have := congrArg List.length hfl; simpa [List.length_take, Hln.out] using this
        rw [hFl] at hF hcs ⊢
        rw [List.take_of_length_le (by rw [Hln.out]; exact Nat.le_refl _)] at hfl
        have hP := hF
        rw [← Hfe.out] at hfl
        rw [← Hsf.out] at hP hcs
        have hPP := Lib.hid (FlI.post hb2 hP hfl hcs)
        rw [Hsf.out] at hPP
        clear hfl hF hP hFl hcs
        go_wp2
        go_ret
        exact hPP.out
end Go.Proofs.YtaanmnplfppdeaaGreat
/- Layer 1: the document's file system: how many bytes all files have: the walk of Used. -/
namespace Go.Fsy
def lens (L : List Fl) : Nat := (L.map fun f => f.2.length).sum
theorem lens_take_le {M : Nat} {L : List Fl} (h : ∀ f ∈ L, f.2.length ≤ M) (k : Nat) : k ≤ L.length → lens (L.take k) ≤ k * M := by
  induction k with
  | zero => intro _; simp [lens]
  | succ k ih =>
    intro hk
    have h1 := ih (by omega)
    have h2 := h _ (List.getElem_mem (show k < L.length by omega))
    unfold lens at h1 ⊢
    rw [List.take_succ_eq_append_getElem (by omega), List.map_append, List.sum_append, Nat.succ_mul]
    simp only [List.map_cons, List.map_nil, List.sum_cons, List.sum_nil, Nat.add_zero]
    exact Nat.add_le_add h1 h2
theorem files_len_le {s : St} {N : Nat} (h : Inv s N) : ∀ f ∈ files s, f.2.length ≤ 268435456 := by
  intro f hf
  unfold files at hf
  split at hf
  · cases hf
  · obtain ⟨n, _, rfl⟩ := List.mem_map.1 hf
    exact fits_data (h.nd _).1
theorem lens_files {s : St} {N : Nat} (h : Inv s N) : lens (files s) = used s := by
  unfold files used
  split
  · rfl
  · unfold lens sumD namesOf
    rw [List.map_map]
    have hp : ((s.dir.map (·.1)).mergeSort leB).Perm (s.dir.map (·.1)) := List.mergeSort_perm _ _
    rw [(hp.map _).sum_nat, List.map_map]
    congr 1
    apply List.map_congr_left
    intro p hp
    have hn := node_of_mem h.dir.1 (n := p.1) (i := p.2) hp
    simp only [Function.comp, fileOf, hn, Option.getD_some, sizeAt]
end Go.Fsy
namespace Go.Proofs.YtaanmnplfppdeaaGreat
open Go.RowKit Go.Lec Go.Fsy Go.Op Go.Maps
set_option maxRecDepth 40000 in
set_option maxHeartbeats 800000 in
theorem c_rUsed (w : World) {Y J : Nat → Prop} {rb N : Nat} {s : St} (h : RfP Y J w rb s) (hi : Fsy.Inv s N) (hN : N ≤ 1048576) :
    Calls Tryz.prog 60 #[ptrV rb] w fun e w' => e = .returned (.int .i64 (used s : Nat)) ∧ Below w.heap.size w w' := by
  have HF := Lib.hid (c_rFiles w h hi hN)
  unfold FilesP at HF
  have hu := lens_files hi
  have hle := fun k hk => lens_take_le (M := 268435456) (files_len_le hi) k hk
  have hfl : (files s).length ≤ 1048576 := by
    have := hi.nDir
    unfold files
    split
    · exact Nat.zero_le _
    · rw [List.length_map, namesOf_len]; omega
  obtain ⟨L, hL⟩ : ∃ L, L = files s := ⟨_, rfl⟩
  rw [← hL] at HF hu hle hfl
  obtain ⟨tot, htot⟩ : ∃ t, t = used s := ⟨_, rfl⟩
  rw [← htot] at hu ⊢
  obtain ⟨ln, hln⟩ : ∃ x, x = L.length := ⟨_, rfl⟩
  rw [← hln] at HF hle hfl
  have Hln := Lib.hid hln
  have Hu := Lib.hid hu
  clear h hi hL htot hln hu
  unfold ptrV at *
  go_enter Tryz.func60, Tryz.ntmps60
  go_wp2_with (first | (go_at_call 57; refine HF.out.mono ?_; rintro e w2 ⟨A, c, FL, rfl, hc, hFL, hR, hok, hb2⟩))
  have hFl : FL.length = ln := by rw [Hln.out, ← hFL, List.length_map]
  have HFL := Lib.hid hFL
  have HFl := Lib.hid hFl
  have hR0 := hR.rd
  clear hFL hFl hok hR
  go_loopw [3, 9] (fun v i wr => ∃ k : Nat, k ≤ ln ∧ i = .int .i64 (k : Int) ∧ v = .int .i64 (lens (L.take k) : Nat) ∧ Below w2.heap.size w2 wr) (fun _ i _ => ln - (intOf i).toNat)
  case atStart => exact ⟨0, Nat.zero_le _, rfl, rfl, Below.refl _ _⟩
  case round =>
    obtain ⟨k, hk, rfl, rfl, hbl⟩ := hrel
    by_cases hlt : k < ln
    · have hkF : k < FL.length := by have := HFl.out; omega
      have hkL : k < L.length := by have := Hln.out; omega
      obtain ⟨b, o, rfl, hbB, hcell⟩ := rdK_at FR.cs_len hR0 hkF HFl.out (by decide)
      have hx : L[k] = FL[k].fl := by have := HFL.out; subst this; simp
      have hsc : lens (L.take (k + 1)) = lens (L.take k) + FL[k].data.length := by
        unfold lens
        rw [List.take_succ_eq_append_getElem hkL, List.map_append, List.sum_append, hx]
        simp [FR.fl]
      have h1 := hle (k + 1) (by omega)
      have h2 : (k + 1) * 268435456 ≤ 1048576 * 268435456 := Nat.mul_le_mul_right _ (by omega)
      rw [hsc] at h1
      have g0 : wr.cell? ⟨b, o + k * 2, none⟩ = some (svl FL[k].name) := hcell wr hbl 0 _ rfl
      have g1 : wr.cell? ⟨b, o + k * 2 + 1, none⟩ = some (.slice FL[k].A FL[k].data.length FL[k].c) := hcell wr hbl 1 _ rfl
      obtain ⟨t, ht⟩ : ∃ t, t = lens (L.take k) := ⟨_, rfl⟩
      obtain ⟨d, hd⟩ : ∃ d, d = FL[k].data.length := ⟨_, rfl⟩
      have hB1 := (Bk.new_ wr 40 #[svl FL[k].name, .slice FL[k].A FL[k].data.length FL[k].c]).cell
      have hb1 := hbl.alloc hbl.size (.cells #[svl FL[k].name, .slice FL[k].A FL[k].data.length FL[k].c] 40)
      rw [← hd] at g1 hB1 hb1
      rw [← ht, ← hd] at hsc h1
      rw [← ht]
      have htd : t + d ≤ 281474976710656 := by omega
      have Hsc := Lib.hid hsc
      have Hb1 := Lib.hid hb1
      obtain ⟨nm, hnm⟩ : ∃ x, x = FL[k].name := ⟨_, rfl⟩
      obtain ⟨fA, hfA⟩ : ∃ x, x = FL[k].A := ⟨_, rfl⟩
      obtain ⟨fc, hfc⟩ : ∃ x, x = FL[k].c := ⟨_, rfl⟩
      rw [← hnm] at g0 hB1 Hb1
      rw [← hnm, ← hfA, ← hfc] at *
      clear hcell hx hsc h1 h2 ht hd hnm hfA hfc hb1
      unfold svl at *
      go_wp2
      go_roundw
      case rel => exact ⟨k + 1, by omega, by go_num, by rw [Hsc.out]; go_num, Hb1.out⟩
      case measure => simp [intOf]; omega
    · obtain rfl : k = ln := by omega
      have htt : lens (L.take k) = tot := by rw [Hln.out, List.take_length]; exact Hu.out
      rw [htt]
      go_wp2
      go_ret
      exact ⟨rfl, hb2.trans (hbl.mono hb2.size)⟩
end Go.Proofs.YtaanmnplfppdeaaGreat
/- Layer 1: the document's file system: a file is made: the walk of Create. -/
namespace Go.Proofs.YtaanmnplfppdeaaGreat
open Go.RowKit Go.Lec Go.Fsy Go.Op Go.Maps
section
variable {Y J : Nat → Prop} {w w' : World} {rb : Nat} {s : St} {R : RGeo}
/-- A node is added. -/
theorem RfG.freshNd (h : RfG Y J w rb s R) {v : Value} (ho : OwnK w' 0 99 2 v (s.nodes.length + 1) (R.NL.flatMap NR.cs ++ [.slice none 0 0, .slice none 0 0])) (hg : w.grownBy w' R.nv.ownBlock) (hat : v.ownBlock = R.nv.ownBlock ∨ ∃ g, v.ownBlock = some g ∧ w.heap.size ≤ g) :
    RfG (fun b => Y b ∨ v.ownBlock = some b) J (w'.setCell ⟨rb, 7, none⟩ v) rb (fresh s) { R with NL := R.NL ++ [NR.mk [] none 0 [] none 0], nv := v } := by
  have hk1 : KbP (fun b => R.nv.ownBlock = some b) w w' := KbP.of_grown hg (fun g e => e)
  have hk : KbP (fun b => R.nv.ownBlock = some b ∨ b = rb) w (w'.setCell ⟨rb, 7, none⟩ v) := (hk1.more fun b hb => .inl hb).setCell (p := ⟨rb, 7, none⟩) (.inl (.inr rfl)) v
  have hB1 : Bk w' rb 95 (rfCs s R) := h.bk.kbP hk1 (fun e => h.rbN _ e rfl)
  have hJ : ∀ b, J b → ¬ (R.nv.ownBlock = some b ∨ b = rb) := fun b hb => by
    rintro (e | e)
    · exact h.yj b hb (h.ynv b e)
    · exact h.rbJ b hb e
  refine ⟨hB1.set_ 7 v, h.rk.kbP hk hJ, h.rf.kbP hk hJ, h.ru.kbP hk hJ, h.nk, h.nf, h.nu, ?_, ?_, ?_, h.dir.kbP hk hJ, h.safe.kbP hk hJ, OwnK.kbP h.mvs hk (fun g hgn => ?_), .inl h.yrb, fun g hg => .inr hg, fun g hg => .inl (h.ymv g hg), ?_, ?_⟩
  · have h2 := OwnK.kbP ho ((KbP.refl (fun b => b = rb) w').setCell (p := ⟨rb, 7, none⟩) (.inl rfl) v) (fun g hg e => own_bkK ho hB1 (by decide) (e ▸ hg))
    show OwnK _ 0 _ 2 v (s.nodes ++ [Nd.mk [] []]).length ((R.NL ++ [NR.mk [] none 0 [] none 0]).flatMap NR.cs)
    rw [List.length_append, List.length_singleton, List.flatMap_append, List.flatMap_singleton]
    exact h2
  · show (R.NL ++ [NR.mk [] none 0 [] none 0]).map NR.nd = s.nodes ++ [Nd.mk [] []]
    rw [List.map_append, h.nl]; rfl
  · intro x hx
    rcases List.mem_append.1 hx with hx | hx
    · exact (h.nok x hx).kbP hk hJ
    · rw [List.mem_singleton] at hx; subst hx
      exact ⟨⟨⟨rfl, fun h => absurd h (by decide)⟩, fun h => absurd h (by decide)⟩, RdKP.nil_, (fun y hy => by cases hy), Nat.le_refl _⟩
  · rintro (e | e)
    · exact own_own h.mvs h.nodes (by decide) g hgn e
    · exact h.rbM g hgn e
  · rintro b hb (hy | hv)
    · exact h.yj b hb hy
    · rcases hat with e | ⟨g, e, hge⟩
      · exact h.yj b hb (h.ynv b (e ▸ hv))
      · have := h.lt b (.inr hb)
        rw [e] at hv
        cases hv
        omega
  · intro b hb
    have hs := hk.size
    rcases hb with (hb | hb) | hb
    · exact Nat.lt_of_lt_of_le (h.lt b (.inl hb)) hs
    · have := (World.ownsRow.lt ho b hb).2; simpa using this
    · exact Nat.lt_of_lt_of_le (h.lt b (.inr hb)) hs
end
set_option maxRecDepth 100000 in
set_option maxHeartbeats 1600000 in
theorem c_rCreate (w : World) {Y J : Nat → Prop} {rb N : Nat} {s : St} {name : Bs} (h : RfP Y J w rb s) (hi : Fsy.Inv s N) (hN : N ≤ 1048574) (hp : s.pl.ok) (hto : name.length ≤ 4294967296) :
    Calls Tryz.prog 46 #[ptrV rb, .string ⟨name.toArray⟩] w (RupP Y J w rb (Fsy.create s name)) := by
  have HO := Lib.hid (c_rBegin w h hi (by omega) hp)
  unfold RupP at HO
  have hbi := hi.begin
  have hpb : (Fsy.begin s).1.pl.ok := by rw [begin_pl]; exact hp
  obtain ⟨b, hb⟩ : ∃ x, x = Fsy.begin s := ⟨_, rfl⟩
  have hsd : Fsy.create s name = if b.2 ≠ 0 then b else if may name = false then (b.1, 15) else if (node b.1.dir name).isSome then (b.1, 13) else if 4096 ≤ b.1.dir.length then (b.1, 2) else if Fsy.full b.1 then (b.1, 11) else (Fsy.step (Fsy.fresh b.1) (.made name b.1.nodes.length), 0) := by rw [hb]; rfl
  rw [← hb] at HO hbi hpb
  rw [hsd]
  clear hsd hb h hi hp
  have hdl := hbi.nDir
  have hml := hbi.nSafe
  have hnl := hbi.nNodes
  have HMy := Lib.hid (fun W => c_rMay W name hto)
  have HND := Lib.hid (fun (W : World) (Y1 J1 : Nat → Prop) (hP : RfP Y1 J1 W rb b.1) => c_rNode W (n := name) hP (by omega))
  have HF := Lib.hid (fun (W : World) (Y1 J1 : Nat → Prop) (hP : RfP Y1 J1 W rb b.1) => c_rFull W hP hpb)
  unfold ptrV at *
  by_cases hc : b.2 = 0
  · rw [if_neg (by simpa using hc)]
    rw [hc] at HO
    clear hc
    obtain ⟨mc, hmc⟩ : ∃ v, v = may name := ⟨_, rfl⟩
    rw [← hmc] at HMy ⊢
    cases mc with
    | false =>
      rw [if_pos rfl]
      clear hmc
      go_enter Tryz.func46, Tryz.ntmps46
      go_wp2_with (first | (go_at_call 81; refine HO.out.mono ?_; rintro e w1 ⟨rfl, Y1, J1, hP, hg1⟩) | (go_at_call 82; refine (HMy.out w1).mono ?_; rintro e w0 ⟨rfl, hw⟩; obtain rfl := hw.symm))
      go_ret
      exact ⟨rfl, Y1, J1, hP, hg1⟩
    | true =>
      rw [if_neg (by decide)]
      clear hmc
      cases hnd : node b.1.dir name with
      | some i =>
        rw [if_pos (show (some i).isSome = true from rfl)]
        rw [show nodeI b.1.dir name = (i : Int) by unfold nodeI; rw [hnd]] at HND
        have hge : (0 : Int) ≤ (i : Int) := by omega
        clear hnd
        go_enter Tryz.func46, Tryz.ntmps46
        go_wp2_with (first | (go_at_call 81; refine HO.out.mono ?_; rintro e w1 ⟨rfl, Y1, J1, hP, hg1⟩) | (go_at_call 82; refine (HMy.out w1).mono ?_; rintro e w0 ⟨rfl, hw⟩; obtain rfl := hw.symm) | (go_at_call 43; refine (HND.out w1 Y1 J1 hP).mono ?_; rintro e w2 ⟨rfl, hb2⟩))
        go_ret
        exact ⟨rfl, Y1, J1, hP.below hb2, hg1.trans (Grow.of_kb (KbP.of_below hb2))⟩
      | none =>
        rw [if_neg (show ¬ (none : Option Nat).isSome = true by decide)]
        rw [show nodeI b.1.dir name = -1 by unfold nodeI; rw [hnd]] at HND
        clear hnd
        obtain ⟨dl0, hdL⟩ : ∃ x, x = b.1.dir.length := ⟨_, rfl⟩
        have HdL := Lib.hid hdL
        rw [← hdL]
        by_cases hlong : 4096 ≤ dl0
        · rw [if_pos hlong]
          have hl' : (4096 : Int) ≤ (dl0 : Int) := by omega
          clear hdL
          go_enter Tryz.func46, Tryz.ntmps46
          go_wp2_with (first | (go_at_call 81; refine HO.out.mono ?_; rintro e w1 ⟨rfl, Y1, J1, hP, hg1⟩) | (go_at_call 82; refine (HMy.out w1).mono ?_; rintro e w0 ⟨rfl, hw⟩; obtain rfl := hw.symm) | (go_at_call 43; refine (HND.out w1 Y1 J1 hP).mono ?_; rintro e w2 ⟨rfl, hb2⟩; obtain ⟨R0, hG2⟩ := hP.below hb2; have q8 : w2.cell? ⟨rb, 8, none⟩ = some (.slice R0.dA dl0 R0.dc) := by rw [HdL.out]; exact hG2.bk.cell 8))
          go_ret
          exact ⟨rfl, Y1, J1, ⟨R0, hG2⟩, hg1.trans (Grow.of_kb (KbP.of_below hb2))⟩
        · rw [if_neg hlong]
          have hl' : ¬ (4096 : Int) ≤ (dl0 : Int) := by omega
          clear hdL
          obtain ⟨fl, hfl⟩ : ∃ x, x = Fsy.full b.1 := ⟨_, rfl⟩
          rw [← hfl] at HF ⊢
          clear hfl
          cases fl with
          | true =>
            rw [if_pos rfl]
            go_enter Tryz.func46, Tryz.ntmps46
            go_wp2_with (first | (go_at_call 81; refine HO.out.mono ?_; rintro e w1 ⟨rfl, Y1, J1, hP, hg1⟩) | (go_at_call 82; refine (HMy.out w1).mono ?_; rintro e w0 ⟨rfl, hw⟩; obtain rfl := hw.symm) | (go_at_call 43; refine (HND.out w1 Y1 J1 hP).mono ?_; rintro e w2 ⟨rfl, hb2⟩; obtain ⟨R0, hG2⟩ := hP.below hb2; have q8 : w2.cell? ⟨rb, 8, none⟩ = some (.slice R0.dA dl0 R0.dc) := by rw [HdL.out]; exact hG2.bk.cell 8) | (go_at_call 83; refine (HF.out w2 Y1 J1 ⟨R0, hG2⟩).mono ?_; rintro e w3 ⟨rfl, hb3⟩))
            go_ret
            exact ⟨rfl, Y1, J1, ⟨R0, hG2.below hb3⟩, hg1.trans (Grow.of_kb (KbP.of_below (hb2.trans (hb3.mono hb2.size))))⟩
          | false =>
            rw [if_neg (by decide)]
            obtain ⟨nn, hnn⟩ : ∃ x, x = b.1.nodes.length := ⟨_, rfl⟩
            rw [← hnn] at hnl ⊢
            obtain ⟨m1, hm1⟩ : ∃ x, x = nn + 1 := ⟨_, rfl⟩
            have hsub : IntKind.i64.wrap ((m1 : Int) - 1) = (nn : Int) := by rw [hm1, show (((nn + 1 : Nat) : Int) - 1) = (nn : Int) by omega]; exact IntWalk.i64_in _ (by omega)
            have Hnn := Lib.hid hnn
            have Hm1 := Lib.hid hm1
            clear hnn hm1
            go_enter Tryz.func46, Tryz.ntmps46
            go_wp2_with (first
              | (go_at_call 81; refine HO.out.mono ?_; rintro e w1 ⟨rfl, Y1, J1, hP, hg1⟩)
              | (go_at_call 82; refine (HMy.out w1).mono ?_; rintro e w0 ⟨rfl, hw⟩; obtain rfl := hw.symm)
              | (go_at_call 43; refine (HND.out w1 Y1 J1 hP).mono ?_; rintro e w2 ⟨rfl, hb2⟩; obtain ⟨R0, hG2⟩ := hP.below hb2; have q8 : w2.cell? ⟨rb, 8, none⟩ = some (.slice R0.dA dl0 R0.dc) := by rw [HdL.out]; exact hG2.bk.cell 8)
              | (go_at_call 83; refine (HF.out w2 Y1 J1 ⟨R0, hG2⟩).mono ?_; rintro e w4 ⟨rfl, hb4⟩
                 have hG4 := hG2.below hb4
                 obtain ⟨An, cn, hnv, hcn⟩ := hG4.nodes.shape
                 have q7 : w4.cell? ⟨rb, 7, none⟩ = some (.slice An nn cn) := by rw [Hnn.out, ← hnv]; exact hG4.bk.cell 7
                 have hOn : OwnK w4 0 99 2 (.slice An nn cn) nn (R0.NL.flatMap NR.cs) := by have h := hG4.nodes; rw [hnv, ← Hnn.out] at h; exact h
                 have HOn := Lib.hid hOn
                 have Hnv := Lib.hid hnv
                 clear hnv hOn)
              | (at_builtin; go_loud (
                 refine wpList_appK_new (w0 := w4) (base := 0) rfl (.tmp 35) (.tmp 37) rfl slno (by decide) rfl HOn.out (Below.refl 0 w4) (Nat.zero_le _) rfl (news := [.slice none 0 0, .slice none 0 0]) rfl (by intro u hu; simp only [List.mem_cons, List.not_mem_nil, or_false] at hu; rcases hu with rfl | rfl <;> rfl) (by omega) ?_
                 intro v5 w5 ho5 hb5 hg5 hat5 hs5
                 rw [← Hm1.out] at ho5
                 replace hg5 : w4.grownBy w5 (Value.slice An nn cn).ownBlock := hg5
                 obtain ⟨A5, c5, rfl, hc5⟩ := ho5.shape
                 replace hat5 : (Value.slice A5 m1 c5).ownBlock = (Value.slice An nn cn).ownBlock ∨ ∃ g, (Value.slice A5 m1 c5).ownBlock = some g ∧ w4.heap.size ≤ g := hat5
                 have hown5 : R0.nv.ownBlock = (Value.slice An nn cn).ownBlock := by rw [Hnv.out, Hnn.out]
                 have hB5 : Bk w5 rb 95 _ := hG4.bk.kbP (KbP.of_grown hg5 (fun g e => e)) (fun e => hG4.rbN rb (by rw [hown5]; exact e) rfl)
                 have q5 := hB5.cell
                 have z5 := hB5.frz
                 unfold rfCs at q5)))
            have ho5' : OwnK w5 0 99 2 (.slice A5 m1 c5) (b.1.nodes.length + 1) (R0.NL.flatMap NR.cs ++ [.slice none 0 0, .slice none 0 0]) := by rw [← Hnn.out, ← Hm1.out]; exact ho5
            have hga := RfG.freshNd hG4 ho5' (by rw [hown5]; exact hg5) (by rw [hown5]; exact hat5)
            have hgr : Grow Y1 J1 w1 (fun b => Y1 b ∨ (Value.slice A5 m1 c5).ownBlock = some b) J1 (w5.setCell ⟨rb, 7, none⟩ (.slice A5 m1 c5)) := by
              refine ⟨?_, fun x hx => .inl hx, ?_⟩
              · rintro x (hx | hx)
                · exact .inl hx
                · rcases hat5 with e | ⟨g, e, hge⟩
                  · exact .inl (hG4.ynv x (by rw [hown5, ← e]; exact hx))
                  · rw [e] at hx; cases hx; exact .inr (by have := hb2.size; have := hb4.size; omega)
              · have h1 : KbP Y1 w1 w4 := KbP.of_below (hb2.trans (hb4.mono hb2.size))
                have h2 : KbP Y1 w4 w5 := KbP.of_grown hg5 (fun g e => hG4.ynv g (by rw [hown5]; exact e))
                exact (h1.trans h2 (fun x hx => .inl hx)).setCell (p := ⟨rb, 7, none⟩) (.inl hG2.yrb) _
            obtain ⟨wa, hwa⟩ : ∃ x, x = w5.setCell ⟨rb, 7, none⟩ (.slice A5 m1 c5) := ⟨_, rfl⟩
            have hnbw : wa.heap.size = w5.heap.size := by rw [hwa]; simp
            obtain ⟨nb, hnb⟩ : ∃ x, x = w5.heap.size := ⟨_, rfl⟩
            rw [← hnb] at hnbw ⊢
            have Hnbw := Lib.hid hnbw
            clear hnb hnbw
            rw [← hwa] at hga hgr ⊢
            obtain ⟨Ya, hYa⟩ : ∃ x, x = (fun b => Y1 b ∨ (Value.slice A5 m1 c5).ownBlock = some b) := ⟨_, rfl⟩
            rw [← hYa] at hga hgr
            have hdl2 : (fresh b.1).dir.length ≤ N + 1 := hdl
            have hml2 : (fresh b.1).safe.length + (fresh b.1).mvs.length ≤ N + 1 := hml
            obtain ⟨s1, hs1⟩ : ∃ x, x = fresh b.1 := ⟨_, rfl⟩
            rw [← hs1] at hga hdl2 hml2 ⊢
            obtain ⟨R, hGa⟩ : ∃ R, RfG Ya J1 wa rb s1 R := ⟨_, hga⟩
            have Hs1 := Lib.hid hs1
            clear hga hs1 hYa hwa hG4 hG2 q7 q5 z5 hB5 ho5 ho5' hb5 hg5 hat5 hdl hml hown5 q8
            obtain ⟨dl, hdlE⟩ : ∃ x, x = s1.dir.length := ⟨_, rfl⟩
            have HdlE := Lib.hid hdlE
            have hb3 := (Below.refl wa.heap.size wa).alloc (Nat.le_refl _) (.cells (rmCs (.made name nn)).toArray 143)
            have hG3 := hGa.below hb3.drew
            have hP3 := (Bk.new_ wa 143 (rmCs (.made name nn)).toArray).drew
            rw [Hnbw.out] at hP3
            have HM := Lib.hid (c_rMoved _ (c := R.dc) (.made name nn) hG3.dir.rd (Nat.le_refl _) (by omega))
            unfold rmCs svl DirP at *
            have q8 := hG3.bk.cell 8
            unfold rfCs at q8
            rw [← hdlE] at q8 HM
            have p := hP3.cell
            have HG3 := Lib.hid hG3
            have HP3 := Lib.hid hP3
            clear hG3 hP3 hdlE
            have hHeld : (fun W : World => W.cell? ⟨rb, 8, none⟩ = some (.slice R.dA dl R.dc) ∧ W.cell? ⟨nb, 0, none⟩ = some (.int .i64 1) ∧ W.cell? ⟨nb, 1, none⟩ = some (.string ⟨name.toArray⟩) ∧ W.cell? ⟨nb, 2, none⟩ = some (.string ⟨#[]⟩) ∧ W.cell? ⟨nb, 3, none⟩ = some (.int .i64 (nn : Int))) (wa.alloc (.cells #[.int .i64 1, .string ⟨name.toArray⟩, .string ⟨#[]⟩, .int .i64 (nn : Int)] 143)).drew := ⟨q8, p 0, p 1, p 2, p 3⟩
            refine wp_region_T (S := fun W : World => W.cell? ⟨rb, 8, none⟩ = some (.slice R.dA dl R.dc) ∧ W.cell? ⟨nb, 0, none⟩ = some (.int .i64 1) ∧ W.cell? ⟨nb, 1, none⟩ = some (.string ⟨name.toArray⟩) ∧ W.cell? ⟨nb, 2, none⟩ = some (.string ⟨#[]⟩) ∧ W.cell? ⟨nb, 3, none⟩ = some (.int .i64 (nn : Int))) (m := 9) (by kernel_rfl) ?_
            simp only [List.size_toArray, List.length_cons, List.length_nil, Nat.reduceAdd]
            refine tTake (i := 0) (v := ?_) rfl (by kernel_rfl) (by kernel_rfl) (by kernel_rfl) (by kernel_rfl) (fun _ _ _ h => h) hHeld (by rfl) ?_ ?_
            rotate_left
            · (intro w hSw; (try dsimp only at hSw); go_simp; try with_reducible rfl)
            try simp only [Act.put, List.setIfInBounds_toArray, List.set_cons_zero, List.set_cons_succ]
            refine tTake (i := 1) (v := ?_) rfl (by kernel_rfl) (by kernel_rfl) (by kernel_rfl) (by kernel_rfl) (fun _ _ _ h => h) hHeld (by rfl) ?_ ?_
            rotate_left
            · (intro w hSw; (try dsimp only at hSw); go_simp; try with_reducible rfl)
            try simp only [Act.put, List.setIfInBounds_toArray, List.set_cons_zero, List.set_cons_succ]
            refine tTake (i := 2) (v := ?_) rfl (by kernel_rfl) (by kernel_rfl) (by kernel_rfl) (by kernel_rfl) (fun _ _ _ h => h) hHeld (by rfl) ?_ ?_
            rotate_left
            · (intro w hSw; (try dsimp only at hSw); go_simp; try with_reducible rfl)
            try simp only [Act.put, List.setIfInBounds_toArray, List.set_cons_zero, List.set_cons_succ]
            refine tTake (i := 3) (v := ?_) rfl (by kernel_rfl) (by kernel_rfl) (by kernel_rfl) (by kernel_rfl) (fun _ _ _ h => h) hHeld (by rfl) ?_ ?_
            rotate_left
            · (intro w hSw; (try dsimp only at hSw); go_simp; try with_reducible rfl)
            try simp only [Act.put, List.setIfInBounds_toArray, List.set_cons_zero, List.set_cons_succ]
            refine tTake (i := 4) (v := ?_) rfl (by kernel_rfl) (by kernel_rfl) (by kernel_rfl) (by kernel_rfl) (fun _ _ _ h => h) hHeld (by rfl) ?_ ?_
            rotate_left
            · (intro w hSw; (try dsimp only at hSw); go_simp; try with_reducible rfl)
            try simp only [Act.put, List.setIfInBounds_toArray, List.set_cons_zero, List.set_cons_succ]
            refine tTake (i := 5) (v := ?_) rfl (by kernel_rfl) (by kernel_rfl) (by kernel_rfl) (by kernel_rfl) (fun _ _ _ h => h) hHeld (by rfl) ?_ ?_
            rotate_left
            · (intro w hSw; (try dsimp only at hSw); go_simp; try with_reducible rfl)
            try simp only [Act.put, List.setIfInBounds_toArray, List.set_cons_zero, List.set_cons_succ]
            refine tStep (i := 6) rfl (by kernel_rfl) (fun K hK => ?_)
            go_simp
            go_at_call 84
            refine HM.out.mono ?_
            rintro e w4 ⟨A4, c4, rfl, hc4, ho4, hb4⟩
            have hG4 := HG3.out.below hb4
            have hP4 := HP3.out.below hb4 HP3.out.lt
            have p4 := hP4.cell
            have q84 : w4.cell? ⟨rb, 8, none⟩ = some (.slice R.dA dl R.dc) := by rw [HdlE.out]; exact hG4.bk.cell 8
            have z84 := hG4.bk.frz 8
            have hHeldN : (fun W : World => W.cell? ⟨rb, 8, none⟩ = some (.slice R.dA dl R.dc) ∧ W.cell? ⟨nb, 0, none⟩ = some (.int .i64 1) ∧ W.cell? ⟨nb, 1, none⟩ = some (.string ⟨name.toArray⟩) ∧ W.cell? ⟨nb, 2, none⟩ = some (.string ⟨#[]⟩) ∧ W.cell? ⟨nb, 3, none⟩ = some (.int .i64 (nn : Int))) _ := ⟨q84, p4 0, p4 1, p4 2, p4 3⟩
            refine hK.out _ _ (fun _ => hHeldN) ?_
            clear hK K hHeld
            have hHeld := hHeldN
            clear hHeldN
            try simp only [Act.put, List.setIfInBounds_toArray, List.set_cons_zero, List.set_cons_succ]
            refine tStep (i := 7) rfl (by kernel_rfl) (fun K hK => ?_)
            go_simp
            have hHeldN : (fun W : World => W.cell? ⟨rb, 8, none⟩ = some (.slice R.dA dl R.dc) ∧ W.cell? ⟨nb, 0, none⟩ = some (.int .i64 1) ∧ W.cell? ⟨nb, 1, none⟩ = some (.string ⟨name.toArray⟩) ∧ W.cell? ⟨nb, 2, none⟩ = some (.string ⟨#[]⟩) ∧ W.cell? ⟨nb, 3, none⟩ = some (.int .i64 (nn : Int))) _ := hHeld
            refine hK.out _ _ (fun _ => hHeldN) ?_
            clear hK K hHeld
            have hHeld := hHeldN
            clear hHeldN
            try simp only [Act.put, List.setIfInBounds_toArray, List.set_cons_zero, List.set_cons_succ]
            refine tStep (i := 8) rfl (by kernel_rfl) (fun K hK => ?_)
            go_simp
            have hHeldN : (fun W : World => W.cell? ⟨rb, 8, none⟩ = some (.slice R.dA dl R.dc) ∧ W.cell? ⟨nb, 0, none⟩ = some (.int .i64 1) ∧ W.cell? ⟨nb, 1, none⟩ = some (.string ⟨name.toArray⟩) ∧ W.cell? ⟨nb, 2, none⟩ = some (.string ⟨#[]⟩) ∧ W.cell? ⟨nb, 3, none⟩ = some (.int .i64 (nn : Int))) _ := hHeld
            refine hK.out _ _ (fun _ => hHeldN) ?_
            clear hK K hHeld
            have hHeld := hHeldN
            clear hHeldN
            try simp only [Act.put, List.setIfInBounds_toArray, List.set_cons_zero, List.set_cons_succ]
            refine tStep (i := 9) rfl (by kernel_rfl) (fun K hK => ?_)
            go_simp
            refine hK.out _ _ (fun h => absurd h (by decide)) ?_
            clear hK K
            try simp only [Act.put, List.setIfInBounds_toArray, List.set_cons_zero, List.set_cons_succ]
            refine tDone (by kernel_rfl) ?_ _
            have hYB : ∀ x, Ya x → x < (wa.alloc (.cells #[.int .i64 1, .string ⟨name.toArray⟩, .string ⟨#[]⟩, .int .i64 (nn : Int)] 143)).drew.heap.size := fun x hx => HG3.out.lt x (.inl hx)
            have hG5 := hG4.setDirG ho4 hYB
            have hP5 := hP4.far (p := ⟨rb, 8, none⟩) (fun e => by have := hYB _ hG4.yrb; have h9 := HG3.out.lt rb (.inl hG4.yrb); have h8 := hGa.lt rb (.inl hGa.yrb); have : nb = rb := e; have := Hnbw.out; omega) (.slice A4 (moved s1.dir (.made name nn)).length c4)
            obtain ⟨w5, hw5⟩ : ∃ x, x = w4.setCell ⟨rb, 8, none⟩ (.slice A4 (moved s1.dir (.made name nn)).length c4) := ⟨_, rfl⟩
            rw [← hw5] at hG5 hP5
            have hk25 : KbP Ya wa w5 := by
              rw [hw5]
              exact ((KbP.of_below hb3.drew).after hb4).setCell (p := ⟨rb, 8, none⟩) (.inl hG4.yrb) _
            have h24 : wa.heap.size ≤ w4.heap.size := by have := hb4.size; simp at this; omega
            have Hw5 := Lib.hid hw5
            obtain ⟨Am, cm, hmv, hcm⟩ := hG5.mvs.shape
            change R.mv = .slice Am s1.mvs.length cm at hmv
            obtain ⟨nm, hnm⟩ : ∃ x, x = s1.mvs.length := ⟨_, rfl⟩
            have q10 : w5.cell? ⟨rb, 10, none⟩ = some (.slice Am nm cm) := by rw [hnm, ← hmv]; exact hG5.bk.cell 10
            have p5 := hP5.cell
            have hmo : OwnK w5 0 143 4 (.slice Am nm cm) nm (s1.mvs.flatMap rmCs) := by rw [hnm, ← hmv]; exact hG5.mvs
            have Hnm := Lib.hid hnm
            have Hmv := Lib.hid hmv
            clear hHeld hw5 hnm hmv q84 z84 p4 q8 p
            go_wp2
            rw [← Hw5.out]
            have hHeld : (fun W : World => W.cell? ⟨rb, 10, none⟩ = some (.slice Am nm cm) ∧ W.cell? ⟨nb, 0, none⟩ = some (.int .i64 1) ∧ W.cell? ⟨nb, 1, none⟩ = some (.string ⟨name.toArray⟩) ∧ W.cell? ⟨nb, 2, none⟩ = some (.string ⟨#[]⟩) ∧ W.cell? ⟨nb, 3, none⟩ = some (.int .i64 (nn : Int))) w5.drew := ⟨q10, p5 0, p5 1, p5 2, p5 3⟩
            refine wp_region_T (S := fun W : World => W.cell? ⟨rb, 10, none⟩ = some (.slice Am nm cm) ∧ W.cell? ⟨nb, 0, none⟩ = some (.int .i64 1) ∧ W.cell? ⟨nb, 1, none⟩ = some (.string ⟨name.toArray⟩) ∧ W.cell? ⟨nb, 2, none⟩ = some (.string ⟨#[]⟩) ∧ W.cell? ⟨nb, 3, none⟩ = some (.int .i64 (nn : Int))) (m := 8) (by kernel_rfl) ?_
            simp only [List.size_toArray, List.length_cons, List.length_nil, Nat.reduceAdd]
            refine tTake (i := 0) (v := ?_) rfl (by kernel_rfl) (by kernel_rfl) (by kernel_rfl) (by kernel_rfl) (fun _ _ _ h => h) hHeld (by rfl) ?_ ?_
            rotate_left
            · (intro w hSw; (try dsimp only at hSw); go_simp; try with_reducible rfl)
            try simp only [Act.put, List.setIfInBounds_toArray, List.set_cons_zero, List.set_cons_succ]
            refine tTake (i := 1) (v := ?_) rfl (by kernel_rfl) (by kernel_rfl) (by kernel_rfl) (by kernel_rfl) (fun _ _ _ h => h) hHeld (by rfl) ?_ ?_
            rotate_left
            · (intro w hSw; (try dsimp only at hSw); go_simp; try with_reducible rfl)
            try simp only [Act.put, List.setIfInBounds_toArray, List.set_cons_zero, List.set_cons_succ]
            refine tTake (i := 2) (v := ?_) rfl (by kernel_rfl) (by kernel_rfl) (by kernel_rfl) (by kernel_rfl) (fun _ _ _ h => h) hHeld (by rfl) ?_ ?_
            rotate_left
            · (intro w hSw; (try dsimp only at hSw); go_simp; try with_reducible rfl)
            try simp only [Act.put, List.setIfInBounds_toArray, List.set_cons_zero, List.set_cons_succ]
            refine tTake (i := 3) (v := ?_) rfl (by kernel_rfl) (by kernel_rfl) (by kernel_rfl) (by kernel_rfl) (fun _ _ _ h => h) hHeld (by rfl) ?_ ?_
            rotate_left
            · (intro w hSw; (try dsimp only at hSw); go_simp; try with_reducible rfl)
            try simp only [Act.put, List.setIfInBounds_toArray, List.set_cons_zero, List.set_cons_succ]
            refine tTake (i := 4) (v := ?_) rfl (by kernel_rfl) (by kernel_rfl) (by kernel_rfl) (by kernel_rfl) (fun _ _ _ h => h) hHeld (by rfl) ?_ ?_
            rotate_left
            · (intro w hSw; (try dsimp only at hSw); go_simp; try with_reducible rfl)
            try simp only [Act.put, List.setIfInBounds_toArray, List.set_cons_zero, List.set_cons_succ]
            refine tTake (i := 5) (v := ?_) rfl (by kernel_rfl) (by kernel_rfl) (by kernel_rfl) (by kernel_rfl) (fun _ _ _ h => h) hHeld (by rfl) ?_ ?_
            rotate_left
            · (intro w hSw; (try dsimp only at hSw); go_simp; try with_reducible rfl)
            try simp only [Act.put, List.setIfInBounds_toArray, List.set_cons_zero, List.set_cons_succ]
            refine tStep (i := 6) rfl (by kernel_rfl) (fun K hK => ?_)
            go_simp
            have hb6 := ((Below.refl w5.heap.size w5).alloc (Nat.le_refl _) (.cells #[.int .i64 1, .string ⟨name.toArray⟩, .string ⟨#[]⟩, .int .i64 (nn : Int)] 143)).drew
            have hN6 := (Bk.new_ w5 143 #[.int .i64 1, .string ⟨name.toArray⟩, .string ⟨#[]⟩, .int .i64 (nn : Int)]).drew
            obtain ⟨w6, hw6⟩ : ∃ x, x = (w5.alloc (.cells #[.int .i64 1, .string ⟨name.toArray⟩, .string ⟨#[]⟩, .int .i64 (nn : Int)] 143)).drew := ⟨_, rfl⟩
            rw [← hw6] at hb6 hN6 ⊢
            clear hw6
            have hG6 := hG5.below hb6
            have hP6 := hP5.below hb6 hP5.lt
            have p6 := hP6.cell
            have q6 : w6.cell? ⟨rb, 10, none⟩ = some (.slice Am nm cm) := by rw [Hnm.out, ← Hmv.out]; exact hG6.bk.cell 10
            have hmo6 : OwnK w6 0 143 4 (.slice Am nm cm) nm (s1.mvs.flatMap rmCs) := by rw [Hnm.out, ← Hmv.out]; exact hG6.mvs
            have hHeldN : (fun W : World => W.cell? ⟨rb, 10, none⟩ = some (.slice Am nm cm) ∧ W.cell? ⟨nb, 0, none⟩ = some (.int .i64 1) ∧ W.cell? ⟨nb, 1, none⟩ = some (.string ⟨name.toArray⟩) ∧ W.cell? ⟨nb, 2, none⟩ = some (.string ⟨#[]⟩) ∧ W.cell? ⟨nb, 3, none⟩ = some (.int .i64 (nn : Int))) _ := ⟨q6, p6 0, p6 1, p6 2, p6 3⟩
            refine hK.out _ _ (fun _ => hHeldN) ?_
            clear hK K hHeld
            have hHeld := hHeldN
            clear hHeldN
            try simp only [Act.put, List.setIfInBounds_toArray, List.set_cons_zero, List.set_cons_succ]
            refine tStep (i := 7) rfl (by kernel_rfl) (fun K hK => ?_)
            refine at_app (.tmp 62) (.tmp 64) ?_
            refine stepK_new rfl (.tmp 62) (.tmp 64) rfl slrm (by decide) rfl hmo6 (Nat.zero_le _) rfl (news := rmCs (.made name nn)) rfl (fun j u hu => by rw [Nat.zero_add]; exact (hN6.cell j).trans (by simpa [rmCs, svl] using hu)) (rmCs_one _) (by have := Hnm.out; omega) ?_
            intro v8 w8 ho8 hb8 hg8 hat8
            replace hg8 : w6.grownBy w8 (Value.slice Am nm cm).ownBlock := hg8
            replace hat8 : v8.ownBlock = (Value.slice Am nm cm).ownBlock ∨ ∃ g, v8.ownBlock = some g ∧ w6.heap.size ≤ g := hat8
            have hown : R.mv.ownBlock = (Value.slice Am nm cm).ownBlock := by rw [Hmv.out, Hnm.out]
            have ho8' : OwnK w8 0 143 4 v8 (s1.mvs.length + 1) (s1.mvs.flatMap rmCs ++ rmCs (.made name nn)) := by rw [← Hnm.out]; exact ho8
            have hF := RfG.addMove (m := .made name nn) hG6 ho8' (by show w6.grownBy w8 R.mv.ownBlock; rw [hown]; exact hg8) (by show _ = R.mv.ownBlock ∨ _; rw [hown]; exact hat8)
            have hB8 : Bk w8 rb 95 _ := hG6.bk.kbP (KbP.of_grown hg8 (fun g e => e)) (fun e => hG6.rbM rb (by show R.mv.ownBlock = _; rw [hown]; exact e) rfl)
            have hP8 := hP6.kbP (KbP.of_grown hg8 (fun g e => e)) (fun e => by have := hGa.lt _ (.inl (hGa.ymv _ (by rw [hown]; exact e))); have := Hnbw.out; omega)
            obtain ⟨A8, c8, rfl, hc8⟩ := ho8.shape
            have p8 := hP8.cell
            have q8 : w8.cell? ⟨rb, 10, none⟩ = some (.slice Am nm cm) := by rw [Hnm.out, ← Hmv.out]; exact hB8.cell 10
            have z8 := hB8.frz 10
            have hHeldN : (fun W : World => W.cell? ⟨rb, 10, none⟩ = some (.slice Am nm cm) ∧ W.cell? ⟨nb, 0, none⟩ = some (.int .i64 1) ∧ W.cell? ⟨nb, 1, none⟩ = some (.string ⟨name.toArray⟩) ∧ W.cell? ⟨nb, 2, none⟩ = some (.string ⟨#[]⟩) ∧ W.cell? ⟨nb, 3, none⟩ = some (.int .i64 (nn : Int))) _ := ⟨q8, p8 0, p8 1, p8 2, p8 3⟩
            refine hK.out _ _ (fun _ => hHeldN) ?_
            clear hK K hHeld
            have hHeld := hHeldN
            clear hHeldN
            try simp only [Act.put, List.setIfInBounds_toArray, List.set_cons_zero, List.set_cons_succ]
            refine tStep (i := 8) rfl (by kernel_rfl) (fun K hK => ?_)
            go_simp
            refine hK.out _ _ (fun h => absurd h (by decide)) ?_
            clear hK K
            try simp only [Act.put, List.setIfInBounds_toArray, List.set_cons_zero, List.set_cons_succ]
            refine tStep (i := 9) rfl (by kernel_rfl) (fun K hK => ?_)
            go_simp
            refine hK.out _ _ (fun h => absurd h (by decide)) ?_
            clear hK K
            try simp only [Act.put, List.setIfInBounds_toArray, List.set_cons_zero, List.set_cons_succ]
            refine tStep (i := 10) rfl (by kernel_rfl) (fun K hK => ?_)
            go_simp
            refine hK.out _ _ (fun h => absurd h (by decide)) ?_
            clear hK K
            try simp only [Act.put, List.setIfInBounds_toArray, List.set_cons_zero, List.set_cons_succ]
            refine tDone (by kernel_rfl) ?_ _
            go_wp2
            go_ret
            have hs58 : w5.heap.size ≤ w6.heap.size := hb6.size
            have hs25 := hk25.size
            refine ⟨rfl, _, _, ⟨_, by rw [← Hs1.out]; exact hF⟩, hg1.trans (hgr.trans ⟨?_, ?_, ?_⟩)⟩
            · rintro x (hx | hx)
              · exact .inl hx
              · rcases hat8 with e | ⟨g, e, hge⟩
                · exact .inl (hGa.ymv x (by rw [hown, ← e]; exact hx))
                · rw [e] at hx; cases hx; exact .inr (by omega)
            · rintro x (hx | hx)
              · exact .inl hx
              · exact .inr (by have h1 := hx.1; simp at h1; omega)
            · have h1 : KbP Ya wa w6 := hk25.after hb6
              have h2 : KbP Ya w6 w8 := KbP.of_grown hg8 (fun g e => hGa.ymv g (by rw [hown]; exact e))
              exact (h1.trans h2 (fun x hx => .inl hx)).setCell (p := ⟨rb, 10, none⟩) (.inl hGa.yrb) _
  · rw [if_pos hc]
    obtain ⟨st, cd⟩ := b
    simp only at hc HO
    have hcd : (cd == 0) = false := by rw [beq_eq_false_iff_ne]; exact hc
    go_enter Tryz.func46, Tryz.ntmps46
    go_wp2_with (first | (go_at_call 81; refine HO.out.mono ?_; rintro e w1 ⟨rfl, Y1, J1, hP, hg1⟩))
    go_ret
    exact ⟨rfl, Y1, J1, hP, hg1⟩
end Go.Proofs.YtaanmnplfppdeaaGreat
/- Layer 1: the document's file system: bytes are appended: the walk of Append. -/
namespace Go.Proofs.YtaanmnplfppdeaaGreat
open Go.RowKit Go.Lec Go.Fsy Go.Op Go.Maps
set_option maxRecDepth 100000 in
set_option maxHeartbeats 4000000 in
theorem c_rAppend (w : World) {Y J I2 : Nat → Prop} {rb N d : Nat} {s : St} {name bs : Bs} {B : Option Addr} (h : RfP Y J w rb s) (hi : Fsy.Inv s N) (hN : N ≤ 1048574) (hp : s.pl.ok) (hb : RdP I2 w B bs.length (bcs bs)) (hJ : ∀ q, I2 q → ¬ Y q) (hbl : bs.length ≤ 1099511627776) :
    Calls Tryz.prog 47 #[ptrV rb, .string ⟨name.toArray⟩, .slice B bs.length d] w (RupP Y J w rb (Fsy.append s name bs)) := by
  have HO := Lib.hid (c_rBegin w h hi (by omega) hp)
  unfold RupP at HO
  have hbi := hi.begin
  have hpb : (Fsy.begin s).1.pl.ok := by rw [begin_pl]; exact hp
  have HB := Lib.hid (fun (W : World) (Y1 J1 : Nat → Prop) (hg : Grow Y J w Y1 J1 W) => hb.kbP hg.kb hJ)
  obtain ⟨bl, hble⟩ : ∃ x, x = bs.length := ⟨_, rfl⟩
  have Hble := Lib.hid hble
  obtain ⟨b, hb'⟩ : ∃ x, x = Fsy.begin s := ⟨_, rfl⟩
  have hsd : Fsy.append s name bs = if b.2 ≠ 0 then b else match node b.1.dir name with | none => (b.1, 14) | some i => if 268435456 < sizeAt b.1 i + bs.length then (b.1, 2) else if noRoom b.1 bs.length then (b.1, 11) else if bs.length = 0 then (b.1, 0) else (change b.1 i (.add bs), 0) := by rw [hb']; rfl
  rw [← hb'] at HO hbi hpb
  rw [hsd]
  rw [← hble] at HB hbl ⊢
  clear hsd hb hb' h hi hp hJ hble
  have hdl := hbi.nDir
  have HND := Lib.hid (fun (W : World) (Y1 J1 : Nat → Prop) (hP : RfP Y1 J1 W rb b.1) => c_rNode W (n := name) hP (by omega))
  have HF := Lib.hid (fun (W : World) (Y1 J1 : Nat → Prop) (hP : RfP Y1 J1 W rb b.1) => c_rFull W hP hpb)
  have HU := Lib.hid (fun (W : World) (Y1 J1 : Nat → Prop) (hP : RfP Y1 J1 W rb b.1) => c_rUsed W hP hbi (by omega))
  unfold ptrV at *
  by_cases hc : b.2 = 0
  · rw [if_neg (by simpa using hc)]
    rw [hc] at HO
    cases hnd : node b.1.dir name with
    | none =>
      rw [show nodeI b.1.dir name = -1 by unfold nodeI; rw [hnd]] at HND
      clear hc hnd
      go_enter Tryz.func47, Tryz.ntmps47
      go_wp2_with (first | (go_at_call 81; refine HO.out.mono ?_; rintro e w1 ⟨rfl, Y1, J1, hP, hg1⟩) | (go_at_call 43; refine (HND.out w1 Y1 J1 hP).mono ?_; rintro e w2 ⟨rfl, hb2⟩))
      go_ret
      exact ⟨rfl, Y1, J1, hP.below hb2, hg1.trans (Grow.of_kb (KbP.of_below hb2))⟩
    | some i =>
      rw [show nodeI b.1.dir name = (i : Int) by unfold nodeI; rw [hnd]] at HND
      have hil : i < b.1.nodes.length := (hbi.dir.2 _ (node_some hnd)).2.2
      have Hnd2 := Lib.hid (hbi.nd i)
      have hszl := hbi.size i
      obtain ⟨nn, hnn⟩ : ∃ x, x = b.1.nodes.length := ⟨_, rfl⟩
      have hil2 : (i : Int) < (nn : Int) := by omega
      have Hnn := Lib.hid hnn
      obtain ⟨sz, hsz⟩ : ∃ x, x = sizeAt b.1 i := ⟨_, rfl⟩
      show Calls _ _ _ _ (RupP Y J w rb (if 268435456 < sizeAt b.1 i + bl then (b.1, 2) else if noRoom b.1 bl then (b.1, 11) else if bl = 0 then (b.1, 0) else (change b.1 i (.add bs), 0)))
      rw [← hsz] at hszl ⊢
      have hsub : IntKind.i64.wrap (268435456 - (sz : Int)) = 268435456 - (sz : Int) := IntWalk.i64_in _ (by omega)
      have Hsz := Lib.hid hsz
      have hge : ¬ ((i : Int) < 0) := by omega
      clear hc hnd hnn hsz
      by_cases n0 : 268435456 < sz + bl
      · rw [if_pos n0]
        have n0' : 268435456 - (sz : Int) < (bl : Int) := by omega
        clear n0
        go_enter Tryz.func47, Tryz.ntmps47
        go_wp2_with (first
            | (go_at_call 81; refine HO.out.mono ?_; rintro e w1 ⟨rfl, Y1, J1, hP, hg1⟩; have hrB := HB.out w1 Y1 J1 hg1)
            | (go_at_call 43; refine (HND.out w1 Y1 J1 hP).mono ?_; rintro e w2 ⟨rfl, hb2⟩
               obtain ⟨R, hG2⟩ := hP.below hb2
               obtain ⟨g, c, x, hnv, hnc, g0, g1, hxn, hxo, hxe⟩ := hG2.nodeAt hil
               have q7 : w2.cell? ⟨rb, 7, none⟩ = some (.slice (some ⟨g, 0, none⟩) nn c) := by rw [Hnn.out, ← hnv]; exact hG2.bk.cell 7
               have hnc2 : (nn : Int) ≤ (c : Int) := by have := Hnn.out; omega
               have HD := Lib.hid (c_rData w2 hxo (by have h := Hnd2.out.1; rw [← hxn] at h; exact h) (by have h := Hnd2.out.2; rw [← hxn] at h; simp only [NR.nd, List.length_map] at h; omega))
               have hds : x.nd.data.length = sz := by rw [hxn]; exact Hsz.out.symm
               unfold TwB NR.cs at HD
               rw [hds] at HD
               have Hxn := Lib.hid hxn
               have Hnv := Lib.hid hnv
               have Hxe := Lib.hid hxe
               clear hxn hnv hds hxe)
            | (go_at_call 44; refine HD.out.mono ?_; rintro e w3 ⟨A3, c3, rfl, hc3, ho3, hb3⟩))
        go_ret
        exact ⟨rfl, Y1, J1, (hP.below hb2).below hb3, hg1.trans (Grow.of_kb (KbP.of_below (hb2.trans (hb3.mono hb2.size))))⟩
      · rw [if_neg n0]
        have n0' : ¬ 268435456 - (sz : Int) < (bl : Int) := by omega
        have hbs : bl ≤ 268435456 := by omega
        clear n0
        obtain ⟨fl, hfl⟩ : ∃ x, x = Fsy.full b.1 := ⟨_, rfl⟩
        obtain ⟨rm, hrm⟩ : ∃ x, x = b.1.pl.room := ⟨_, rfl⟩
        obtain ⟨us, hus⟩ : ∃ x, x = used b.1 := ⟨_, rfl⟩
        have husl : us ≤ 281474976710656 := by
          rw [hus]
          unfold used
          split
          · exact Nat.zero_le _
          · have h1 := sumD_le (s := b.1) hbi.size b.1.dir
            have h2 : b.1.dir.length * 268435456 ≤ 1048576 * 268435456 := Nat.mul_le_mul_right _ (by omega)
            omega
        have hnr : noRoom b.1 bl = (fl || (decide (0 < rm) && (decide (0 < bl) && decide (rm < (us : Int) + bl)))) := by rw [hfl, hrm, hus]; rfl
        rw [← hfl] at HF
        rw [← hus] at HU
        rw [hnr]
        have Hrm := Lib.hid hrm
        clear hnr hfl hrm hus
        cases fl with
        | true =>
          rw [Bool.true_or, if_pos rfl]
          go_enter Tryz.func47, Tryz.ntmps47
          go_wp2_with (first
              | (go_at_call 81; refine HO.out.mono ?_; rintro e w1 ⟨rfl, Y1, J1, hP, hg1⟩; have hrB := HB.out w1 Y1 J1 hg1)
              | (go_at_call 43; refine (HND.out w1 Y1 J1 hP).mono ?_; rintro e w2 ⟨rfl, hb2⟩
                 obtain ⟨R, hG2⟩ := hP.below hb2
                 obtain ⟨g, c, x, hnv, hnc, g0, g1, hxn, hxo, hxe⟩ := hG2.nodeAt hil
                 have q7 : w2.cell? ⟨rb, 7, none⟩ = some (.slice (some ⟨g, 0, none⟩) nn c) := by rw [Hnn.out, ← hnv]; exact hG2.bk.cell 7
                 have hnc2 : (nn : Int) ≤ (c : Int) := by have := Hnn.out; omega
                 have HD := Lib.hid (c_rData w2 hxo (by have h := Hnd2.out.1; rw [← hxn] at h; exact h) (by have h := Hnd2.out.2; rw [← hxn] at h; simp only [NR.nd, List.length_map] at h; omega))
                 have hds : x.nd.data.length = sz := by rw [hxn]; exact Hsz.out.symm
                 unfold TwB NR.cs at HD
                 rw [hds] at HD
                 have Hxn := Lib.hid hxn
                 have Hnv := Lib.hid hnv
                 have Hxe := Lib.hid hxe
                 clear hxn hnv hds hxe)
              | (go_at_call 44; refine HD.out.mono ?_; rintro e w3 ⟨A3, c3, rfl, hc3, ho3, hb3⟩))
          have HS := Lib.hid (fun (W : World) (hb : Below w2.heap.size w2 W) => show W.cell? ⟨rb, 7, none⟩ = some (.slice (some ⟨g, 0, none⟩) nn c) ∧ W.cell? ⟨g, i * 2 + 1, none⟩ = some (.slice x.A2 x.L.length x.c2) ∧ W.frozen? ⟨g, i * 2 + 1, none⟩ = false ∧ RfG Y1 J1 W rb b.1 R ∧ RdK W W.heap.size 3 x.A2 x.L.length (x.L.flatMap CR.cs) ∧ Rd W W.heap.size B bl (bcs bs) ∧ W.cell? ⟨rb, 4, none⟩ = some (.int .i64 rm) from by
            have hgl : g < w2.heap.size := hG2.lt g (.inl (hG2.ynv g (by rw [Hnv.out]; rfl)))
            have h3 := hG2.below hb
            have hOw := h3.nodes
            rw [Hnv.out] at hOw
            exact ⟨by rw [Hnn.out, ← Hnv.out]; exact h3.bk.cell 7, (hb.cell (p := ⟨g, i * 2 + 1, none⟩) hgl).trans g1, World.ownsRow.frozenAt hOw (i * 2 + 1), h3, (hxo.below hb).ch.rd, (RdP.below (RdP.below hrB hb2) hb).rd, by rw [Hrm.out]; exact h3.bk.cell 4⟩)
          have hHeld : (fun W : World => W.cell? ⟨rb, 4, none⟩ = some (.int .i64 rm)) w3.drew := (HS.out w3.drew hb3.drew).2.2.2.2.2.2
          refine wp_region_held (S := fun W : World => W.cell? ⟨rb, 4, none⟩ = some (.int .i64 rm)) (by kernel_rfl) ?_
          simp only [List.size_toArray, List.length_cons, List.length_nil, Nat.reduceAdd]
          refine heldTake (i := 0) (v := ?_) rfl (by kernel_rfl) (by kernel_rfl) (by kernel_rfl) (fun _ _ _ h => h) hHeld (by rfl) ?_ ?_
          rotate_left
          · (intro w hSw; (try dsimp only at hSw); go_simp; try with_reducible rfl)
          try simp only [Act.put, List.setIfInBounds_toArray, List.set_cons_zero, List.set_cons_succ]
          refine heldStep (i := 1) rfl (by kernel_rfl) (fun K hK => ?_)
          go_simp
          go_at_call 83
          refine (HF.out w3.drew Y1 J1 ⟨R, hG2.below hb3.drew⟩).mono ?_
          rintro e w4 ⟨rfl, hb4⟩
          have hb4w : Below w2.heap.size w2 w4 := hb3.drew.trans (hb4.mono hb3.size)
          refine hK.out _ _ ((HS.out w4 hb4w).2.2.2.2.2.2) (fun hHeld => ?_)
          clear hK K
          try simp only [Act.put, List.setIfInBounds_toArray, List.set_cons_zero, List.set_cons_succ]
          refine heldTake (i := 2) (v := ?_) rfl (by kernel_rfl) (by kernel_rfl) (by kernel_rfl) (fun _ _ _ h => h) hHeld (by rfl) ?_ ?_
          rotate_left
          · (intro w hSw; (try dsimp only at hSw); go_simp; try with_reducible rfl)
          try simp only [Act.put, List.setIfInBounds_toArray, List.set_cons_zero, List.set_cons_succ]
          refine heldPass (i := 3) rfl (by kernel_rfl) (by kernel_rfl) (by kernel_rfl) (fun _ _ _ h => h) hHeld (by rfl) ?_
          try simp only [Act.put, List.setIfInBounds_toArray, List.set_cons_zero, List.set_cons_succ]
          refine heldPass (i := 4) rfl (by kernel_rfl) (by kernel_rfl) (by kernel_rfl) (fun _ _ _ h => h) hHeld (by rfl) ?_
          try simp only [Act.put, List.setIfInBounds_toArray, List.set_cons_zero, List.set_cons_succ]
          refine heldPass (i := 5) rfl (by kernel_rfl) (by kernel_rfl) (by kernel_rfl) (fun _ _ _ h => h) hHeld (by rfl) ?_
          try simp only [Act.put, List.setIfInBounds_toArray, List.set_cons_zero, List.set_cons_succ]
          refine heldPass (i := 6) rfl (by kernel_rfl) (by kernel_rfl) (by kernel_rfl) (fun _ _ _ h => h) hHeld (by rfl) ?_
          try simp only [Act.put, List.setIfInBounds_toArray, List.set_cons_zero, List.set_cons_succ]
          refine heldPass (i := 7) rfl (by kernel_rfl) (by kernel_rfl) (by kernel_rfl) (fun _ _ _ h => h) hHeld (by rfl) ?_
          try simp only [Act.put, List.setIfInBounds_toArray, List.set_cons_zero, List.set_cons_succ]
          refine heldPass (i := 8) rfl (by kernel_rfl) (by kernel_rfl) (by kernel_rfl) (fun _ _ _ h => h) hHeld (by rfl) ?_
          try simp only [Act.put, List.setIfInBounds_toArray, List.set_cons_zero, List.set_cons_succ]
          refine heldPass (i := 9) rfl (by kernel_rfl) (by kernel_rfl) (by kernel_rfl) (fun _ _ _ h => h) hHeld (by rfl) ?_
          try simp only [Act.put, List.setIfInBounds_toArray, List.set_cons_zero, List.set_cons_succ]
          refine heldPass (i := 10) rfl (by kernel_rfl) (by kernel_rfl) (by kernel_rfl) (fun _ _ _ h => h) hHeld (by rfl) ?_
          try simp only [Act.put, List.setIfInBounds_toArray, List.set_cons_zero, List.set_cons_succ]
          refine heldPass (i := 11) rfl (by kernel_rfl) (by kernel_rfl) (by kernel_rfl) (fun _ _ _ h => h) hHeld (by rfl) ?_
          try simp only [Act.put, List.setIfInBounds_toArray, List.set_cons_zero, List.set_cons_succ]
          refine heldPass (i := 12) rfl (by kernel_rfl) (by kernel_rfl) (by kernel_rfl) (fun _ _ _ h => h) hHeld (by rfl) ?_
          try simp only [Act.put, List.setIfInBounds_toArray, List.set_cons_zero, List.set_cons_succ]
          refine heldPass (i := 13) rfl (by kernel_rfl) (by kernel_rfl) (by kernel_rfl) (fun _ _ _ h => h) hHeld (by rfl) ?_
          try simp only [Act.put, List.setIfInBounds_toArray, List.set_cons_zero, List.set_cons_succ]
          refine heldPass (i := 14) rfl (by kernel_rfl) (by kernel_rfl) (by kernel_rfl) (fun _ _ _ h => h) hHeld (by rfl) ?_
          try simp only [Act.put, List.setIfInBounds_toArray, List.set_cons_zero, List.set_cons_succ]
          refine heldPass (i := 15) rfl (by kernel_rfl) (by kernel_rfl) (by kernel_rfl) (fun _ _ _ h => h) hHeld (by rfl) ?_
          try simp only [Act.put, List.setIfInBounds_toArray, List.set_cons_zero, List.set_cons_succ]
          refine heldPass (i := 16) rfl (by kernel_rfl) (by kernel_rfl) (by kernel_rfl) (fun _ _ _ h => h) hHeld (by rfl) ?_
          try simp only [Act.put, List.setIfInBounds_toArray, List.set_cons_zero, List.set_cons_succ]
          refine heldPass (i := 17) rfl (by kernel_rfl) (by kernel_rfl) (by kernel_rfl) (fun _ _ _ h => h) hHeld (by rfl) ?_
          try simp only [Act.put, List.setIfInBounds_toArray, List.set_cons_zero, List.set_cons_succ]
          refine heldPass (i := 18) rfl (by kernel_rfl) (by kernel_rfl) (by kernel_rfl) (fun _ _ _ h => h) hHeld (by rfl) ?_
          try simp only [Act.put, List.setIfInBounds_toArray, List.set_cons_zero, List.set_cons_succ]
          refine heldPass (i := 19) rfl (by kernel_rfl) (by kernel_rfl) (by kernel_rfl) (fun _ _ _ h => h) hHeld (by rfl) ?_
          try simp only [Act.put, List.setIfInBounds_toArray, List.set_cons_zero, List.set_cons_succ]
          refine heldPass (i := 20) rfl (by kernel_rfl) (by kernel_rfl) (by kernel_rfl) (fun _ _ _ h => h) hHeld (by rfl) ?_
          try simp only [Act.put, List.setIfInBounds_toArray, List.set_cons_zero, List.set_cons_succ]
          refine heldPass (i := 21) rfl (by kernel_rfl) (by kernel_rfl) (by kernel_rfl) (fun _ _ _ h => h) hHeld (by rfl) ?_
          try simp only [Act.put, List.setIfInBounds_toArray, List.set_cons_zero, List.set_cons_succ]
          refine heldPass (i := 22) rfl (by kernel_rfl) (by kernel_rfl) (by kernel_rfl) (fun _ _ _ h => h) hHeld (by rfl) ?_
          try simp only [Act.put, List.setIfInBounds_toArray, List.set_cons_zero, List.set_cons_succ]
          refine heldPass (i := 23) rfl (by kernel_rfl) (by kernel_rfl) (by kernel_rfl) (fun _ _ _ h => h) hHeld (by rfl) ?_
          try simp only [Act.put, List.setIfInBounds_toArray, List.set_cons_zero, List.set_cons_succ]
          refine heldPass (i := 24) rfl (by kernel_rfl) (by kernel_rfl) (by kernel_rfl) (fun _ _ _ h => h) hHeld (by rfl) ?_
          try simp only [Act.put, List.setIfInBounds_toArray, List.set_cons_zero, List.set_cons_succ]
          refine heldPass (i := 25) rfl (by kernel_rfl) (by kernel_rfl) (by kernel_rfl) (fun _ _ _ h => h) hHeld (by rfl) ?_
          try simp only [Act.put, List.setIfInBounds_toArray, List.set_cons_zero, List.set_cons_succ]
          refine heldPass (i := 26) rfl (by kernel_rfl) (by kernel_rfl) (by kernel_rfl) (fun _ _ _ h => h) hHeld (by rfl) ?_
          try simp only [Act.put, List.setIfInBounds_toArray, List.set_cons_zero, List.set_cons_succ]
          refine heldTake (i := 27) (v := ?_) rfl (by kernel_rfl) (by kernel_rfl) (by kernel_rfl) (fun _ _ _ h => h) hHeld (by rfl) ?_ ?_
          rotate_left
          · (intro w hSw; (try dsimp only at hSw); go_simp; try with_reducible rfl)
          try simp only [Act.put, List.setIfInBounds_toArray, List.set_cons_zero, List.set_cons_succ]
          refine wpAnyH_done (by kernel_rfl) ?_ _
          go_wp2
          go_ret
          exact ⟨rfl, Y1, J1, ⟨R, hG2.below hb4w⟩, hg1.trans (Grow.of_kb ((KbP.of_below hb2 : KbP Y1 w1 w2).after hb4w))⟩
        | false =>
          rw [Bool.false_or]
          by_cases z0 : 0 < bl
          · have dz : decide ((0 : Int) < (bl : Int)) = true := by simpa using z0
            rw [decide_eq_true z0, Bool.true_and, if_neg (show ¬ bl = 0 by omega)]
            by_cases z1 : 0 < rm
            · have dr : decide ((0 : Int) < rm) = true := by simpa using z1
              rw [decide_eq_true z1, Bool.true_and]
              have hadd : IntKind.i64.wrap ((us : Int) + (bl : Int)) = (us : Int) + (bl : Int) := IntWalk.i64_in _ (by omega)
              by_cases z2 : rm < (us : Int) + bl
              · have du : decide (rm < (us : Int) + (bl : Int)) = true := by simpa using z2
                rw [if_pos du]
                go_enter Tryz.func47, Tryz.ntmps47
                go_wp2_with (first
                    | (go_at_call 81; refine HO.out.mono ?_; rintro e w1 ⟨rfl, Y1, J1, hP, hg1⟩; have hrB := HB.out w1 Y1 J1 hg1)
                    | (go_at_call 43; refine (HND.out w1 Y1 J1 hP).mono ?_; rintro e w2 ⟨rfl, hb2⟩
                       obtain ⟨R, hG2⟩ := hP.below hb2
                       obtain ⟨g, c, x, hnv, hnc, g0, g1, hxn, hxo, hxe⟩ := hG2.nodeAt hil
                       have q7 : w2.cell? ⟨rb, 7, none⟩ = some (.slice (some ⟨g, 0, none⟩) nn c) := by rw [Hnn.out, ← hnv]; exact hG2.bk.cell 7
                       have hnc2 : (nn : Int) ≤ (c : Int) := by have := Hnn.out; omega
                       have HD := Lib.hid (c_rData w2 hxo (by have h := Hnd2.out.1; rw [← hxn] at h; exact h) (by have h := Hnd2.out.2; rw [← hxn] at h; simp only [NR.nd, List.length_map] at h; omega))
                       have hds : x.nd.data.length = sz := by rw [hxn]; exact Hsz.out.symm
                       unfold TwB NR.cs at HD
                       rw [hds] at HD
                       have Hxn := Lib.hid hxn
                       have Hnv := Lib.hid hnv
                       have Hxe := Lib.hid hxe
                       clear hxn hnv hds hxe)
                    | (go_at_call 44; refine HD.out.mono ?_; rintro e w3 ⟨A3, c3, rfl, hc3, ho3, hb3⟩))
                have HS := Lib.hid (fun (W : World) (hb : Below w2.heap.size w2 W) => show W.cell? ⟨rb, 7, none⟩ = some (.slice (some ⟨g, 0, none⟩) nn c) ∧ W.cell? ⟨g, i * 2 + 1, none⟩ = some (.slice x.A2 x.L.length x.c2) ∧ W.frozen? ⟨g, i * 2 + 1, none⟩ = false ∧ RfG Y1 J1 W rb b.1 R ∧ RdK W W.heap.size 3 x.A2 x.L.length (x.L.flatMap CR.cs) ∧ Rd W W.heap.size B bl (bcs bs) ∧ W.cell? ⟨rb, 4, none⟩ = some (.int .i64 rm) from by
                  have hgl : g < w2.heap.size := hG2.lt g (.inl (hG2.ynv g (by rw [Hnv.out]; rfl)))
                  have h3 := hG2.below hb
                  have hOw := h3.nodes
                  rw [Hnv.out] at hOw
                  exact ⟨by rw [Hnn.out, ← Hnv.out]; exact h3.bk.cell 7, (hb.cell (p := ⟨g, i * 2 + 1, none⟩) hgl).trans g1, World.ownsRow.frozenAt hOw (i * 2 + 1), h3, (hxo.below hb).ch.rd, (RdP.below (RdP.below hrB hb2) hb).rd, by rw [Hrm.out]; exact h3.bk.cell 4⟩)
                have hHeld : (fun W : World => W.cell? ⟨rb, 4, none⟩ = some (.int .i64 rm)) w3.drew := (HS.out w3.drew hb3.drew).2.2.2.2.2.2
                refine wp_region_held (S := fun W : World => W.cell? ⟨rb, 4, none⟩ = some (.int .i64 rm)) (by kernel_rfl) ?_
                simp only [List.size_toArray, List.length_cons, List.length_nil, Nat.reduceAdd]
                refine heldTake (i := 0) (v := ?_) rfl (by kernel_rfl) (by kernel_rfl) (by kernel_rfl) (fun _ _ _ h => h) hHeld (by rfl) ?_ ?_
                rotate_left
                · (intro w hSw; (try dsimp only at hSw); go_simp; try with_reducible rfl)
                try simp only [Act.put, List.setIfInBounds_toArray, List.set_cons_zero, List.set_cons_succ]
                refine heldStep (i := 1) rfl (by kernel_rfl) (fun K hK => ?_)
                go_simp
                go_at_call 83
                refine (HF.out w3.drew Y1 J1 ⟨R, hG2.below hb3.drew⟩).mono ?_
                rintro e w4 ⟨rfl, hb4⟩
                have hb4w : Below w2.heap.size w2 w4 := hb3.drew.trans (hb4.mono hb3.size)
                refine hK.out _ _ ((HS.out w4 hb4w).2.2.2.2.2.2) (fun hHeld => ?_)
                clear hK K
                try simp only [Act.put, List.setIfInBounds_toArray, List.set_cons_zero, List.set_cons_succ]
                refine heldTake (i := 2) (v := ?_) rfl (by kernel_rfl) (by kernel_rfl) (by kernel_rfl) (fun _ _ _ h => h) hHeld (by rfl) ?_ ?_
                rotate_left
                · (intro w hSw; (try dsimp only at hSw); go_simp; try with_reducible rfl)
                try simp only [Act.put, List.setIfInBounds_toArray, List.set_cons_zero, List.set_cons_succ]
                refine heldTake (i := 3) (v := ?_) rfl (by kernel_rfl) (by kernel_rfl) (by kernel_rfl) (fun _ _ _ h => h) hHeld (by rfl) ?_ ?_
                rotate_left
                · (intro w hSw; (try dsimp only at hSw); go_simp; try with_reducible rfl)
                try simp only [Act.put, List.setIfInBounds_toArray, List.set_cons_zero, List.set_cons_succ]
                refine heldTake (i := 4) (v := ?_) rfl (by kernel_rfl) (by kernel_rfl) (by kernel_rfl) (fun _ _ _ h => h) hHeld (by rfl) ?_ ?_
                rotate_left
                · (intro w hSw; (try dsimp only at hSw); go_simp; try with_reducible rfl)
                try simp only [Act.put, List.setIfInBounds_toArray, List.set_cons_zero, List.set_cons_succ]
                refine heldTake (i := 5) (v := ?_) rfl (by kernel_rfl) (by kernel_rfl) (by kernel_rfl) (fun _ _ _ h => h) hHeld (by rfl) ?_ ?_
                rotate_left
                · (intro w hSw; (try dsimp only at hSw); go_simp; try with_reducible rfl)
                try simp only [Act.put, List.setIfInBounds_toArray, List.set_cons_zero, List.set_cons_succ]
                refine heldTake (i := 6) (v := ?_) rfl (by kernel_rfl) (by kernel_rfl) (by kernel_rfl) (fun _ _ _ h => h) hHeld (by rfl) ?_ ?_
                rotate_left
                · (intro w hSw; (try dsimp only at hSw); go_simp; try with_reducible rfl)
                try simp only [Act.put, List.setIfInBounds_toArray, List.set_cons_zero, List.set_cons_succ]
                refine heldTake (i := 7) (v := ?_) rfl (by kernel_rfl) (by kernel_rfl) (by kernel_rfl) (fun _ _ _ h => h) hHeld (by rfl) ?_ ?_
                rotate_left
                · (intro w hSw; (try dsimp only at hSw); go_simp; try with_reducible rfl)
                try simp only [Act.put, List.setIfInBounds_toArray, List.set_cons_zero, List.set_cons_succ]
                refine heldTake (i := 8) (v := ?_) rfl (by kernel_rfl) (by kernel_rfl) (by kernel_rfl) (fun _ _ _ h => h) hHeld (by rfl) ?_ ?_
                rotate_left
                · (intro w hSw; (try dsimp only at hSw); go_simp; try with_reducible rfl)
                try simp only [Act.put, List.setIfInBounds_toArray, List.set_cons_zero, List.set_cons_succ]
                refine heldTake (i := 9) (v := ?_) rfl (by kernel_rfl) (by kernel_rfl) (by kernel_rfl) (fun _ _ _ h => h) hHeld (by rfl) ?_ ?_
                rotate_left
                · (intro w hSw; (try dsimp only at hSw); go_simp; try with_reducible rfl)
                try simp only [Act.put, List.setIfInBounds_toArray, List.set_cons_zero, List.set_cons_succ]
                refine heldTake (i := 10) (v := ?_) rfl (by kernel_rfl) (by kernel_rfl) (by kernel_rfl) (fun _ _ _ h => h) hHeld (by rfl) ?_ ?_
                rotate_left
                · (intro w hSw; (try dsimp only at hSw); go_simp; try with_reducible rfl)
                try simp only [Act.put, List.setIfInBounds_toArray, List.set_cons_zero, List.set_cons_succ]
                refine heldTake (i := 11) (v := ?_) rfl (by kernel_rfl) (by kernel_rfl) (by kernel_rfl) (fun _ _ _ h => h) hHeld (by rfl) ?_ ?_
                rotate_left
                · (intro w hSw; (try dsimp only at hSw); go_simp; try with_reducible rfl)
                try simp only [Act.put, List.setIfInBounds_toArray, List.set_cons_zero, List.set_cons_succ]
                refine heldTake (i := 12) (v := ?_) rfl (by kernel_rfl) (by kernel_rfl) (by kernel_rfl) (fun _ _ _ h => h) hHeld (by rfl) ?_ ?_
                rotate_left
                · (intro w hSw; (try dsimp only at hSw); go_simp; try with_reducible rfl)
                try simp only [Act.put, List.setIfInBounds_toArray, List.set_cons_zero, List.set_cons_succ]
                refine heldTake (i := 13) (v := ?_) rfl (by kernel_rfl) (by kernel_rfl) (by kernel_rfl) (fun _ _ _ h => h) hHeld (by rfl) ?_ ?_
                rotate_left
                · (intro w hSw; (try dsimp only at hSw); go_simp; try with_reducible rfl)
                try simp only [Act.put, List.setIfInBounds_toArray, List.set_cons_zero, List.set_cons_succ]
                refine heldTake (i := 14) (v := ?_) rfl (by kernel_rfl) (by kernel_rfl) (by kernel_rfl) (fun _ _ _ h => h) hHeld (by rfl) ?_ ?_
                rotate_left
                · (intro w hSw; (try dsimp only at hSw); go_simp; try with_reducible rfl)
                try simp only [Act.put, List.setIfInBounds_toArray, List.set_cons_zero, List.set_cons_succ]
                refine heldTake (i := 15) (v := ?_) rfl (by kernel_rfl) (by kernel_rfl) (by kernel_rfl) (fun _ _ _ h => h) hHeld (by rfl) ?_ ?_
                rotate_left
                · (intro w hSw; (try dsimp only at hSw); go_simp; try with_reducible rfl)
                try simp only [Act.put, List.setIfInBounds_toArray, List.set_cons_zero, List.set_cons_succ]
                refine heldTake (i := 17) (v := ?_) rfl (by kernel_rfl) (by kernel_rfl) (by kernel_rfl) (fun _ _ _ h => h) hHeld (by rfl) ?_ ?_
                rotate_left
                · (intro w hSw; (try dsimp only at hSw); go_simp; try with_reducible rfl)
                try simp only [Act.put, List.setIfInBounds_toArray, List.set_cons_zero, List.set_cons_succ]
                refine heldTake (i := 18) (v := ?_) rfl (by kernel_rfl) (by kernel_rfl) (by kernel_rfl) (fun _ _ _ h => h) hHeld (by rfl) ?_ ?_
                rotate_left
                · (intro w hSw; (try dsimp only at hSw); go_simp; try with_reducible rfl)
                try simp only [Act.put, List.setIfInBounds_toArray, List.set_cons_zero, List.set_cons_succ]
                refine heldTake (i := 20) (v := ?_) rfl (by kernel_rfl) (by kernel_rfl) (by kernel_rfl) (fun _ _ _ h => h) hHeld (by rfl) ?_ ?_
                rotate_left
                · (intro w hSw; (try dsimp only at hSw); go_simp; try with_reducible rfl)
                try simp only [Act.put, List.setIfInBounds_toArray, List.set_cons_zero, List.set_cons_succ]
                refine heldTake (i := 21) (v := ?_) rfl (by kernel_rfl) (by kernel_rfl) (by kernel_rfl) (fun _ _ _ h => h) hHeld (by rfl) ?_ ?_
                rotate_left
                · (intro w hSw; (try dsimp only at hSw); go_simp; try with_reducible rfl)
                try simp only [Act.put, List.setIfInBounds_toArray, List.set_cons_zero, List.set_cons_succ]
                refine heldTake (i := 22) (v := ?_) rfl (by kernel_rfl) (by kernel_rfl) (by kernel_rfl) (fun _ _ _ h => h) hHeld (by rfl) ?_ ?_
                rotate_left
                · (intro w hSw; (try dsimp only at hSw); go_simp; try with_reducible rfl)
                try simp only [Act.put, List.setIfInBounds_toArray, List.set_cons_zero, List.set_cons_succ]
                refine heldTake (i := 23) (v := ?_) rfl (by kernel_rfl) (by kernel_rfl) (by kernel_rfl) (fun _ _ _ h => h) hHeld (by rfl) ?_ ?_
                rotate_left
                · (intro w hSw; (try dsimp only at hSw); go_simp; try with_reducible rfl)
                try simp only [Act.put, List.setIfInBounds_toArray, List.set_cons_zero, List.set_cons_succ]
                refine heldTake (i := 24) (v := ?_) rfl (by kernel_rfl) (by kernel_rfl) (by kernel_rfl) (fun _ _ _ h => h) hHeld (by rfl) ?_ ?_
                rotate_left
                · (intro w hSw; (try dsimp only at hSw); go_simp; try with_reducible rfl)
                try simp only [Act.put, List.setIfInBounds_toArray, List.set_cons_zero, List.set_cons_succ]
                refine heldStep (i := 16) rfl (by kernel_rfl) (fun K hK => ?_)
                go_simp
                go_at_call 60
                refine (HU.out w4 Y1 J1 ⟨R, hG2.below hb4w⟩).mono ?_
                rintro e w5 ⟨rfl, hb5⟩
                have hb5w : Below w2.heap.size w2 w5 := hb4w.trans (hb5.mono hb4w.size)
                refine hK.out _ _ ((HS.out w5 hb5w).2.2.2.2.2.2) (fun hHeld => ?_)
                clear hK K
                try simp only [Act.put, List.setIfInBounds_toArray, List.set_cons_zero, List.set_cons_succ]
                refine heldTake (i := 19) (v := ?_) rfl (by kernel_rfl) (by kernel_rfl) (by kernel_rfl) (fun _ _ _ h => h) hHeld (by rfl) ?_ ?_
                rotate_left
                · (intro w hSw; (try dsimp only at hSw); go_simp; try with_reducible rfl)
                try simp only [Act.put, List.setIfInBounds_toArray, List.set_cons_zero, List.set_cons_succ]
                refine heldTake (i := 25) (v := ?_) rfl (by kernel_rfl) (by kernel_rfl) (by kernel_rfl) (fun _ _ _ h => h) hHeld (by rfl) ?_ ?_
                rotate_left
                · (intro w hSw; (try dsimp only at hSw); go_simp; try with_reducible rfl)
                try simp only [Act.put, List.setIfInBounds_toArray, List.set_cons_zero, List.set_cons_succ]
                refine heldTake (i := 26) (v := ?_) rfl (by kernel_rfl) (by kernel_rfl) (by kernel_rfl) (fun _ _ _ h => h) hHeld (by rfl) ?_ ?_
                rotate_left
                · (intro w hSw; (try dsimp only at hSw); go_simp; try with_reducible rfl)
                try simp only [Act.put, List.setIfInBounds_toArray, List.set_cons_zero, List.set_cons_succ]
                refine heldTake (i := 27) (v := ?_) rfl (by kernel_rfl) (by kernel_rfl) (by kernel_rfl) (fun _ _ _ h => h) hHeld (by rfl) ?_ ?_
                rotate_left
                · (intro w hSw; (try dsimp only at hSw); go_simp; try with_reducible rfl)
                try simp only [Act.put, List.setIfInBounds_toArray, List.set_cons_zero, List.set_cons_succ]
                refine wpAnyH_done (by kernel_rfl) ?_ _
                go_wp2
                go_ret
                exact ⟨rfl, Y1, J1, ⟨R, hG2.below hb5w⟩, hg1.trans (Grow.of_kb ((KbP.of_below hb2 : KbP Y1 w1 w2).after hb5w))⟩
              · have du : decide (rm < (us : Int) + (bl : Int)) = false := by simpa using z2
                rw [if_neg (show ¬ decide (rm < (us : Int) + (bl : Int)) = true by rw [du]; decide)]
                go_enter Tryz.func47, Tryz.ntmps47
                go_wp2_with (first
                    | (go_at_call 81; refine HO.out.mono ?_; rintro e w1 ⟨rfl, Y1, J1, hP, hg1⟩; have hrB := HB.out w1 Y1 J1 hg1)
                    | (go_at_call 43; refine (HND.out w1 Y1 J1 hP).mono ?_; rintro e w2 ⟨rfl, hb2⟩
                       obtain ⟨R, hG2⟩ := hP.below hb2
                       obtain ⟨g, c, x, hnv, hnc, g0, g1, hxn, hxo, hxe⟩ := hG2.nodeAt hil
                       have q7 : w2.cell? ⟨rb, 7, none⟩ = some (.slice (some ⟨g, 0, none⟩) nn c) := by rw [Hnn.out, ← hnv]; exact hG2.bk.cell 7
                       have hnc2 : (nn : Int) ≤ (c : Int) := by have := Hnn.out; omega
                       have HD := Lib.hid (c_rData w2 hxo (by have h := Hnd2.out.1; rw [← hxn] at h; exact h) (by have h := Hnd2.out.2; rw [← hxn] at h; simp only [NR.nd, List.length_map] at h; omega))
                       have hds : x.nd.data.length = sz := by rw [hxn]; exact Hsz.out.symm
                       unfold TwB NR.cs at HD
                       rw [hds] at HD
                       have Hxn := Lib.hid hxn
                       have Hnv := Lib.hid hnv
                       have Hxe := Lib.hid hxe
                       clear hxn hnv hds hxe)
                    | (go_at_call 44; refine HD.out.mono ?_; rintro e w3 ⟨A3, c3, rfl, hc3, ho3, hb3⟩))
                have HS := Lib.hid (fun (W : World) (hb : Below w2.heap.size w2 W) => show W.cell? ⟨rb, 7, none⟩ = some (.slice (some ⟨g, 0, none⟩) nn c) ∧ W.cell? ⟨g, i * 2 + 1, none⟩ = some (.slice x.A2 x.L.length x.c2) ∧ W.frozen? ⟨g, i * 2 + 1, none⟩ = false ∧ RfG Y1 J1 W rb b.1 R ∧ RdK W W.heap.size 3 x.A2 x.L.length (x.L.flatMap CR.cs) ∧ Rd W W.heap.size B bl (bcs bs) ∧ W.cell? ⟨rb, 4, none⟩ = some (.int .i64 rm) from by
                  have hgl : g < w2.heap.size := hG2.lt g (.inl (hG2.ynv g (by rw [Hnv.out]; rfl)))
                  have h3 := hG2.below hb
                  have hOw := h3.nodes
                  rw [Hnv.out] at hOw
                  exact ⟨by rw [Hnn.out, ← Hnv.out]; exact h3.bk.cell 7, (hb.cell (p := ⟨g, i * 2 + 1, none⟩) hgl).trans g1, World.ownsRow.frozenAt hOw (i * 2 + 1), h3, (hxo.below hb).ch.rd, (RdP.below (RdP.below hrB hb2) hb).rd, by rw [Hrm.out]; exact h3.bk.cell 4⟩)
                have hHeld : (fun W : World => W.cell? ⟨rb, 4, none⟩ = some (.int .i64 rm)) w3.drew := (HS.out w3.drew hb3.drew).2.2.2.2.2.2
                refine wp_region_held (S := fun W : World => W.cell? ⟨rb, 4, none⟩ = some (.int .i64 rm)) (by kernel_rfl) ?_
                simp only [List.size_toArray, List.length_cons, List.length_nil, Nat.reduceAdd]
                refine heldTake (i := 0) (v := ?_) rfl (by kernel_rfl) (by kernel_rfl) (by kernel_rfl) (fun _ _ _ h => h) hHeld (by rfl) ?_ ?_
                rotate_left
                · (intro w hSw; (try dsimp only at hSw); go_simp; try with_reducible rfl)
                try simp only [Act.put, List.setIfInBounds_toArray, List.set_cons_zero, List.set_cons_succ]
                refine heldStep (i := 1) rfl (by kernel_rfl) (fun K hK => ?_)
                go_simp
                go_at_call 83
                refine (HF.out w3.drew Y1 J1 ⟨R, hG2.below hb3.drew⟩).mono ?_
                rintro e w4 ⟨rfl, hb4⟩
                have hb4w : Below w2.heap.size w2 w4 := hb3.drew.trans (hb4.mono hb3.size)
                refine hK.out _ _ ((HS.out w4 hb4w).2.2.2.2.2.2) (fun hHeld => ?_)
                clear hK K
                try simp only [Act.put, List.setIfInBounds_toArray, List.set_cons_zero, List.set_cons_succ]
                refine heldTake (i := 2) (v := ?_) rfl (by kernel_rfl) (by kernel_rfl) (by kernel_rfl) (fun _ _ _ h => h) hHeld (by rfl) ?_ ?_
                rotate_left
                · (intro w hSw; (try dsimp only at hSw); go_simp; try with_reducible rfl)
                try simp only [Act.put, List.setIfInBounds_toArray, List.set_cons_zero, List.set_cons_succ]
                refine heldTake (i := 3) (v := ?_) rfl (by kernel_rfl) (by kernel_rfl) (by kernel_rfl) (fun _ _ _ h => h) hHeld (by rfl) ?_ ?_
                rotate_left
                · (intro w hSw; (try dsimp only at hSw); go_simp; try with_reducible rfl)
                try simp only [Act.put, List.setIfInBounds_toArray, List.set_cons_zero, List.set_cons_succ]
                refine heldTake (i := 4) (v := ?_) rfl (by kernel_rfl) (by kernel_rfl) (by kernel_rfl) (fun _ _ _ h => h) hHeld (by rfl) ?_ ?_
                rotate_left
                · (intro w hSw; (try dsimp only at hSw); go_simp; try with_reducible rfl)
                try simp only [Act.put, List.setIfInBounds_toArray, List.set_cons_zero, List.set_cons_succ]
                refine heldTake (i := 5) (v := ?_) rfl (by kernel_rfl) (by kernel_rfl) (by kernel_rfl) (fun _ _ _ h => h) hHeld (by rfl) ?_ ?_
                rotate_left
                · (intro w hSw; (try dsimp only at hSw); go_simp; try with_reducible rfl)
                try simp only [Act.put, List.setIfInBounds_toArray, List.set_cons_zero, List.set_cons_succ]
                refine heldTake (i := 6) (v := ?_) rfl (by kernel_rfl) (by kernel_rfl) (by kernel_rfl) (fun _ _ _ h => h) hHeld (by rfl) ?_ ?_
                rotate_left
                · (intro w hSw; (try dsimp only at hSw); go_simp; try with_reducible rfl)
                try simp only [Act.put, List.setIfInBounds_toArray, List.set_cons_zero, List.set_cons_succ]
                refine heldTake (i := 7) (v := ?_) rfl (by kernel_rfl) (by kernel_rfl) (by kernel_rfl) (fun _ _ _ h => h) hHeld (by rfl) ?_ ?_
                rotate_left
                · (intro w hSw; (try dsimp only at hSw); go_simp; try with_reducible rfl)
                try simp only [Act.put, List.setIfInBounds_toArray, List.set_cons_zero, List.set_cons_succ]
                refine heldTake (i := 8) (v := ?_) rfl (by kernel_rfl) (by kernel_rfl) (by kernel_rfl) (fun _ _ _ h => h) hHeld (by rfl) ?_ ?_
                rotate_left
                · (intro w hSw; (try dsimp only at hSw); go_simp; try with_reducible rfl)
                try simp only [Act.put, List.setIfInBounds_toArray, List.set_cons_zero, List.set_cons_succ]
                refine heldTake (i := 9) (v := ?_) rfl (by kernel_rfl) (by kernel_rfl) (by kernel_rfl) (fun _ _ _ h => h) hHeld (by rfl) ?_ ?_
                rotate_left
                · (intro w hSw; (try dsimp only at hSw); go_simp; try with_reducible rfl)
                try simp only [Act.put, List.setIfInBounds_toArray, List.set_cons_zero, List.set_cons_succ]
                refine heldTake (i := 10) (v := ?_) rfl (by kernel_rfl) (by kernel_rfl) (by kernel_rfl) (fun _ _ _ h => h) hHeld (by rfl) ?_ ?_
                rotate_left
                · (intro w hSw; (try dsimp only at hSw); go_simp; try with_reducible rfl)
                try simp only [Act.put, List.setIfInBounds_toArray, List.set_cons_zero, List.set_cons_succ]
                refine heldTake (i := 11) (v := ?_) rfl (by kernel_rfl) (by kernel_rfl) (by kernel_rfl) (fun _ _ _ h => h) hHeld (by rfl) ?_ ?_
                rotate_left
                · (intro w hSw; (try dsimp only at hSw); go_simp; try with_reducible rfl)
                try simp only [Act.put, List.setIfInBounds_toArray, List.set_cons_zero, List.set_cons_succ]
                refine heldTake (i := 12) (v := ?_) rfl (by kernel_rfl) (by kernel_rfl) (by kernel_rfl) (fun _ _ _ h => h) hHeld (by rfl) ?_ ?_
                rotate_left
                · (intro w hSw; (try dsimp only at hSw); go_simp; try with_reducible rfl)
                try simp only [Act.put, List.setIfInBounds_toArray, List.set_cons_zero, List.set_cons_succ]
                refine heldTake (i := 13) (v := ?_) rfl (by kernel_rfl) (by kernel_rfl) (by kernel_rfl) (fun _ _ _ h => h) hHeld (by rfl) ?_ ?_
                rotate_left
                · (intro w hSw; (try dsimp only at hSw); go_simp; try with_reducible rfl)
                try simp only [Act.put, List.setIfInBounds_toArray, List.set_cons_zero, List.set_cons_succ]
                refine heldTake (i := 14) (v := ?_) rfl (by kernel_rfl) (by kernel_rfl) (by kernel_rfl) (fun _ _ _ h => h) hHeld (by rfl) ?_ ?_
                rotate_left
                · (intro w hSw; (try dsimp only at hSw); go_simp; try with_reducible rfl)
                try simp only [Act.put, List.setIfInBounds_toArray, List.set_cons_zero, List.set_cons_succ]
                refine heldTake (i := 15) (v := ?_) rfl (by kernel_rfl) (by kernel_rfl) (by kernel_rfl) (fun _ _ _ h => h) hHeld (by rfl) ?_ ?_
                rotate_left
                · (intro w hSw; (try dsimp only at hSw); go_simp; try with_reducible rfl)
                try simp only [Act.put, List.setIfInBounds_toArray, List.set_cons_zero, List.set_cons_succ]
                refine heldTake (i := 17) (v := ?_) rfl (by kernel_rfl) (by kernel_rfl) (by kernel_rfl) (fun _ _ _ h => h) hHeld (by rfl) ?_ ?_
                rotate_left
                · (intro w hSw; (try dsimp only at hSw); go_simp; try with_reducible rfl)
                try simp only [Act.put, List.setIfInBounds_toArray, List.set_cons_zero, List.set_cons_succ]
                refine heldTake (i := 18) (v := ?_) rfl (by kernel_rfl) (by kernel_rfl) (by kernel_rfl) (fun _ _ _ h => h) hHeld (by rfl) ?_ ?_
                rotate_left
                · (intro w hSw; (try dsimp only at hSw); go_simp; try with_reducible rfl)
                try simp only [Act.put, List.setIfInBounds_toArray, List.set_cons_zero, List.set_cons_succ]
                refine heldTake (i := 20) (v := ?_) rfl (by kernel_rfl) (by kernel_rfl) (by kernel_rfl) (fun _ _ _ h => h) hHeld (by rfl) ?_ ?_
                rotate_left
                · (intro w hSw; (try dsimp only at hSw); go_simp; try with_reducible rfl)
                try simp only [Act.put, List.setIfInBounds_toArray, List.set_cons_zero, List.set_cons_succ]
                refine heldTake (i := 21) (v := ?_) rfl (by kernel_rfl) (by kernel_rfl) (by kernel_rfl) (fun _ _ _ h => h) hHeld (by rfl) ?_ ?_
                rotate_left
                · (intro w hSw; (try dsimp only at hSw); go_simp; try with_reducible rfl)
                try simp only [Act.put, List.setIfInBounds_toArray, List.set_cons_zero, List.set_cons_succ]
                refine heldTake (i := 22) (v := ?_) rfl (by kernel_rfl) (by kernel_rfl) (by kernel_rfl) (fun _ _ _ h => h) hHeld (by rfl) ?_ ?_
                rotate_left
                · (intro w hSw; (try dsimp only at hSw); go_simp; try with_reducible rfl)
                try simp only [Act.put, List.setIfInBounds_toArray, List.set_cons_zero, List.set_cons_succ]
                refine heldTake (i := 23) (v := ?_) rfl (by kernel_rfl) (by kernel_rfl) (by kernel_rfl) (fun _ _ _ h => h) hHeld (by rfl) ?_ ?_
                rotate_left
                · (intro w hSw; (try dsimp only at hSw); go_simp; try with_reducible rfl)
                try simp only [Act.put, List.setIfInBounds_toArray, List.set_cons_zero, List.set_cons_succ]
                refine heldTake (i := 24) (v := ?_) rfl (by kernel_rfl) (by kernel_rfl) (by kernel_rfl) (fun _ _ _ h => h) hHeld (by rfl) ?_ ?_
                rotate_left
                · (intro w hSw; (try dsimp only at hSw); go_simp; try with_reducible rfl)
                try simp only [Act.put, List.setIfInBounds_toArray, List.set_cons_zero, List.set_cons_succ]
                refine heldStep (i := 16) rfl (by kernel_rfl) (fun K hK => ?_)
                go_simp
                go_at_call 60
                refine (HU.out w4 Y1 J1 ⟨R, hG2.below hb4w⟩).mono ?_
                rintro e w5 ⟨rfl, hb5⟩
                have hb5w : Below w2.heap.size w2 w5 := hb4w.trans (hb5.mono hb4w.size)
                refine hK.out _ _ ((HS.out w5 hb5w).2.2.2.2.2.2) (fun hHeld => ?_)
                clear hK K
                try simp only [Act.put, List.setIfInBounds_toArray, List.set_cons_zero, List.set_cons_succ]
                refine heldTake (i := 19) (v := ?_) rfl (by kernel_rfl) (by kernel_rfl) (by kernel_rfl) (fun _ _ _ h => h) hHeld (by rfl) ?_ ?_
                rotate_left
                · (intro w hSw; (try dsimp only at hSw); go_simp; try with_reducible rfl)
                try simp only [Act.put, List.setIfInBounds_toArray, List.set_cons_zero, List.set_cons_succ]
                refine heldTake (i := 25) (v := ?_) rfl (by kernel_rfl) (by kernel_rfl) (by kernel_rfl) (fun _ _ _ h => h) hHeld (by rfl) ?_ ?_
                rotate_left
                · (intro w hSw; (try dsimp only at hSw); go_simp; try with_reducible rfl)
                try simp only [Act.put, List.setIfInBounds_toArray, List.set_cons_zero, List.set_cons_succ]
                refine heldTake (i := 26) (v := ?_) rfl (by kernel_rfl) (by kernel_rfl) (by kernel_rfl) (fun _ _ _ h => h) hHeld (by rfl) ?_ ?_
                rotate_left
                · (intro w hSw; (try dsimp only at hSw); go_simp; try with_reducible rfl)
                try simp only [Act.put, List.setIfInBounds_toArray, List.set_cons_zero, List.set_cons_succ]
                refine heldTake (i := 27) (v := ?_) rfl (by kernel_rfl) (by kernel_rfl) (by kernel_rfl) (fun _ _ _ h => h) hHeld (by rfl) ?_ ?_
                rotate_left
                · (intro w hSw; (try dsimp only at hSw); go_simp; try with_reducible rfl)
                try simp only [Act.put, List.setIfInBounds_toArray, List.set_cons_zero, List.set_cons_succ]
                refine wpAnyH_done (by kernel_rfl) ?_ _
                go_wp2
                have hs0 := HS.out w5.drew hb5w.drew
                have hLl : x.L.length ≤ 1048576 := by have h := Hnd2.out.2; rw [← Hxn.out] at h; simp only [NR.nd, List.length_map] at h; omega
                clear hHeld
                have hHeld : (fun W : World => W.cell? ⟨rb, 7, none⟩ = some (.slice (some ⟨g, 0, none⟩) nn c) ∧ W.cell? ⟨g, i * 2 + 1, none⟩ = some (.slice x.A2 x.L.length x.c2)) w5.drew := ⟨hs0.1, hs0.2.1⟩
                refine wp_region_U (S := fun W : World => W.cell? ⟨rb, 7, none⟩ = some (.slice (some ⟨g, 0, none⟩) nn c) ∧ W.cell? ⟨g, i * 2 + 1, none⟩ = some (.slice x.A2 x.L.length x.c2)) (ks := [3, 8, 10, 11, 12, 13, 15, 16, 17, 18]) (by kernel_rfl) ?_
                simp only [List.size_toArray, List.length_cons, List.length_nil, Nat.reduceAdd]
                refine uPure (i := 0) (v := ?_) rfl (by kernel_rfl) (by kernel_rfl) (by kernel_rfl) (by kernel_rfl) (fun _ _ _ h => h) (by rfl) ?_ ?_
                rotate_left
                · (intro w; go_simp; try with_reducible rfl)
                try simp only [Act.put, List.setIfInBounds_toArray, List.set_cons_zero, List.set_cons_succ]
                refine uPure (i := 1) (v := ?_) rfl (by kernel_rfl) (by kernel_rfl) (by kernel_rfl) (by kernel_rfl) (fun _ _ _ h => h) (by rfl) ?_ ?_
                rotate_left
                · (intro w; go_simp; try with_reducible rfl)
                try simp only [Act.put, List.setIfInBounds_toArray, List.set_cons_zero, List.set_cons_succ]
                refine uPure (i := 2) (v := ?_) rfl (by kernel_rfl) (by kernel_rfl) (by kernel_rfl) (by kernel_rfl) (fun _ _ _ h => h) (by rfl) ?_ ?_
                rotate_left
                · (intro w; go_simp; try with_reducible rfl)
                try simp only [Act.put, List.setIfInBounds_toArray, List.set_cons_zero, List.set_cons_succ]
                refine uPure (i := 4) (v := ?_) rfl (by kernel_rfl) (by kernel_rfl) (by kernel_rfl) (by kernel_rfl) (fun _ _ _ h => h) (by rfl) ?_ ?_
                rotate_left
                · (intro w; go_simp; try with_reducible rfl)
                try simp only [Act.put, List.setIfInBounds_toArray, List.set_cons_zero, List.set_cons_succ]
                refine uPure (i := 5) (v := ?_) rfl (by kernel_rfl) (by kernel_rfl) (by kernel_rfl) (by kernel_rfl) (fun _ _ _ h => h) (by rfl) ?_ ?_
                rotate_left
                · (intro w; go_simp; try with_reducible rfl)
                try simp only [Act.put, List.setIfInBounds_toArray, List.set_cons_zero, List.set_cons_succ]
                refine uPure (i := 6) (v := ?_) rfl (by kernel_rfl) (by kernel_rfl) (by kernel_rfl) (by kernel_rfl) (fun _ _ _ h => h) (by rfl) ?_ ?_
                rotate_left
                · (intro w; go_simp; try with_reducible rfl)
                try simp only [Act.put, List.setIfInBounds_toArray, List.set_cons_zero, List.set_cons_succ]
                refine uPure (i := 7) (v := ?_) rfl (by kernel_rfl) (by kernel_rfl) (by kernel_rfl) (by kernel_rfl) (fun _ _ _ h => h) (by rfl) ?_ ?_
                rotate_left
                · (intro w; go_simp; try with_reducible rfl)
                try simp only [Act.put, List.setIfInBounds_toArray, List.set_cons_zero, List.set_cons_succ]
                refine uPure (i := 9) (v := ?_) rfl (by kernel_rfl) (by kernel_rfl) (by kernel_rfl) (by kernel_rfl) (fun _ _ _ h => h) (by rfl) ?_ ?_
                rotate_left
                · (intro w; go_simp; try with_reducible rfl)
                try simp only [Act.put, List.setIfInBounds_toArray, List.set_cons_zero, List.set_cons_succ]
                refine uPure (i := 14) (v := ?_) rfl (by kernel_rfl) (by kernel_rfl) (by kernel_rfl) (by kernel_rfl) (fun _ _ _ h => h) (by rfl) ?_ ?_
                rotate_left
                · (intro w; go_simp; try with_reducible rfl)
                try simp only [Act.put, List.setIfInBounds_toArray, List.set_cons_zero, List.set_cons_succ]
                refine uTake (i := 3) (v := ?_) rfl (by kernel_rfl) (by kernel_rfl) (by kernel_rfl) (by kernel_rfl) (fun _ _ _ h => h) hHeld (by rfl) ?_ ?_
                rotate_left
                · (intro w hSw; (try dsimp only at hSw); go_simp; try with_reducible rfl)
                try simp only [Act.put, List.setIfInBounds_toArray, List.set_cons_zero, List.set_cons_succ]
                refine uTake (i := 8) (v := ?_) rfl (by kernel_rfl) (by kernel_rfl) (by kernel_rfl) (by kernel_rfl) (fun _ _ _ h => h) hHeld (by rfl) ?_ ?_
                rotate_left
                · (intro w hSw; (try dsimp only at hSw); go_simp; try with_reducible rfl)
                try simp only [Act.put, List.setIfInBounds_toArray, List.set_cons_zero, List.set_cons_succ]
                refine uTake (i := 10) (v := ?_) rfl (by kernel_rfl) (by kernel_rfl) (by kernel_rfl) (by kernel_rfl) (fun _ _ _ h => h) hHeld (by rfl) ?_ ?_
                rotate_left
                · (intro w hSw; (try dsimp only at hSw); go_simp; try with_reducible rfl)
                try simp only [Act.put, List.setIfInBounds_toArray, List.set_cons_zero, List.set_cons_succ]
                refine uTake (i := 11) (v := ?_) rfl (by kernel_rfl) (by kernel_rfl) (by kernel_rfl) (by kernel_rfl) (fun _ _ _ h => h) hHeld (by rfl) ?_ ?_
                rotate_left
                · (intro w hSw; (try dsimp only at hSw); go_simp; try with_reducible rfl)
                try simp only [Act.put, List.setIfInBounds_toArray, List.set_cons_zero, List.set_cons_succ]
                refine uTake (i := 12) (v := ?_) rfl (by kernel_rfl) (by kernel_rfl) (by kernel_rfl) (by kernel_rfl) (fun _ _ _ h => h) hHeld (by rfl) ?_ ?_
                rotate_left
                · (intro w hSw; (try dsimp only at hSw); go_simp; try with_reducible rfl)
                try simp only [Act.put, List.setIfInBounds_toArray, List.set_cons_zero, List.set_cons_succ]
                refine uStep (i := 13) rfl (by kernel_rfl) (fun K hK => ?_)
                refine at_app (.const (.slice none 0 0)) (.tmp 77) ?_
                refine stepK_sl rfl (.const (.slice none 0 0)) (.tmp 77) rfl slcg (by decide) rfl (OwnK.nil_ _ w5.drew.heap.size _ _) (Nat.le_refl _) rfl hs0.2.2.2.2.1 (fun u hu => by obtain ⟨y, _, hy⟩ := List.mem_flatMap.1 hu; exact CR.cs_one y u hy) (by omega) ?_
                intro v6 w6 ho6 hb6 hg6 hat6
                rw [Nat.zero_add, List.nil_append] at ho6
                have hb6w : Below w2.heap.size w2 w6 := (hb5w.drew).trans (hb6.mono hb5w.size)
                have hs6 := HS.out w6 hb6w
                have hHeldN : (fun W : World => W.cell? ⟨rb, 7, none⟩ = some (.slice (some ⟨g, 0, none⟩) nn c) ∧ W.cell? ⟨g, i * 2 + 1, none⟩ = some (.slice x.A2 x.L.length x.c2)) _ := ⟨hs6.1, hs6.2.1⟩
                refine hK.out _ _ (fun _ => hHeldN) ?_
                clear hK K hHeld
                have hHeld := hHeldN
                clear hHeldN
                try simp only [Act.put, List.setIfInBounds_toArray, List.set_cons_zero, List.set_cons_succ]
                refine uStep (i := 15) rfl (by kernel_rfl) (fun K hK => ?_)
                go_simp
                go_at_call 80
                refine (c_rTwin w6 (c := d) hs6.2.2.2.2.2.1 hbl).mono ?_
                rintro e w7 ⟨A7, c7, rfl, hc7, ho7, hb7⟩
                rw [← Hble.out] at hc7 ho7
                have hWb7 : Below w5.drew.heap.size w5.drew w7 := hb6.trans (hb7.mono hb6.size)
                have hb7w : Below w2.heap.size w2 w7 := (hb5w.drew).trans (hWb7.mono hb5w.size)
                have hs7 := HS.out w7 hb7w
                rw [← Hble.out]
                have hHeldN : (fun W : World => W.cell? ⟨rb, 7, none⟩ = some (.slice (some ⟨g, 0, none⟩) nn c) ∧ W.cell? ⟨g, i * 2 + 1, none⟩ = some (.slice x.A2 x.L.length x.c2)) _ := ⟨hs7.1, hs7.2.1⟩
                refine hK.out _ _ (fun _ => hHeldN) ?_
                clear hK K hHeld
                have hHeld := hHeldN
                clear hHeldN
                try simp only [Act.put, List.setIfInBounds_toArray, List.set_cons_zero, List.set_cons_succ]
                refine uTake (i := 16) (v := ?_) rfl (by kernel_rfl) (by kernel_rfl) (by kernel_rfl) (by kernel_rfl) (fun _ _ _ h => h) hHeld (by rfl) ?_ ?_
                rotate_left
                · (intro w hSw; (try dsimp only at hSw); go_simp; try with_reducible rfl)
                try simp only [Act.put, List.setIfInBounds_toArray, List.set_cons_zero, List.set_cons_succ]
                refine uStep (i := 17) rfl (by kernel_rfl) (fun K hK => ?_)
                go_simp
                have hO := World.ownsRow.alloc (OwnK.below ho6 hb7 (Nat.le_refl _)) (.cells #[.bool false, .int .i64 0, .slice A7 bl c7] 141)
                have hNb := Bk.new_ w7 141 #[.bool false, .int .i64 0, .slice A7 bl c7]
                have hWb := hWb7.alloc hWb7.size (.cells #[.bool false, .int .i64 0, .slice A7 bl c7] 141)
                have hs8 := HS.out _ ((hb5w.drew).trans (hWb.mono hb5w.size))
                have hHeldN : (fun W : World => W.cell? ⟨rb, 7, none⟩ = some (.slice (some ⟨g, 0, none⟩) nn c) ∧ W.cell? ⟨g, i * 2 + 1, none⟩ = some (.slice x.A2 x.L.length x.c2)) _ := ⟨hs8.1, hs8.2.1⟩
                refine hK.out _ _ (fun _ => hHeldN) ?_
                clear hK K hHeld
                have hHeld := hHeldN
                clear hHeldN
                try simp only [Act.put, List.setIfInBounds_toArray, List.set_cons_zero, List.set_cons_succ]
                refine uStep (i := 18) rfl (by kernel_rfl) (fun K hK => ?_)
                refine at_app (.tmp 78) (.tmp 82) ?_
                refine stepK_new rfl (.tmp 78) (.tmp 82) rfl slcg (by decide) rfl hO hWb.size rfl (news := [.bool false, .int .i64 0, .slice A7 bl c7]) rfl (fun j u hu => by rw [Nat.zero_add]; exact (hNb.cell j).trans (by simpa using hu)) (by intro u hu; simp only [List.mem_cons, List.not_mem_nil, or_false] at hu; rcases hu with rfl | rfl | rfl <;> rfl) (by omega) ?_
                intro v8 w8 ho8 hb8 hg8 hat8
                replace hg8 : World.grownBy _ w8 v6.ownBlock := hg8
                obtain ⟨A8, c8, rfl, hc8⟩ := ho8.shape
                have hWb8 : Below w5.drew.heap.size w5.drew w8 := hWb.trans hb8
                have hs9 := HS.out w8 ((hb5w.drew).trans (hWb8.mono hb5w.size))
                have z9 := hs9.2.2.1
                have hHeldN : (fun W : World => W.cell? ⟨rb, 7, none⟩ = some (.slice (some ⟨g, 0, none⟩) nn c) ∧ W.cell? ⟨g, i * 2 + 1, none⟩ = some (.slice x.A2 x.L.length x.c2)) _ := ⟨hs9.1, hs9.2.1⟩
                refine hK.out _ _ (fun _ => hHeldN) ?_
                clear hK K hHeld
                have hHeld := hHeldN
                clear hHeldN
                try simp only [Act.put, List.setIfInBounds_toArray, List.set_cons_zero, List.set_cons_succ]
                refine uPure (i := 19) (v := ?_) rfl (by kernel_rfl) (by kernel_rfl) (by kernel_rfl) (by kernel_rfl) (fun _ _ _ h => h) (by rfl) ?_ ?_
                rotate_left
                · (intro w; go_simp; try with_reducible rfl)
                try simp only [Act.put, List.setIfInBounds_toArray, List.set_cons_zero, List.set_cons_succ]
                refine uPure (i := 20) (v := ?_) rfl (by kernel_rfl) (by kernel_rfl) (by kernel_rfl) (by kernel_rfl) (fun _ _ _ h => h) (by rfl) ?_ ?_
                rotate_left
                · (intro w; go_simp; try with_reducible rfl)
                try simp only [Act.put, List.setIfInBounds_toArray, List.set_cons_zero, List.set_cons_succ]
                refine uStep (i := 21) rfl (by kernel_rfl) (fun K hK => ?_)
                go_simp
                refine hK.out _ _ (fun h => absurd h (by decide)) ?_
                clear hK K
                try simp only [Act.put, List.setIfInBounds_toArray, List.set_cons_zero, List.set_cons_succ]
                refine uDone (by kernel_rfl) ?_ _
                unfold Lec.Own at ho7
                rw [bcs_length, ← Hble.out] at ho7
                have hRA : RdP (fun q => w6.heap.size ≤ q ∧ q < w7.heap.size) w8 A7 bl (bcs bs) := (RdP.below (RdP.newB ho7) ((Below.refl w7.heap.size w7).alloc (Nat.le_refl _) (.cells #[.bool false, .int .i64 0, .slice A7 bl c7] 141))).kbP (KbP.of_grown (X := fun q => v6.ownBlock = some q) hg8 (fun g e => e)) (fun q hq e => by have := (World.ownsRow.lt ho6 q e).2; omega)
                have hF := RfG.addCh (y := ⟨.add bs, A7, c7⟩) (i := i) (B := w5.drew.heap.size) hs9.2.2.2.1 Hnv.out hil Hxe.out (by show OwnK w8 _ _ 3 _ _ (_ ++ [.bool false, .int .i64 0, .slice A7 bs.length c7]); rw [← Hble.out]; exact ho8) (fun q hq => Nat.lt_of_lt_of_le (hG2.lt q (.inl hq)) hb5w.size) (by
                  intro dd hdd
                  cases hdd
                  rw [← Hble.out]
                  exact ⟨hRA.more (fun q hq => .inr ⟨Nat.le_trans hb6.size hq.1, Nat.lt_of_lt_of_le hq.2 (by have := hWb8.size; have h1 := (KbP.of_grown (X := fun q => v6.ownBlock = some q) hg8 (fun g e => e)).size; simp at h1; omega)⟩), hc7⟩)
                have hgY : Y1 g := hG2.ynv g (by rw [Hnv.out]; rfl)
                have Hk := Lib.hid ((((KbP.of_below hb2 : KbP Y1 w1 w2).after hb5w.drew).after hWb8).setCell (p := ⟨g, i * 2 + 1, none⟩) (.inl hgY) (.slice A8 (x.L.length + 1) c8))
                have Hfin := Lib.hid (show RfG Y1 (JG J1 w5.drew.heap.size w8.heap.size) _ rb (setNd b.1 i ⟨(Fsy.ndAt b.1.nodes i).safe, (Fsy.ndAt b.1.nodes i).chg ++ [.add bs]⟩) _ from by rw [← Hxn.out]; exact hF)
                have Hlo := Lib.hid (show w1.heap.size ≤ w5.drew.heap.size from Nat.le_trans hb2.size hb5w.size)
                clear hF hHeld hRA ho7 ho8 hO
                go_wp2
                go_ret
                refine ⟨rfl, Y1, JG J1 w5.drew.heap.size w8.heap.size, ⟨_, Hfin.out⟩, hg1.trans ⟨fun b hb => .inl hb, ?_, Hk.out⟩⟩
                rintro b (hb | hb)
                · exact .inl hb
                · exact .inr (Nat.le_trans Hlo.out hb.1)
            · have dr : decide ((0 : Int) < rm) = false := by simpa using z1
              rw [decide_eq_false z1, Bool.false_and, if_neg (by decide)]
              go_enter Tryz.func47, Tryz.ntmps47
              go_wp2_with (first
                  | (go_at_call 81; refine HO.out.mono ?_; rintro e w1 ⟨rfl, Y1, J1, hP, hg1⟩; have hrB := HB.out w1 Y1 J1 hg1)
                  | (go_at_call 43; refine (HND.out w1 Y1 J1 hP).mono ?_; rintro e w2 ⟨rfl, hb2⟩
                     obtain ⟨R, hG2⟩ := hP.below hb2
                     obtain ⟨g, c, x, hnv, hnc, g0, g1, hxn, hxo, hxe⟩ := hG2.nodeAt hil
                     have q7 : w2.cell? ⟨rb, 7, none⟩ = some (.slice (some ⟨g, 0, none⟩) nn c) := by rw [Hnn.out, ← hnv]; exact hG2.bk.cell 7
                     have hnc2 : (nn : Int) ≤ (c : Int) := by have := Hnn.out; omega
                     have HD := Lib.hid (c_rData w2 hxo (by have h := Hnd2.out.1; rw [← hxn] at h; exact h) (by have h := Hnd2.out.2; rw [← hxn] at h; simp only [NR.nd, List.length_map] at h; omega))
                     have hds : x.nd.data.length = sz := by rw [hxn]; exact Hsz.out.symm
                     unfold TwB NR.cs at HD
                     rw [hds] at HD
                     have Hxn := Lib.hid hxn
                     have Hnv := Lib.hid hnv
                     have Hxe := Lib.hid hxe
                     clear hxn hnv hds hxe)
                  | (go_at_call 44; refine HD.out.mono ?_; rintro e w3 ⟨A3, c3, rfl, hc3, ho3, hb3⟩))
              have HS := Lib.hid (fun (W : World) (hb : Below w2.heap.size w2 W) => show W.cell? ⟨rb, 7, none⟩ = some (.slice (some ⟨g, 0, none⟩) nn c) ∧ W.cell? ⟨g, i * 2 + 1, none⟩ = some (.slice x.A2 x.L.length x.c2) ∧ W.frozen? ⟨g, i * 2 + 1, none⟩ = false ∧ RfG Y1 J1 W rb b.1 R ∧ RdK W W.heap.size 3 x.A2 x.L.length (x.L.flatMap CR.cs) ∧ Rd W W.heap.size B bl (bcs bs) ∧ W.cell? ⟨rb, 4, none⟩ = some (.int .i64 rm) from by
                have hgl : g < w2.heap.size := hG2.lt g (.inl (hG2.ynv g (by rw [Hnv.out]; rfl)))
                have h3 := hG2.below hb
                have hOw := h3.nodes
                rw [Hnv.out] at hOw
                exact ⟨by rw [Hnn.out, ← Hnv.out]; exact h3.bk.cell 7, (hb.cell (p := ⟨g, i * 2 + 1, none⟩) hgl).trans g1, World.ownsRow.frozenAt hOw (i * 2 + 1), h3, (hxo.below hb).ch.rd, (RdP.below (RdP.below hrB hb2) hb).rd, by rw [Hrm.out]; exact h3.bk.cell 4⟩)
              have hHeld : (fun W : World => W.cell? ⟨rb, 4, none⟩ = some (.int .i64 rm)) w3.drew := (HS.out w3.drew hb3.drew).2.2.2.2.2.2
              refine wp_region_held (S := fun W : World => W.cell? ⟨rb, 4, none⟩ = some (.int .i64 rm)) (by kernel_rfl) ?_
              simp only [List.size_toArray, List.length_cons, List.length_nil, Nat.reduceAdd]
              refine heldTake (i := 0) (v := ?_) rfl (by kernel_rfl) (by kernel_rfl) (by kernel_rfl) (fun _ _ _ h => h) hHeld (by rfl) ?_ ?_
              rotate_left
              · (intro w hSw; (try dsimp only at hSw); go_simp; try with_reducible rfl)
              try simp only [Act.put, List.setIfInBounds_toArray, List.set_cons_zero, List.set_cons_succ]
              refine heldStep (i := 1) rfl (by kernel_rfl) (fun K hK => ?_)
              go_simp
              go_at_call 83
              refine (HF.out w3.drew Y1 J1 ⟨R, hG2.below hb3.drew⟩).mono ?_
              rintro e w4 ⟨rfl, hb4⟩
              have hb4w : Below w2.heap.size w2 w4 := hb3.drew.trans (hb4.mono hb3.size)
              refine hK.out _ _ ((HS.out w4 hb4w).2.2.2.2.2.2) (fun hHeld => ?_)
              clear hK K
              try simp only [Act.put, List.setIfInBounds_toArray, List.set_cons_zero, List.set_cons_succ]
              refine heldTake (i := 2) (v := ?_) rfl (by kernel_rfl) (by kernel_rfl) (by kernel_rfl) (fun _ _ _ h => h) hHeld (by rfl) ?_ ?_
              rotate_left
              · (intro w hSw; (try dsimp only at hSw); go_simp; try with_reducible rfl)
              try simp only [Act.put, List.setIfInBounds_toArray, List.set_cons_zero, List.set_cons_succ]
              refine heldTake (i := 3) (v := ?_) rfl (by kernel_rfl) (by kernel_rfl) (by kernel_rfl) (fun _ _ _ h => h) hHeld (by rfl) ?_ ?_
              rotate_left
              · (intro w hSw; (try dsimp only at hSw); go_simp; try with_reducible rfl)
              try simp only [Act.put, List.setIfInBounds_toArray, List.set_cons_zero, List.set_cons_succ]
              refine heldTake (i := 4) (v := ?_) rfl (by kernel_rfl) (by kernel_rfl) (by kernel_rfl) (fun _ _ _ h => h) hHeld (by rfl) ?_ ?_
              rotate_left
              · (intro w hSw; (try dsimp only at hSw); go_simp; try with_reducible rfl)
              try simp only [Act.put, List.setIfInBounds_toArray, List.set_cons_zero, List.set_cons_succ]
              refine heldTake (i := 5) (v := ?_) rfl (by kernel_rfl) (by kernel_rfl) (by kernel_rfl) (fun _ _ _ h => h) hHeld (by rfl) ?_ ?_
              rotate_left
              · (intro w hSw; (try dsimp only at hSw); go_simp; try with_reducible rfl)
              try simp only [Act.put, List.setIfInBounds_toArray, List.set_cons_zero, List.set_cons_succ]
              refine heldTake (i := 6) (v := ?_) rfl (by kernel_rfl) (by kernel_rfl) (by kernel_rfl) (fun _ _ _ h => h) hHeld (by rfl) ?_ ?_
              rotate_left
              · (intro w hSw; (try dsimp only at hSw); go_simp; try with_reducible rfl)
              try simp only [Act.put, List.setIfInBounds_toArray, List.set_cons_zero, List.set_cons_succ]
              refine heldTake (i := 7) (v := ?_) rfl (by kernel_rfl) (by kernel_rfl) (by kernel_rfl) (fun _ _ _ h => h) hHeld (by rfl) ?_ ?_
              rotate_left
              · (intro w hSw; (try dsimp only at hSw); go_simp; try with_reducible rfl)
              try simp only [Act.put, List.setIfInBounds_toArray, List.set_cons_zero, List.set_cons_succ]
              refine heldTake (i := 8) (v := ?_) rfl (by kernel_rfl) (by kernel_rfl) (by kernel_rfl) (fun _ _ _ h => h) hHeld (by rfl) ?_ ?_
              rotate_left
              · (intro w hSw; (try dsimp only at hSw); go_simp; try with_reducible rfl)
              try simp only [Act.put, List.setIfInBounds_toArray, List.set_cons_zero, List.set_cons_succ]
              refine heldTake (i := 9) (v := ?_) rfl (by kernel_rfl) (by kernel_rfl) (by kernel_rfl) (fun _ _ _ h => h) hHeld (by rfl) ?_ ?_
              rotate_left
              · (intro w hSw; (try dsimp only at hSw); go_simp; try with_reducible rfl)
              try simp only [Act.put, List.setIfInBounds_toArray, List.set_cons_zero, List.set_cons_succ]
              refine heldTake (i := 10) (v := ?_) rfl (by kernel_rfl) (by kernel_rfl) (by kernel_rfl) (fun _ _ _ h => h) hHeld (by rfl) ?_ ?_
              rotate_left
              · (intro w hSw; (try dsimp only at hSw); go_simp; try with_reducible rfl)
              try simp only [Act.put, List.setIfInBounds_toArray, List.set_cons_zero, List.set_cons_succ]
              refine heldTake (i := 11) (v := ?_) rfl (by kernel_rfl) (by kernel_rfl) (by kernel_rfl) (fun _ _ _ h => h) hHeld (by rfl) ?_ ?_
              rotate_left
              · (intro w hSw; (try dsimp only at hSw); go_simp; try with_reducible rfl)
              try simp only [Act.put, List.setIfInBounds_toArray, List.set_cons_zero, List.set_cons_succ]
              refine heldTake (i := 12) (v := ?_) rfl (by kernel_rfl) (by kernel_rfl) (by kernel_rfl) (fun _ _ _ h => h) hHeld (by rfl) ?_ ?_
              rotate_left
              · (intro w hSw; (try dsimp only at hSw); go_simp; try with_reducible rfl)
              try simp only [Act.put, List.setIfInBounds_toArray, List.set_cons_zero, List.set_cons_succ]
              refine heldTake (i := 13) (v := ?_) rfl (by kernel_rfl) (by kernel_rfl) (by kernel_rfl) (fun _ _ _ h => h) hHeld (by rfl) ?_ ?_
              rotate_left
              · (intro w hSw; (try dsimp only at hSw); go_simp; try with_reducible rfl)
              try simp only [Act.put, List.setIfInBounds_toArray, List.set_cons_zero, List.set_cons_succ]
              refine heldTake (i := 14) (v := ?_) rfl (by kernel_rfl) (by kernel_rfl) (by kernel_rfl) (fun _ _ _ h => h) hHeld (by rfl) ?_ ?_
              rotate_left
              · (intro w hSw; (try dsimp only at hSw); go_simp; try with_reducible rfl)
              try simp only [Act.put, List.setIfInBounds_toArray, List.set_cons_zero, List.set_cons_succ]
              refine heldPass (i := 15) rfl (by kernel_rfl) (by kernel_rfl) (by kernel_rfl) (fun _ _ _ h => h) hHeld (by rfl) ?_
              try simp only [Act.put, List.setIfInBounds_toArray, List.set_cons_zero, List.set_cons_succ]
              refine heldPass (i := 16) rfl (by kernel_rfl) (by kernel_rfl) (by kernel_rfl) (fun _ _ _ h => h) hHeld (by rfl) ?_
              try simp only [Act.put, List.setIfInBounds_toArray, List.set_cons_zero, List.set_cons_succ]
              refine heldPass (i := 17) rfl (by kernel_rfl) (by kernel_rfl) (by kernel_rfl) (fun _ _ _ h => h) hHeld (by rfl) ?_
              try simp only [Act.put, List.setIfInBounds_toArray, List.set_cons_zero, List.set_cons_succ]
              refine heldPass (i := 18) rfl (by kernel_rfl) (by kernel_rfl) (by kernel_rfl) (fun _ _ _ h => h) hHeld (by rfl) ?_
              try simp only [Act.put, List.setIfInBounds_toArray, List.set_cons_zero, List.set_cons_succ]
              refine heldPass (i := 19) rfl (by kernel_rfl) (by kernel_rfl) (by kernel_rfl) (fun _ _ _ h => h) hHeld (by rfl) ?_
              try simp only [Act.put, List.setIfInBounds_toArray, List.set_cons_zero, List.set_cons_succ]
              refine heldPass (i := 20) rfl (by kernel_rfl) (by kernel_rfl) (by kernel_rfl) (fun _ _ _ h => h) hHeld (by rfl) ?_
              try simp only [Act.put, List.setIfInBounds_toArray, List.set_cons_zero, List.set_cons_succ]
              refine heldPass (i := 21) rfl (by kernel_rfl) (by kernel_rfl) (by kernel_rfl) (fun _ _ _ h => h) hHeld (by rfl) ?_
              try simp only [Act.put, List.setIfInBounds_toArray, List.set_cons_zero, List.set_cons_succ]
              refine heldPass (i := 22) rfl (by kernel_rfl) (by kernel_rfl) (by kernel_rfl) (fun _ _ _ h => h) hHeld (by rfl) ?_
              try simp only [Act.put, List.setIfInBounds_toArray, List.set_cons_zero, List.set_cons_succ]
              refine heldPass (i := 23) rfl (by kernel_rfl) (by kernel_rfl) (by kernel_rfl) (fun _ _ _ h => h) hHeld (by rfl) ?_
              try simp only [Act.put, List.setIfInBounds_toArray, List.set_cons_zero, List.set_cons_succ]
              refine heldPass (i := 24) rfl (by kernel_rfl) (by kernel_rfl) (by kernel_rfl) (fun _ _ _ h => h) hHeld (by rfl) ?_
              try simp only [Act.put, List.setIfInBounds_toArray, List.set_cons_zero, List.set_cons_succ]
              refine heldPass (i := 25) rfl (by kernel_rfl) (by kernel_rfl) (by kernel_rfl) (fun _ _ _ h => h) hHeld (by rfl) ?_
              try simp only [Act.put, List.setIfInBounds_toArray, List.set_cons_zero, List.set_cons_succ]
              refine heldTake (i := 26) (v := ?_) rfl (by kernel_rfl) (by kernel_rfl) (by kernel_rfl) (fun _ _ _ h => h) hHeld (by rfl) ?_ ?_
              rotate_left
              · (intro w hSw; (try dsimp only at hSw); go_simp; try with_reducible rfl)
              try simp only [Act.put, List.setIfInBounds_toArray, List.set_cons_zero, List.set_cons_succ]
              refine heldTake (i := 27) (v := ?_) rfl (by kernel_rfl) (by kernel_rfl) (by kernel_rfl) (fun _ _ _ h => h) hHeld (by rfl) ?_ ?_
              rotate_left
              · (intro w hSw; (try dsimp only at hSw); go_simp; try with_reducible rfl)
              try simp only [Act.put, List.setIfInBounds_toArray, List.set_cons_zero, List.set_cons_succ]
              refine wpAnyH_done (by kernel_rfl) ?_ _
              go_wp2
              have hs0 := HS.out w4.drew hb4w.drew
              have hLl : x.L.length ≤ 1048576 := by have h := Hnd2.out.2; rw [← Hxn.out] at h; simp only [NR.nd, List.length_map] at h; omega
              clear hHeld
              have hHeld : (fun W : World => W.cell? ⟨rb, 7, none⟩ = some (.slice (some ⟨g, 0, none⟩) nn c) ∧ W.cell? ⟨g, i * 2 + 1, none⟩ = some (.slice x.A2 x.L.length x.c2)) w4.drew := ⟨hs0.1, hs0.2.1⟩
              refine wp_region_U (S := fun W : World => W.cell? ⟨rb, 7, none⟩ = some (.slice (some ⟨g, 0, none⟩) nn c) ∧ W.cell? ⟨g, i * 2 + 1, none⟩ = some (.slice x.A2 x.L.length x.c2)) (ks := [3, 8, 10, 11, 12, 13, 15, 16, 17, 18]) (by kernel_rfl) ?_
              simp only [List.size_toArray, List.length_cons, List.length_nil, Nat.reduceAdd]
              refine uPure (i := 0) (v := ?_) rfl (by kernel_rfl) (by kernel_rfl) (by kernel_rfl) (by kernel_rfl) (fun _ _ _ h => h) (by rfl) ?_ ?_
              rotate_left
              · (intro w; go_simp; try with_reducible rfl)
              try simp only [Act.put, List.setIfInBounds_toArray, List.set_cons_zero, List.set_cons_succ]
              refine uPure (i := 1) (v := ?_) rfl (by kernel_rfl) (by kernel_rfl) (by kernel_rfl) (by kernel_rfl) (fun _ _ _ h => h) (by rfl) ?_ ?_
              rotate_left
              · (intro w; go_simp; try with_reducible rfl)
              try simp only [Act.put, List.setIfInBounds_toArray, List.set_cons_zero, List.set_cons_succ]
              refine uPure (i := 2) (v := ?_) rfl (by kernel_rfl) (by kernel_rfl) (by kernel_rfl) (by kernel_rfl) (fun _ _ _ h => h) (by rfl) ?_ ?_
              rotate_left
              · (intro w; go_simp; try with_reducible rfl)
              try simp only [Act.put, List.setIfInBounds_toArray, List.set_cons_zero, List.set_cons_succ]
              refine uPure (i := 4) (v := ?_) rfl (by kernel_rfl) (by kernel_rfl) (by kernel_rfl) (by kernel_rfl) (fun _ _ _ h => h) (by rfl) ?_ ?_
              rotate_left
              · (intro w; go_simp; try with_reducible rfl)
              try simp only [Act.put, List.setIfInBounds_toArray, List.set_cons_zero, List.set_cons_succ]
              refine uPure (i := 5) (v := ?_) rfl (by kernel_rfl) (by kernel_rfl) (by kernel_rfl) (by kernel_rfl) (fun _ _ _ h => h) (by rfl) ?_ ?_
              rotate_left
              · (intro w; go_simp; try with_reducible rfl)
              try simp only [Act.put, List.setIfInBounds_toArray, List.set_cons_zero, List.set_cons_succ]
              refine uPure (i := 6) (v := ?_) rfl (by kernel_rfl) (by kernel_rfl) (by kernel_rfl) (by kernel_rfl) (fun _ _ _ h => h) (by rfl) ?_ ?_
              rotate_left
              · (intro w; go_simp; try with_reducible rfl)
              try simp only [Act.put, List.setIfInBounds_toArray, List.set_cons_zero, List.set_cons_succ]
              refine uPure (i := 7) (v := ?_) rfl (by kernel_rfl) (by kernel_rfl) (by kernel_rfl) (by kernel_rfl) (fun _ _ _ h => h) (by rfl) ?_ ?_
              rotate_left
              · (intro w; go_simp; try with_reducible rfl)
              try simp only [Act.put, List.setIfInBounds_toArray, List.set_cons_zero, List.set_cons_succ]
              refine uPure (i := 9) (v := ?_) rfl (by kernel_rfl) (by kernel_rfl) (by kernel_rfl) (by kernel_rfl) (fun _ _ _ h => h) (by rfl) ?_ ?_
              rotate_left
              · (intro w; go_simp; try with_reducible rfl)
              try simp only [Act.put, List.setIfInBounds_toArray, List.set_cons_zero, List.set_cons_succ]
              refine uPure (i := 14) (v := ?_) rfl (by kernel_rfl) (by kernel_rfl) (by kernel_rfl) (by kernel_rfl) (fun _ _ _ h => h) (by rfl) ?_ ?_
              rotate_left
              · (intro w; go_simp; try with_reducible rfl)
              try simp only [Act.put, List.setIfInBounds_toArray, List.set_cons_zero, List.set_cons_succ]
              refine uTake (i := 3) (v := ?_) rfl (by kernel_rfl) (by kernel_rfl) (by kernel_rfl) (by kernel_rfl) (fun _ _ _ h => h) hHeld (by rfl) ?_ ?_
              rotate_left
              · (intro w hSw; (try dsimp only at hSw); go_simp; try with_reducible rfl)
              try simp only [Act.put, List.setIfInBounds_toArray, List.set_cons_zero, List.set_cons_succ]
              refine uTake (i := 8) (v := ?_) rfl (by kernel_rfl) (by kernel_rfl) (by kernel_rfl) (by kernel_rfl) (fun _ _ _ h => h) hHeld (by rfl) ?_ ?_
              rotate_left
              · (intro w hSw; (try dsimp only at hSw); go_simp; try with_reducible rfl)
              try simp only [Act.put, List.setIfInBounds_toArray, List.set_cons_zero, List.set_cons_succ]
              refine uTake (i := 10) (v := ?_) rfl (by kernel_rfl) (by kernel_rfl) (by kernel_rfl) (by kernel_rfl) (fun _ _ _ h => h) hHeld (by rfl) ?_ ?_
              rotate_left
              · (intro w hSw; (try dsimp only at hSw); go_simp; try with_reducible rfl)
              try simp only [Act.put, List.setIfInBounds_toArray, List.set_cons_zero, List.set_cons_succ]
              refine uTake (i := 11) (v := ?_) rfl (by kernel_rfl) (by kernel_rfl) (by kernel_rfl) (by kernel_rfl) (fun _ _ _ h => h) hHeld (by rfl) ?_ ?_
              rotate_left
              · (intro w hSw; (try dsimp only at hSw); go_simp; try with_reducible rfl)
              try simp only [Act.put, List.setIfInBounds_toArray, List.set_cons_zero, List.set_cons_succ]
              refine uTake (i := 12) (v := ?_) rfl (by kernel_rfl) (by kernel_rfl) (by kernel_rfl) (by kernel_rfl) (fun _ _ _ h => h) hHeld (by rfl) ?_ ?_
              rotate_left
              · (intro w hSw; (try dsimp only at hSw); go_simp; try with_reducible rfl)
              try simp only [Act.put, List.setIfInBounds_toArray, List.set_cons_zero, List.set_cons_succ]
              refine uStep (i := 13) rfl (by kernel_rfl) (fun K hK => ?_)
              refine at_app (.const (.slice none 0 0)) (.tmp 77) ?_
              refine stepK_sl rfl (.const (.slice none 0 0)) (.tmp 77) rfl slcg (by decide) rfl (OwnK.nil_ _ w4.drew.heap.size _ _) (Nat.le_refl _) rfl hs0.2.2.2.2.1 (fun u hu => by obtain ⟨y, _, hy⟩ := List.mem_flatMap.1 hu; exact CR.cs_one y u hy) (by omega) ?_
              intro v6 w6 ho6 hb6 hg6 hat6
              rw [Nat.zero_add, List.nil_append] at ho6
              have hb6w : Below w2.heap.size w2 w6 := (hb4w.drew).trans (hb6.mono hb4w.size)
              have hs6 := HS.out w6 hb6w
              have hHeldN : (fun W : World => W.cell? ⟨rb, 7, none⟩ = some (.slice (some ⟨g, 0, none⟩) nn c) ∧ W.cell? ⟨g, i * 2 + 1, none⟩ = some (.slice x.A2 x.L.length x.c2)) _ := ⟨hs6.1, hs6.2.1⟩
              refine hK.out _ _ (fun _ => hHeldN) ?_
              clear hK K hHeld
              have hHeld := hHeldN
              clear hHeldN
              try simp only [Act.put, List.setIfInBounds_toArray, List.set_cons_zero, List.set_cons_succ]
              refine uStep (i := 15) rfl (by kernel_rfl) (fun K hK => ?_)
              go_simp
              go_at_call 80
              refine (c_rTwin w6 (c := d) hs6.2.2.2.2.2.1 hbl).mono ?_
              rintro e w7 ⟨A7, c7, rfl, hc7, ho7, hb7⟩
              rw [← Hble.out] at hc7 ho7
              have hWb7 : Below w4.drew.heap.size w4.drew w7 := hb6.trans (hb7.mono hb6.size)
              have hb7w : Below w2.heap.size w2 w7 := (hb4w.drew).trans (hWb7.mono hb4w.size)
              have hs7 := HS.out w7 hb7w
              rw [← Hble.out]
              have hHeldN : (fun W : World => W.cell? ⟨rb, 7, none⟩ = some (.slice (some ⟨g, 0, none⟩) nn c) ∧ W.cell? ⟨g, i * 2 + 1, none⟩ = some (.slice x.A2 x.L.length x.c2)) _ := ⟨hs7.1, hs7.2.1⟩
              refine hK.out _ _ (fun _ => hHeldN) ?_
              clear hK K hHeld
              have hHeld := hHeldN
              clear hHeldN
              try simp only [Act.put, List.setIfInBounds_toArray, List.set_cons_zero, List.set_cons_succ]
              refine uTake (i := 16) (v := ?_) rfl (by kernel_rfl) (by kernel_rfl) (by kernel_rfl) (by kernel_rfl) (fun _ _ _ h => h) hHeld (by rfl) ?_ ?_
              rotate_left
              · (intro w hSw; (try dsimp only at hSw); go_simp; try with_reducible rfl)
              try simp only [Act.put, List.setIfInBounds_toArray, List.set_cons_zero, List.set_cons_succ]
              refine uStep (i := 17) rfl (by kernel_rfl) (fun K hK => ?_)
              go_simp
              have hO := World.ownsRow.alloc (OwnK.below ho6 hb7 (Nat.le_refl _)) (.cells #[.bool false, .int .i64 0, .slice A7 bl c7] 141)
              have hNb := Bk.new_ w7 141 #[.bool false, .int .i64 0, .slice A7 bl c7]
              have hWb := hWb7.alloc hWb7.size (.cells #[.bool false, .int .i64 0, .slice A7 bl c7] 141)
              have hs8 := HS.out _ ((hb4w.drew).trans (hWb.mono hb4w.size))
              have hHeldN : (fun W : World => W.cell? ⟨rb, 7, none⟩ = some (.slice (some ⟨g, 0, none⟩) nn c) ∧ W.cell? ⟨g, i * 2 + 1, none⟩ = some (.slice x.A2 x.L.length x.c2)) _ := ⟨hs8.1, hs8.2.1⟩
              refine hK.out _ _ (fun _ => hHeldN) ?_
              clear hK K hHeld
              have hHeld := hHeldN
              clear hHeldN
              try simp only [Act.put, List.setIfInBounds_toArray, List.set_cons_zero, List.set_cons_succ]
              refine uStep (i := 18) rfl (by kernel_rfl) (fun K hK => ?_)
              refine at_app (.tmp 78) (.tmp 82) ?_
              refine stepK_new rfl (.tmp 78) (.tmp 82) rfl slcg (by decide) rfl hO hWb.size rfl (news := [.bool false, .int .i64 0, .slice A7 bl c7]) rfl (fun j u hu => by rw [Nat.zero_add]; exact (hNb.cell j).trans (by simpa using hu)) (by intro u hu; simp only [List.mem_cons, List.not_mem_nil, or_false] at hu; rcases hu with rfl | rfl | rfl <;> rfl) (by omega) ?_
              intro v8 w8 ho8 hb8 hg8 hat8
              replace hg8 : World.grownBy _ w8 v6.ownBlock := hg8
              obtain ⟨A8, c8, rfl, hc8⟩ := ho8.shape
              have hWb8 : Below w4.drew.heap.size w4.drew w8 := hWb.trans hb8
              have hs9 := HS.out w8 ((hb4w.drew).trans (hWb8.mono hb4w.size))
              have z9 := hs9.2.2.1
              have hHeldN : (fun W : World => W.cell? ⟨rb, 7, none⟩ = some (.slice (some ⟨g, 0, none⟩) nn c) ∧ W.cell? ⟨g, i * 2 + 1, none⟩ = some (.slice x.A2 x.L.length x.c2)) _ := ⟨hs9.1, hs9.2.1⟩
              refine hK.out _ _ (fun _ => hHeldN) ?_
              clear hK K hHeld
              have hHeld := hHeldN
              clear hHeldN
              try simp only [Act.put, List.setIfInBounds_toArray, List.set_cons_zero, List.set_cons_succ]
              refine uPure (i := 19) (v := ?_) rfl (by kernel_rfl) (by kernel_rfl) (by kernel_rfl) (by kernel_rfl) (fun _ _ _ h => h) (by rfl) ?_ ?_
              rotate_left
              · (intro w; go_simp; try with_reducible rfl)
              try simp only [Act.put, List.setIfInBounds_toArray, List.set_cons_zero, List.set_cons_succ]
              refine uPure (i := 20) (v := ?_) rfl (by kernel_rfl) (by kernel_rfl) (by kernel_rfl) (by kernel_rfl) (fun _ _ _ h => h) (by rfl) ?_ ?_
              rotate_left
              · (intro w; go_simp; try with_reducible rfl)
              try simp only [Act.put, List.setIfInBounds_toArray, List.set_cons_zero, List.set_cons_succ]
              refine uStep (i := 21) rfl (by kernel_rfl) (fun K hK => ?_)
              go_simp
              refine hK.out _ _ (fun h => absurd h (by decide)) ?_
              clear hK K
              try simp only [Act.put, List.setIfInBounds_toArray, List.set_cons_zero, List.set_cons_succ]
              refine uDone (by kernel_rfl) ?_ _
              unfold Lec.Own at ho7
              rw [bcs_length, ← Hble.out] at ho7
              have hRA : RdP (fun q => w6.heap.size ≤ q ∧ q < w7.heap.size) w8 A7 bl (bcs bs) := (RdP.below (RdP.newB ho7) ((Below.refl w7.heap.size w7).alloc (Nat.le_refl _) (.cells #[.bool false, .int .i64 0, .slice A7 bl c7] 141))).kbP (KbP.of_grown (X := fun q => v6.ownBlock = some q) hg8 (fun g e => e)) (fun q hq e => by have := (World.ownsRow.lt ho6 q e).2; omega)
              have hF := RfG.addCh (y := ⟨.add bs, A7, c7⟩) (i := i) (B := w4.drew.heap.size) hs9.2.2.2.1 Hnv.out hil Hxe.out (by show OwnK w8 _ _ 3 _ _ (_ ++ [.bool false, .int .i64 0, .slice A7 bs.length c7]); rw [← Hble.out]; exact ho8) (fun q hq => Nat.lt_of_lt_of_le (hG2.lt q (.inl hq)) hb4w.size) (by
                intro dd hdd
                cases hdd
                rw [← Hble.out]
                exact ⟨hRA.more (fun q hq => .inr ⟨Nat.le_trans hb6.size hq.1, Nat.lt_of_lt_of_le hq.2 (by have := hWb8.size; have h1 := (KbP.of_grown (X := fun q => v6.ownBlock = some q) hg8 (fun g e => e)).size; simp at h1; omega)⟩), hc7⟩)
              have hgY : Y1 g := hG2.ynv g (by rw [Hnv.out]; rfl)
              have Hk := Lib.hid ((((KbP.of_below hb2 : KbP Y1 w1 w2).after hb4w.drew).after hWb8).setCell (p := ⟨g, i * 2 + 1, none⟩) (.inl hgY) (.slice A8 (x.L.length + 1) c8))
              have Hfin := Lib.hid (show RfG Y1 (JG J1 w4.drew.heap.size w8.heap.size) _ rb (setNd b.1 i ⟨(Fsy.ndAt b.1.nodes i).safe, (Fsy.ndAt b.1.nodes i).chg ++ [.add bs]⟩) _ from by rw [← Hxn.out]; exact hF)
              have Hlo := Lib.hid (show w1.heap.size ≤ w4.drew.heap.size from Nat.le_trans hb2.size hb4w.size)
              clear hF hHeld hRA ho7 ho8 hO
              go_wp2
              go_ret
              refine ⟨rfl, Y1, JG J1 w4.drew.heap.size w8.heap.size, ⟨_, Hfin.out⟩, hg1.trans ⟨fun b hb => .inl hb, ?_, Hk.out⟩⟩
              rintro b (hb | hb)
              · exact .inl hb
              · exact .inr (Nat.le_trans Hlo.out hb.1)
          · have dz : decide ((0 : Int) < (bl : Int)) = false := by simpa using z0
            rw [decide_eq_false z0, Bool.false_and, Bool.and_false, if_neg (by decide), if_pos (show bl = 0 by omega)]
            go_enter Tryz.func47, Tryz.ntmps47
            go_wp2_with (first
                | (go_at_call 81; refine HO.out.mono ?_; rintro e w1 ⟨rfl, Y1, J1, hP, hg1⟩; have hrB := HB.out w1 Y1 J1 hg1)
                | (go_at_call 43; refine (HND.out w1 Y1 J1 hP).mono ?_; rintro e w2 ⟨rfl, hb2⟩
                   obtain ⟨R, hG2⟩ := hP.below hb2
                   obtain ⟨g, c, x, hnv, hnc, g0, g1, hxn, hxo, hxe⟩ := hG2.nodeAt hil
                   have q7 : w2.cell? ⟨rb, 7, none⟩ = some (.slice (some ⟨g, 0, none⟩) nn c) := by rw [Hnn.out, ← hnv]; exact hG2.bk.cell 7
                   have hnc2 : (nn : Int) ≤ (c : Int) := by have := Hnn.out; omega
                   have HD := Lib.hid (c_rData w2 hxo (by have h := Hnd2.out.1; rw [← hxn] at h; exact h) (by have h := Hnd2.out.2; rw [← hxn] at h; simp only [NR.nd, List.length_map] at h; omega))
                   have hds : x.nd.data.length = sz := by rw [hxn]; exact Hsz.out.symm
                   unfold TwB NR.cs at HD
                   rw [hds] at HD
                   have Hxn := Lib.hid hxn
                   have Hnv := Lib.hid hnv
                   have Hxe := Lib.hid hxe
                   clear hxn hnv hds hxe)
                | (go_at_call 44; refine HD.out.mono ?_; rintro e w3 ⟨A3, c3, rfl, hc3, ho3, hb3⟩))
            have HS := Lib.hid (fun (W : World) (hb : Below w2.heap.size w2 W) => show W.cell? ⟨rb, 7, none⟩ = some (.slice (some ⟨g, 0, none⟩) nn c) ∧ W.cell? ⟨g, i * 2 + 1, none⟩ = some (.slice x.A2 x.L.length x.c2) ∧ W.frozen? ⟨g, i * 2 + 1, none⟩ = false ∧ RfG Y1 J1 W rb b.1 R ∧ RdK W W.heap.size 3 x.A2 x.L.length (x.L.flatMap CR.cs) ∧ Rd W W.heap.size B bl (bcs bs) ∧ W.cell? ⟨rb, 4, none⟩ = some (.int .i64 rm) from by
              have hgl : g < w2.heap.size := hG2.lt g (.inl (hG2.ynv g (by rw [Hnv.out]; rfl)))
              have h3 := hG2.below hb
              have hOw := h3.nodes
              rw [Hnv.out] at hOw
              exact ⟨by rw [Hnn.out, ← Hnv.out]; exact h3.bk.cell 7, (hb.cell (p := ⟨g, i * 2 + 1, none⟩) hgl).trans g1, World.ownsRow.frozenAt hOw (i * 2 + 1), h3, (hxo.below hb).ch.rd, (RdP.below (RdP.below hrB hb2) hb).rd, by rw [Hrm.out]; exact h3.bk.cell 4⟩)
            have hHeld : (fun W : World => W.cell? ⟨rb, 4, none⟩ = some (.int .i64 rm)) w3.drew := (HS.out w3.drew hb3.drew).2.2.2.2.2.2
            refine wp_region_held (S := fun W : World => W.cell? ⟨rb, 4, none⟩ = some (.int .i64 rm)) (by kernel_rfl) ?_
            simp only [List.size_toArray, List.length_cons, List.length_nil, Nat.reduceAdd]
            refine heldTake (i := 0) (v := ?_) rfl (by kernel_rfl) (by kernel_rfl) (by kernel_rfl) (fun _ _ _ h => h) hHeld (by rfl) ?_ ?_
            rotate_left
            · (intro w hSw; (try dsimp only at hSw); go_simp; try with_reducible rfl)
            try simp only [Act.put, List.setIfInBounds_toArray, List.set_cons_zero, List.set_cons_succ]
            refine heldStep (i := 1) rfl (by kernel_rfl) (fun K hK => ?_)
            go_simp
            go_at_call 83
            refine (HF.out w3.drew Y1 J1 ⟨R, hG2.below hb3.drew⟩).mono ?_
            rintro e w4 ⟨rfl, hb4⟩
            have hb4w : Below w2.heap.size w2 w4 := hb3.drew.trans (hb4.mono hb3.size)
            refine hK.out _ _ ((HS.out w4 hb4w).2.2.2.2.2.2) (fun hHeld => ?_)
            clear hK K
            try simp only [Act.put, List.setIfInBounds_toArray, List.set_cons_zero, List.set_cons_succ]
            refine heldTake (i := 2) (v := ?_) rfl (by kernel_rfl) (by kernel_rfl) (by kernel_rfl) (fun _ _ _ h => h) hHeld (by rfl) ?_ ?_
            rotate_left
            · (intro w hSw; (try dsimp only at hSw); go_simp; try with_reducible rfl)
            try simp only [Act.put, List.setIfInBounds_toArray, List.set_cons_zero, List.set_cons_succ]
            refine heldTake (i := 3) (v := ?_) rfl (by kernel_rfl) (by kernel_rfl) (by kernel_rfl) (fun _ _ _ h => h) hHeld (by rfl) ?_ ?_
            rotate_left
            · (intro w hSw; (try dsimp only at hSw); go_simp; try with_reducible rfl)
            try simp only [Act.put, List.setIfInBounds_toArray, List.set_cons_zero, List.set_cons_succ]
            refine heldTake (i := 4) (v := ?_) rfl (by kernel_rfl) (by kernel_rfl) (by kernel_rfl) (fun _ _ _ h => h) hHeld (by rfl) ?_ ?_
            rotate_left
            · (intro w hSw; (try dsimp only at hSw); go_simp; try with_reducible rfl)
            try simp only [Act.put, List.setIfInBounds_toArray, List.set_cons_zero, List.set_cons_succ]
            refine heldTake (i := 5) (v := ?_) rfl (by kernel_rfl) (by kernel_rfl) (by kernel_rfl) (fun _ _ _ h => h) hHeld (by rfl) ?_ ?_
            rotate_left
            · (intro w hSw; (try dsimp only at hSw); go_simp; try with_reducible rfl)
            try simp only [Act.put, List.setIfInBounds_toArray, List.set_cons_zero, List.set_cons_succ]
            refine heldTake (i := 6) (v := ?_) rfl (by kernel_rfl) (by kernel_rfl) (by kernel_rfl) (fun _ _ _ h => h) hHeld (by rfl) ?_ ?_
            rotate_left
            · (intro w hSw; (try dsimp only at hSw); go_simp; try with_reducible rfl)
            try simp only [Act.put, List.setIfInBounds_toArray, List.set_cons_zero, List.set_cons_succ]
            refine heldPass (i := 7) rfl (by kernel_rfl) (by kernel_rfl) (by kernel_rfl) (fun _ _ _ h => h) hHeld (by rfl) ?_
            try simp only [Act.put, List.setIfInBounds_toArray, List.set_cons_zero, List.set_cons_succ]
            refine heldPass (i := 8) rfl (by kernel_rfl) (by kernel_rfl) (by kernel_rfl) (fun _ _ _ h => h) hHeld (by rfl) ?_
            try simp only [Act.put, List.setIfInBounds_toArray, List.set_cons_zero, List.set_cons_succ]
            refine heldPass (i := 9) rfl (by kernel_rfl) (by kernel_rfl) (by kernel_rfl) (fun _ _ _ h => h) hHeld (by rfl) ?_
            try simp only [Act.put, List.setIfInBounds_toArray, List.set_cons_zero, List.set_cons_succ]
            refine heldPass (i := 10) rfl (by kernel_rfl) (by kernel_rfl) (by kernel_rfl) (fun _ _ _ h => h) hHeld (by rfl) ?_
            try simp only [Act.put, List.setIfInBounds_toArray, List.set_cons_zero, List.set_cons_succ]
            refine heldPass (i := 11) rfl (by kernel_rfl) (by kernel_rfl) (by kernel_rfl) (fun _ _ _ h => h) hHeld (by rfl) ?_
            try simp only [Act.put, List.setIfInBounds_toArray, List.set_cons_zero, List.set_cons_succ]
            refine heldPass (i := 12) rfl (by kernel_rfl) (by kernel_rfl) (by kernel_rfl) (fun _ _ _ h => h) hHeld (by rfl) ?_
            try simp only [Act.put, List.setIfInBounds_toArray, List.set_cons_zero, List.set_cons_succ]
            refine heldTake (i := 13) (v := ?_) rfl (by kernel_rfl) (by kernel_rfl) (by kernel_rfl) (fun _ _ _ h => h) hHeld (by rfl) ?_ ?_
            rotate_left
            · (intro w hSw; (try dsimp only at hSw); go_simp; try with_reducible rfl)
            try simp only [Act.put, List.setIfInBounds_toArray, List.set_cons_zero, List.set_cons_succ]
            refine heldTake (i := 14) (v := ?_) rfl (by kernel_rfl) (by kernel_rfl) (by kernel_rfl) (fun _ _ _ h => h) hHeld (by rfl) ?_ ?_
            rotate_left
            · (intro w hSw; (try dsimp only at hSw); go_simp; try with_reducible rfl)
            try simp only [Act.put, List.setIfInBounds_toArray, List.set_cons_zero, List.set_cons_succ]
            refine heldPass (i := 15) rfl (by kernel_rfl) (by kernel_rfl) (by kernel_rfl) (fun _ _ _ h => h) hHeld (by rfl) ?_
            try simp only [Act.put, List.setIfInBounds_toArray, List.set_cons_zero, List.set_cons_succ]
            refine heldPass (i := 16) rfl (by kernel_rfl) (by kernel_rfl) (by kernel_rfl) (fun _ _ _ h => h) hHeld (by rfl) ?_
            try simp only [Act.put, List.setIfInBounds_toArray, List.set_cons_zero, List.set_cons_succ]
            refine heldPass (i := 17) rfl (by kernel_rfl) (by kernel_rfl) (by kernel_rfl) (fun _ _ _ h => h) hHeld (by rfl) ?_
            try simp only [Act.put, List.setIfInBounds_toArray, List.set_cons_zero, List.set_cons_succ]
            refine heldPass (i := 18) rfl (by kernel_rfl) (by kernel_rfl) (by kernel_rfl) (fun _ _ _ h => h) hHeld (by rfl) ?_
            try simp only [Act.put, List.setIfInBounds_toArray, List.set_cons_zero, List.set_cons_succ]
            refine heldPass (i := 19) rfl (by kernel_rfl) (by kernel_rfl) (by kernel_rfl) (fun _ _ _ h => h) hHeld (by rfl) ?_
            try simp only [Act.put, List.setIfInBounds_toArray, List.set_cons_zero, List.set_cons_succ]
            refine heldPass (i := 20) rfl (by kernel_rfl) (by kernel_rfl) (by kernel_rfl) (fun _ _ _ h => h) hHeld (by rfl) ?_
            try simp only [Act.put, List.setIfInBounds_toArray, List.set_cons_zero, List.set_cons_succ]
            refine heldPass (i := 21) rfl (by kernel_rfl) (by kernel_rfl) (by kernel_rfl) (fun _ _ _ h => h) hHeld (by rfl) ?_
            try simp only [Act.put, List.setIfInBounds_toArray, List.set_cons_zero, List.set_cons_succ]
            refine heldPass (i := 22) rfl (by kernel_rfl) (by kernel_rfl) (by kernel_rfl) (fun _ _ _ h => h) hHeld (by rfl) ?_
            try simp only [Act.put, List.setIfInBounds_toArray, List.set_cons_zero, List.set_cons_succ]
            refine heldPass (i := 23) rfl (by kernel_rfl) (by kernel_rfl) (by kernel_rfl) (fun _ _ _ h => h) hHeld (by rfl) ?_
            try simp only [Act.put, List.setIfInBounds_toArray, List.set_cons_zero, List.set_cons_succ]
            refine heldPass (i := 24) rfl (by kernel_rfl) (by kernel_rfl) (by kernel_rfl) (fun _ _ _ h => h) hHeld (by rfl) ?_
            try simp only [Act.put, List.setIfInBounds_toArray, List.set_cons_zero, List.set_cons_succ]
            refine heldPass (i := 25) rfl (by kernel_rfl) (by kernel_rfl) (by kernel_rfl) (fun _ _ _ h => h) hHeld (by rfl) ?_
            try simp only [Act.put, List.setIfInBounds_toArray, List.set_cons_zero, List.set_cons_succ]
            refine heldTake (i := 26) (v := ?_) rfl (by kernel_rfl) (by kernel_rfl) (by kernel_rfl) (fun _ _ _ h => h) hHeld (by rfl) ?_ ?_
            rotate_left
            · (intro w hSw; (try dsimp only at hSw); go_simp; try with_reducible rfl)
            try simp only [Act.put, List.setIfInBounds_toArray, List.set_cons_zero, List.set_cons_succ]
            refine heldTake (i := 27) (v := ?_) rfl (by kernel_rfl) (by kernel_rfl) (by kernel_rfl) (fun _ _ _ h => h) hHeld (by rfl) ?_ ?_
            rotate_left
            · (intro w hSw; (try dsimp only at hSw); go_simp; try with_reducible rfl)
            try simp only [Act.put, List.setIfInBounds_toArray, List.set_cons_zero, List.set_cons_succ]
            refine wpAnyH_done (by kernel_rfl) ?_ _
            go_wp2
            go_ret
            exact ⟨rfl, Y1, J1, ⟨R, hG2.below hb4w⟩, hg1.trans (Grow.of_kb ((KbP.of_below hb2 : KbP Y1 w1 w2).after hb4w))⟩
  · rw [if_pos hc]
    obtain ⟨st, cd⟩ := b
    simp only at hc HO
    have hcd : (cd == 0) = false := by rw [beq_eq_false_iff_ne]; exact hc
    go_enter Tryz.func47, Tryz.ntmps47
    go_wp2_with (first | (go_at_call 81; refine HO.out.mono ?_; rintro e w1 ⟨rfl, Y1, J1, hP, hg1⟩))
    go_ret
    exact ⟨rfl, Y1, J1, hP, hg1⟩
end Go.Proofs.YtaanmnplfppdeaaGreat
/- Layer 1: the document's file system: it lives again, a file is read, files are alike: the walks of Start, Read, Same. -/
namespace Go.Proofs.YtaanmnplfppdeaaGreat
open Go.RowKit Go.Lec Go.Fsy Go.Op Go.Maps
/-- Its plan is another, in new memory. -/
theorem RfG.planned {Y J : Nat → Prop} {w w1 w' : World} {rb : Nat} {s : St} {R : RGeo} {p : Pl} {AK AF AU : Option Addr} {cK cF cU : Nat} (h : RfG Y J w rb s R) (hb1 : Below w.heap.size w w1) (hP : PlOk (fun b => w.heap.size ≤ b) w1 p AK cK AF cF AU cU) (hk : KbP (fun b => b = rb) w1 w')
    (hb : Bk w' rb 95 (rfCs { s with pl := p } { R with AK := AK, cK := cK, AF := AF, cF := cF, AU := AU, cU := cU })) :
    RfG Y (JG J w.heap.size w1.heap.size) w' rb { s with pl := p } { R with AK := AK, cK := cK, AF := AF, cF := cF, AU := AU, cU := cU } := by
  have h1 := h.below hb1
  have hJ : ∀ b, JG J w.heap.size w1.heap.size b → ¬ Y b := by
    rintro b (hb | hb) hy
    · exact h.yj b hb hy
    · have := h.lt b (.inl hy); omega
  have hI : ∀ b, J b → ¬ b = rb := h.rbJ
  have lie : ∀ {A : Option Addr} {l : List Int}, RdP (fun b => w.heap.size ≤ b) w1 A l.length (ics l) → RdP (JG J w.heap.size w1.heap.size) w' A l.length (ics l) := fun h2 => by
    have h1 : RdP (fun b => w.heap.size ≤ b ∧ b < w1.heap.size) w1 _ _ _ := ⟨h2.rd, fun hn q e => ⟨h2.lie hn q e, h2.lt hn q e⟩⟩
    exact (h1.kbP hk (fun b hb e => by have := h.lt rb (.inl h.yrb); omega)).more (fun b => .inr)
  refine ⟨hb, lie hP.rk, lie hP.rf, lie hP.ru, hP.nk, hP.nf, hP.nu, OwnK.kbP h1.nodes hk h1.rbN, h.nl, fun x hx => ((h1.nok x hx).kbP hk hI).more (fun b => .inl), (h1.dir.kbP hk hI).more (fun b => .inl), (h1.safe.kbP hk hI).more (fun b => .inl), OwnK.kbP h1.mvs hk h1.rbM, h.yrb, h.ynv, h.ymv, hJ, ?_⟩
  have s1 := hb1.size
  have s2 := hk.size
  rintro b (hb | hb | hb)
  · have := h.lt b (.inl hb); omega
  · have := h.lt b (.inr hb); omega
  · omega
theorem rlive_bk {w2 : World} {rb : Nat} {s : St} {R : RGeo} (hB2 : Bk w2 rb 95 (rfCs s R)) :
    Bk ((w2.setCell ⟨rb, 6, none⟩ (.bool false)).setCell ⟨rb, 5, none⟩ (.int .i64 0)) rb 95 (rfCs { s with cnt := 0, died := false } R) :=
  (hB2.set_ 6 (.bool false)).set_ 5 (.int .i64 0)
theorem rlive_kb (w : World) (rb : Nat) : KbP (fun b => b = rb) w ((w.setCell ⟨rb, 6, none⟩ (.bool false)).setCell ⟨rb, 5, none⟩ (.int .i64 0)) :=
  ((KbP.refl (fun b => b = rb) w).setCell (p := ⟨rb, 6, none⟩) (.inl rfl) _).setCell (p := ⟨rb, 5, none⟩) (.inl rfl) _
theorem rlive {Y J : Nat → Prop} {w1 : World} {rb : Nat} {s : St} {R : RGeo} (hG : RfG Y J w1 rb s R) : RfG Y J ((w1.setCell ⟨rb, 6, none⟩ (.bool false)).setCell ⟨rb, 5, none⟩ (.int .i64 0)) rb { s with cnt := 0, died := false } R := by
  have hk := rlive_kb w1 rb
  have := hG.turnRb (J' := J) (c := 0) (d := false) (dr := s.dir) (sf := s.safe) (ms := s.mvs) (dA := R.dA) (dc := R.dc) (sA := R.sA) (sc := R.sc) (mv := R.mv) hk (fun b hb => hb) hG.yj (fun b hb => Nat.lt_of_lt_of_le (hG.lt b (.inr hb)) hk.size) (rlive_bk hG.bk) (hG.dir.kbP hk hG.rbJ) (hG.safe.kbP hk hG.rbJ) (OwnK.kbP hG.mvs hk hG.rbM) hG.ymv
  simpa using this
theorem rstart_end {Y J : Nat → Prop} {w1 w2 : World} {rb : Nat} {s : St} {R : RGeo} {p : Pl} {A1 A2 A3 : Option Addr} {c1 c2 c3 : Nat} (hG : RfG Y J w1 rb s R)
    (hb2 : Below ((w1.setCell ⟨rb, 6, none⟩ (.bool false)).setCell ⟨rb, 5, none⟩ (.int .i64 0)).heap.size ((w1.setCell ⟨rb, 6, none⟩ (.bool false)).setCell ⟨rb, 5, none⟩ (.int .i64 0)) w2)
    (hPP : PlOk (fun b => ((w1.setCell ⟨rb, 6, none⟩ (.bool false)).setCell ⟨rb, 5, none⟩ (.int .i64 0)).heap.size ≤ b) w2 p A1 c1 A2 c2 A3 c3) :
    ∃ Y' J', RfP Y' J' (((((w2.setCell ⟨rb, 0, none⟩ (.int .i64 p.crash)).setCell ⟨rb, 1, none⟩ (.slice A1 p.keep.length c1)).setCell ⟨rb, 2, none⟩ (.slice A2 p.fail.length c2)).setCell ⟨rb, 3, none⟩ (.slice A3 p.full.length c3)).setCell ⟨rb, 4, none⟩ (.int .i64 p.room)) rb (live s p) ∧
      Grow Y J w1 Y' J' (((((w2.setCell ⟨rb, 0, none⟩ (.int .i64 p.crash)).setCell ⟨rb, 1, none⟩ (.slice A1 p.keep.length c1)).setCell ⟨rb, 2, none⟩ (.slice A2 p.fail.length c2)).setCell ⟨rb, 3, none⟩ (.slice A3 p.full.length c3)).setCell ⟨rb, 4, none⟩ (.int .i64 p.room)) := by
  have hL := rlive hG
  have hk := ((((((KbP.refl (fun b => b = rb) w2).setCell (p := ⟨rb, 0, none⟩) (.inl rfl) (.int .i64 p.crash)).setCell (p := ⟨rb, 1, none⟩) (.inl rfl) (.slice A1 p.keep.length c1)).setCell (p := ⟨rb, 2, none⟩) (.inl rfl) (.slice A2 p.fail.length c2)).setCell (p := ⟨rb, 3, none⟩) (.inl rfl) (.slice A3 p.full.length c3)).setCell (p := ⟨rb, 4, none⟩) (.inl rfl) (.int .i64 p.room))
  have hB2 := hL.bk.below hb2 hL.bk.lt
  have hT := RfG.planned hL hb2 hPP hk (((((hB2.set_ 0 (.int .i64 p.crash)).set_ 1 (.slice A1 p.keep.length c1)).set_ 2 (.slice A2 p.fail.length c2)).set_ 3 (.slice A3 p.full.length c3)).set_ 4 (.int .i64 p.room))
  refine ⟨Y, _, ⟨_, hT⟩, ⟨fun b h => .inl h, fun b h => h.imp_right (fun e => by simpa using e.1), ?_⟩⟩
  exact (((rlive_kb w1 rb).more (X' := Y) (fun b e => e ▸ hG.yrb)).after hb2).trans hk (fun b e => .inl (e ▸ hG.yrb))
/-- What Start leaves. -/
def RstP (Y J : Nat → Prop) (w : World) (rb : Nat) (s : St) (e : Ending) (w' : World) : Prop := e = .returned (.tuple #[]) ∧ ∃ Y' J', RfP Y' J' w' rb s ∧ Grow Y J w Y' J' w'
set_option maxRecDepth 100000 in
set_option maxHeartbeats 1600000 in
theorem c_rStart (w : World) {Y J I2 : Nat → Prop} {rb N : Nat} {s : St} {p : Pl} {AK AF AU : Option Addr} {cK cF cU : Nat} (h : RfP Y J w rb s) (hi : Fsy.Inv s N) (hN : N ≤ 1048576) (hp : s.pl.ok) (hP : PlOk I2 w p AK cK AF cF AU cU) (hJ : ∀ q, I2 q → ¬ Y q) (hpo : p.ok) :
    Calls Tryz.prog 56 #[ptrV rb, plV p AK cK AF cF AU cU] w (RstP Y J w rb (Fsy.start s p)) := by
  have hb0 := (Below.refl w.heap.size w).alloc (Nat.le_refl _) (.cells #[.int .i64 p.crash, .slice AK p.keep.length cK, .slice AF p.fail.length cF, .slice AU p.full.length cU, .int .i64 p.room] 24)
  have hB0 := Bk.new_ w 24 #[.int .i64 p.crash, .slice AK p.keep.length cK, .slice AF p.fail.length cF, .slice AU p.full.length cU, .int .i64 p.room]
  have h0 := h.below hb0
  have hP0 := hP.below hb0
  have HD := Lib.hid (c_rDie _ h0 hi (by omega) hp)
  unfold RdieP at HD
  obtain ⟨G0, hGG⟩ := h0
  have hpx : ¬ Y w.heap.size := fun hx => by
    obtain ⟨R, hR⟩ := h
    have := hR.lt w.heap.size (.inl hx); omega
  have HT := Lib.hid (fun (W : World) (hK : KbP Y (w.alloc (.cells #[.int .i64 p.crash, .slice AK p.keep.length cK, .slice AF p.fail.length cF, .slice AU p.full.length cU, .int .i64 p.room] 24)) W) => c_rPlan W (hP0.kbP hK hJ) hpo.1 hpo.2.1 hpo.2.2.1)
  have HBK := Lib.hid (fun (W : World) (hK : KbP Y (w.alloc (.cells #[.int .i64 p.crash, .slice AK p.keep.length cK, .slice AF p.fail.length cF, .slice AU p.full.length cU, .int .i64 p.room] 24)) W) => hB0.kbP hK hpx)
  have HGG := Lib.hid hGG
  have q0 := hGG.bk.cell
  have z0 := hGG.bk.frz
  have hsd : Fsy.start s p = live (if s.died then s else Fsy.die s) p := rfl
  have Hb0 := Lib.hid hb0
  rw [hsd]
  obtain ⟨d, hd⟩ : ∃ x, x = s.died := ⟨_, rfl⟩
  unfold rfCs at q0
  rw [← hd] at q0 ⊢
  clear hsd hd hb0 hP0 h hP hB0
  unfold plV ptrV at *
  cases d with
  | true =>
    rw [if_pos rfl]
    have hK0 := (rlive_kb (w.alloc (.cells #[.int .i64 p.crash, .slice AK p.keep.length cK, .slice AF p.fail.length cF, .slice AU p.full.length cU, .int .i64 p.room] 24)) rb).more (X' := Y) (fun b e => e ▸ hGG.yrb)
    have hBC := (HBK.out _ hK0).cell
    clear hGG
    go_enter Tryz.func56, Tryz.ntmps56
    go_wp2_with (first
      | (go_at_call 45; refine (HT.out _ hK0).mono ?_; rintro e w2 ⟨A1, c1, A2, c2, A3, c3, rfl, hPP, hb2⟩; unfold plV
         have hB2 := (rlive_bk HGG.out.bk).below hb2 (rlive_bk HGG.out.bk).lt
         have q2 := hB2.cell
         have z2 := hB2.frz
         unfold rfCs at q2))
    go_end0
    obtain ⟨Y1, J1, hP1, hg1⟩ := rstart_end HGG.out hb2 hPP
    exact ⟨rfl, Y1, J1, hP1, (Grow.of_kb (KbP.of_below Hb0.out)).trans hg1⟩
  | false =>
    rw [if_neg Bool.false_ne_true]
    clear hGG
    go_enter Tryz.func56, Tryz.ntmps56
    go_wp2_with (first
      | (go_at_call 85; refine HD.out.mono ?_; rintro e w1 ⟨rfl, J1, ⟨G1, hG1⟩, hg1⟩
         have hK1 : KbP Y (w.alloc (.cells #[.int .i64 p.crash, .slice AK p.keep.length cK, .slice AF p.fail.length cF, .slice AU p.full.length cU, .int .i64 p.room] 24)) ((w1.setCell ⟨rb, 6, none⟩ (.bool false)).setCell ⟨rb, 5, none⟩ (.int .i64 0)) := hg1.kb.trans (rlive_kb w1 rb) (fun b e => .inl (e ▸ hG1.yrb))
         have hBC := (HBK.out _ hK1).cell
         have q1 := hG1.bk.cell
         have z1 := hG1.bk.frz
         unfold rfCs at q1)
      | (go_at_call 45; refine (HT.out _ hK1).mono ?_; rintro e w2 ⟨A1, c1, A2, c2, A3, c3, rfl, hPP, hb2⟩; unfold plV
         have hB2 := (rlive_bk hG1.bk).below hb2 (rlive_bk hG1.bk).lt
         have q2 := hB2.cell
         have z2 := hB2.frz
         unfold rfCs at q2))
    go_end0
    obtain ⟨Y2, J2, hP2, hg2⟩ := rstart_end hG1 hb2 hPP
    exact ⟨rfl, Y2, J2, hP2, ((Grow.of_kb (KbP.of_below Hb0.out)).trans hg1).trans hg2⟩
/-- What the document's Read answers. -/
def RreadP (w : World) (r : Bs × Int) (e : Ending) (w' : World) : Prop :=
  ∃ A c, e = .returned (.tuple #[.slice A r.1.length c, .int .i64 r.2]) ∧ Rd w' w'.heap.size A r.1.length (bcs r.1) ∧ Below w.heap.size w w'
theorem RreadP.none_b {w w' : World} (hb : Below w.heap.size w w') (k : Int) : RreadP w ([], k) (.returned (.tuple #[.slice none 0 0, .int .i64 k])) w' := ⟨none, 0, rfl, (RdP.nil_ (I := fun _ => True)).rd, hb⟩
set_option maxRecDepth 100000 in
set_option maxHeartbeats 1600000 in
theorem c_rRead (w : World) {Y J : Nat → Prop} {rb N : Nat} {s : St} {name : Bs} {k n : Int} (h : RfP Y J w rb s) (hi : Fsy.Inv s N) (hN : N ≤ 1048576) (hk1 : -9223372036854775808 ≤ k) (hk2 : k ≤ 9223372036854775807) (hn1 : -9223372036854775808 ≤ n) (hn2 : n ≤ 9223372036854775807) :
    Calls Tryz.prog 21 #[ptrV rb, .string ⟨name.toArray⟩, .int .i64 k, .int .i64 n] w (RreadP w (Fsy.read s name k n)) := by
  obtain ⟨R, hG⟩ := h
  have q6 : w.cell? ⟨rb, 6, none⟩ = some (.bool s.died) := hG.bk.cell 6
  have HN := Lib.hid (c_rNode w (n := name) ⟨R, hG⟩ (by have := hi.nDir; omega))
  have hsd : Fsy.read s name k n = (if s.died then (([] : Bs), (12 : Int)) else match node s.dir name with | none => (([] : Bs), (14 : Int)) | some j => if k < 0 ∨ n < 0 ∨ (sizeAt s j : Int) < k + n then (([] : Bs), (1 : Int)) else (((Fsy.ndAt s.nodes j).data.drop k.toNat).take n.toNat, (0 : Int))) := rfl
  obtain ⟨d, hd⟩ : ∃ x, x = s.died := ⟨_, rfl⟩
  rw [← hd] at hsd q6
  rw [hsd]
  clear hsd hd
  unfold ptrV at *
  cases d with
  | true =>
    rw [if_pos rfl]
    clear hG HN
    go_enter Tryz.func21, Tryz.ntmps21
    go_wp2
    go_ret2
    exact RreadP.none_b (Below.refl _ _) _
  | false =>
    rw [if_neg Bool.false_ne_true]
    cases hnd : node s.dir name with
    | none =>
      rw [show nodeI s.dir name = -1 by unfold nodeI; rw [hnd]] at HN
      clear hG hnd
      go_enter Tryz.func21, Tryz.ntmps21
      go_wp2_with (first | (go_at_call 43; refine HN.out.mono ?_; rintro e w1 ⟨rfl, hb1⟩))
      go_ret2
      exact RreadP.none_b hb1 _
    | some i =>
      rw [show nodeI s.dir name = (i : Int) by unfold nodeI; rw [hnd]] at HN
      have hil : i < s.nodes.length := (hi.dir.2 _ (node_some hnd)).2.2
      have Hnd2 := Lib.hid (hi.nd i)
      have hszl := hi.size i
      obtain ⟨nn, hnn⟩ : ∃ x, x = s.nodes.length := ⟨_, rfl⟩
      have Hnn := Lib.hid hnn
      have hil2 : (i : Int) < (nn : Int) := by omega
      obtain ⟨z, hz⟩ : ∃ x, x = sizeAt s i := ⟨_, rfl⟩
      show Calls _ _ _ _ (RreadP w (if k < 0 ∨ n < 0 ∨ (sizeAt s i : Int) < k + n then ([], 1) else (((Fsy.ndAt s.nodes i).data.drop k.toNat).take n.toNat, 0)))
      rw [← hz] at hszl ⊢
      have Hsz := Lib.hid hz
      have HG := Lib.hid hG
      clear hG hnd hnn hz
      by_cases k0 : k < 0
      · rw [if_pos (.inl k0)]
        go_enter Tryz.func21, Tryz.ntmps21
        go_wp2_with (first
            | (go_at_call 43; refine HN.out.mono ?_; rintro e w1 ⟨rfl, hb1⟩
               have hG1 := HG.out.below hb1
               obtain ⟨g, c, x, hnv, hnc, g0, g1, hxn, hxo, _⟩ := hG1.nodeAt hil
               have q7 : w1.cell? ⟨rb, 7, none⟩ = some (.slice (some ⟨g, 0, none⟩) nn c) := by rw [Hnn.out, ← hnv]; exact hG1.bk.cell 7
               have hnc2 : (nn : Int) ≤ (c : Int) := by have := Hnn.out; omega
               have HD := Lib.hid (c_rData w1 hxo (by have h := Hnd2.out.1; rw [← hxn] at h; exact h) (by have h := Hnd2.out.2; rw [← hxn] at h; simp only [NR.nd, List.length_map] at h; omega))
               have hds : x.nd.data.length = z := by rw [hxn]; exact Hsz.out.symm
               unfold TwB NR.cs at HD
               rw [hds] at HD
               have Hxn := Lib.hid hxn
               have Hds := Lib.hid hds
               clear hxn hnv hds)
            | (go_at_call 44; refine HD.out.mono ?_; rintro e w2 ⟨A2, c2, rfl, hc2, ho2, hb2⟩; skip))
        go_ret2
        exact RreadP.none_b (hb1.trans (hb2.mono hb1.size)) _
      by_cases n0 : n < 0
      · rw [if_pos (.inr (.inl n0))]
        go_enter Tryz.func21, Tryz.ntmps21
        go_wp2_with (first
            | (go_at_call 43; refine HN.out.mono ?_; rintro e w1 ⟨rfl, hb1⟩
               have hG1 := HG.out.below hb1
               obtain ⟨g, c, x, hnv, hnc, g0, g1, hxn, hxo, _⟩ := hG1.nodeAt hil
               have q7 : w1.cell? ⟨rb, 7, none⟩ = some (.slice (some ⟨g, 0, none⟩) nn c) := by rw [Hnn.out, ← hnv]; exact hG1.bk.cell 7
               have hnc2 : (nn : Int) ≤ (c : Int) := by have := Hnn.out; omega
               have HD := Lib.hid (c_rData w1 hxo (by have h := Hnd2.out.1; rw [← hxn] at h; exact h) (by have h := Hnd2.out.2; rw [← hxn] at h; simp only [NR.nd, List.length_map] at h; omega))
               have hds : x.nd.data.length = z := by rw [hxn]; exact Hsz.out.symm
               unfold TwB NR.cs at HD
               rw [hds] at HD
               have Hxn := Lib.hid hxn
               have Hds := Lib.hid hds
               clear hxn hnv hds)
            | (go_at_call 44; refine HD.out.mono ?_; rintro e w2 ⟨A2, c2, rfl, hc2, ho2, hb2⟩; skip))
        go_ret2
        exact RreadP.none_b (hb1.trans (hb2.mono hb1.size)) _
      by_cases kz : (z : Int) < k
      · rw [if_pos (.inr (.inr (by omega)))]
        go_enter Tryz.func21, Tryz.ntmps21
        go_wp2_with (first
            | (go_at_call 43; refine HN.out.mono ?_; rintro e w1 ⟨rfl, hb1⟩
               have hG1 := HG.out.below hb1
               obtain ⟨g, c, x, hnv, hnc, g0, g1, hxn, hxo, _⟩ := hG1.nodeAt hil
               have q7 : w1.cell? ⟨rb, 7, none⟩ = some (.slice (some ⟨g, 0, none⟩) nn c) := by rw [Hnn.out, ← hnv]; exact hG1.bk.cell 7
               have hnc2 : (nn : Int) ≤ (c : Int) := by have := Hnn.out; omega
               have HD := Lib.hid (c_rData w1 hxo (by have h := Hnd2.out.1; rw [← hxn] at h; exact h) (by have h := Hnd2.out.2; rw [← hxn] at h; simp only [NR.nd, List.length_map] at h; omega))
               have hds : x.nd.data.length = z := by rw [hxn]; exact Hsz.out.symm
               unfold TwB NR.cs at HD
               rw [hds] at HD
               have Hxn := Lib.hid hxn
               have Hds := Lib.hid hds
               clear hxn hnv hds)
            | (go_at_call 44; refine HD.out.mono ?_; rintro e w2 ⟨A2, c2, rfl, hc2, ho2, hb2⟩; skip))
        go_ret2
        exact RreadP.none_b (hb1.trans (hb2.mono hb1.size)) _
      have hsub : IntKind.i64.wrap ((z : Int) - k) = (z : Int) - k := IntWalk.i64_in _ (by omega)
      by_cases nz : (z : Int) - k < n
      · rw [if_pos (.inr (.inr (by omega)))]
        go_enter Tryz.func21, Tryz.ntmps21
        go_wp2_with (first
            | (go_at_call 43; refine HN.out.mono ?_; rintro e w1 ⟨rfl, hb1⟩
               have hG1 := HG.out.below hb1
               obtain ⟨g, c, x, hnv, hnc, g0, g1, hxn, hxo, _⟩ := hG1.nodeAt hil
               have q7 : w1.cell? ⟨rb, 7, none⟩ = some (.slice (some ⟨g, 0, none⟩) nn c) := by rw [Hnn.out, ← hnv]; exact hG1.bk.cell 7
               have hnc2 : (nn : Int) ≤ (c : Int) := by have := Hnn.out; omega
               have HD := Lib.hid (c_rData w1 hxo (by have h := Hnd2.out.1; rw [← hxn] at h; exact h) (by have h := Hnd2.out.2; rw [← hxn] at h; simp only [NR.nd, List.length_map] at h; omega))
               have hds : x.nd.data.length = z := by rw [hxn]; exact Hsz.out.symm
               unfold TwB NR.cs at HD
               rw [hds] at HD
               have Hxn := Lib.hid hxn
               have Hds := Lib.hid hds
               clear hxn hnv hds)
            | (go_at_call 44; refine HD.out.mono ?_; rintro e w2 ⟨A2, c2, rfl, hc2, ho2, hb2⟩; skip))
        go_ret2
        exact RreadP.none_b (hb1.trans (hb2.mono hb1.size)) _
      rw [if_neg (by omega)]
      obtain ⟨j, rfl⟩ : ∃ j : Nat, k = (j : Int) := ⟨k.toNat, by omega⟩
      obtain ⟨m, rfl⟩ : ∃ j : Nat, n = (j : Int) := ⟨n.toNat, by omega⟩
      have hjm : j + m ≤ z := by omega
      have hadd : IntKind.i64.wrap ((j : Int) + (m : Int)) = (j : Int) + (m : Int) := IntWalk.i64_in _ (by omega)
      simp only [Int.toNat_natCast]
      go_enter Tryz.func21, Tryz.ntmps21
      go_wp2_with (first
          | (go_at_call 43; refine HN.out.mono ?_; rintro e w1 ⟨rfl, hb1⟩
             have hG1 := HG.out.below hb1
             obtain ⟨g, c, x, hnv, hnc, g0, g1, hxn, hxo, _⟩ := hG1.nodeAt hil
             have q7 : w1.cell? ⟨rb, 7, none⟩ = some (.slice (some ⟨g, 0, none⟩) nn c) := by rw [Hnn.out, ← hnv]; exact hG1.bk.cell 7
             have hnc2 : (nn : Int) ≤ (c : Int) := by have := Hnn.out; omega
             have HD := Lib.hid (c_rData w1 hxo (by have h := Hnd2.out.1; rw [← hxn] at h; exact h) (by have h := Hnd2.out.2; rw [← hxn] at h; simp only [NR.nd, List.length_map] at h; omega))
             have hds : x.nd.data.length = z := by rw [hxn]; exact Hsz.out.symm
             unfold TwB NR.cs at HD
             rw [hds] at HD
             have Hxn := Lib.hid hxn
             have Hds := Lib.hid hds
             clear hxn hnv hds)
          | (go_at_call 44; refine HD.out.mono ?_; rintro e w2 ⟨A2, c2, rfl, hc2, ho2, hb2⟩; have hrow : RdP (fun b => w1.heap.size ≤ b) w2 A2 z (bcs x.nd.data) := (by unfold Lec.Own at ho2; rw [bcs_length, Hds.out] at ho2; exact (RdP.newB ho2).more (fun b hb => hb.1)); have hcutx := run_cut2I (P := Tryz.prog) slb hrow.rd hc2 j (j + m) (by omega) hjm .i64 .i64 (j : Int) ((j : Int) + (m : Int)) rfl (by omega); obtain ⟨A', hcut, hR'⟩ := hcutx; simp only [Nat.add_sub_cancel_left] at hcut))
      go_ret2
      have hrl : (((Fsy.ndAt s.nodes i).data.drop j).take m).length = m := by rw [List.length_take, List.length_drop, ← Hxn.out, Hds.out]; omega
      have hre : ((bcs x.nd.data).take (j + m)).drop j = bcs (((Fsy.ndAt s.nodes i).data.drop j).take m) := by rw [Hxn.out, List.drop_take, Nat.add_sub_cancel_left]; simp [bcs]
      rw [hre, Nat.add_sub_cancel_left] at hR'
      exact ⟨A', c2 - j, by show Ending.returned (.tuple #[.slice A' m (c2 - j), .int .i64 0]) = .returned (.tuple #[.slice A' (((Fsy.ndAt s.nodes i).data.drop j).take m).length (c2 - j), .int .i64 0]); rw [hrl], by show Rd w2 _ A' (((Fsy.ndAt s.nodes i).data.drop j).take m).length _; rw [hrl]; exact hR', hb1.trans (hb2.mono hb1.size)⟩
end Go.Proofs.YtaanmnplfppdeaaGreat
/- Layer 1: the document's file system: files that are alike are told alike: the walk of Same. -/
namespace Go.Fsy
open Go.RowKit Go.Lec
/-- A slice of files that reads. -/
structure FlR (w : World) (A : Option Addr) (n : Nat) (FL : List FR) : Prop where
  len : FL.length = n
  rd : RdK w w.heap.size 2 A n (FL.flatMap FR.cs)
  ok : ∀ x ∈ FL, Rd w w.heap.size x.A x.data.length (bcs x.data)
theorem FlR.below {w w' : World} {A : Option Addr} {n : Nat} {FL : List FR} (h : FlR w A n FL) (hb : Below w.heap.size w w') : FlR w' A n FL :=
  ⟨h.len, (RdKP.below (I := fun _ => True) ⟨h.rd, fun _ _ _ => trivial⟩ hb).rd, fun x hx => (RdP.below (I := fun _ => True) ⟨h.ok x hx, fun _ _ _ => trivial⟩ hb).rd⟩
end Go.Fsy
namespace Go.Proofs.YtaanmnplfppdeaaGreat
open Go.RowKit Go.Lec Go.Fsy Go.Op Go.Maps
set_option maxRecDepth 40000 in
set_option maxHeartbeats 1600000 in
theorem c_rSame (w : World) {n c1 c2 : Nat} {A1 A2 : Option Addr} {L1 L2 : List FR} (h1 : FlR w A1 n L1) (h2 : FlR w A2 n L2) (he : L1.map FR.fl = L2.map FR.fl) (hn : n ≤ 1099511627776) :
    Calls Tryz.prog 15 #[.slice A1 n c1, .slice A2 n c2] w fun e w' => e = .returned (.bool true) ∧ Below w.heap.size w w' := by
  have He := Lib.hid he
  clear he
  have H1 := Lib.hid h1
  have H2 := Lib.hid h2
  clear h1 h2
  go_enter Tryz.func15, Tryz.ntmps15
  go_wp2
  go_loopw [13] (fun i wr => ∃ k : Nat, k ≤ n ∧ i = .int .i64 k ∧ Below w.heap.size w wr) (fun i _ => n - (intOf i).toNat)
  case atStart => exact ⟨0, Nat.zero_le _, rfl, Below.refl _ _⟩
  case round =>
    obtain ⟨k, hk, rfl, hb⟩ := hrel
    by_cases hlt : k < n
    · have hk1 : k < L1.length := by rw [H1.out.len]; exact hlt
      have hk2 : k < L2.length := by rw [H2.out.len]; exact hlt
      obtain ⟨b1, o1, rfl, hbB1, hc1⟩ := rdK_at FR.cs_len H1.out.rd hk1 H1.out.len (by decide)
      obtain ⟨b2, o2, rfl, hbB2, hc2⟩ := rdK_at FR.cs_len H2.out.rd hk2 H2.out.len (by decide)
      have hok1 := H1.out.ok _ (List.getElem_mem hk1)
      have hok2 := H2.out.ok _ (List.getElem_mem hk2)
      have hpl : L1[k].fl = L2[k].fl := by
        have := congrArg (fun l => l[k]?) He.out
        simpa [List.getElem?_map, hk1, hk2] using this
      have p1 : wr.cell? ⟨b1, o1 + k * 2, none⟩ = some (svl L1[k].name) := hc1 wr hb 0 _ rfl
      have p2 : wr.cell? ⟨b1, o1 + k * 2 + 1, none⟩ = some (.slice L1[k].A L1[k].data.length L1[k].c) := hc1 wr hb 1 _ rfl
      have p3 : wr.cell? ⟨b2, o2 + k * 2, none⟩ = some (svl L2[k].name) := hc2 wr hb 0 _ rfl
      have p4 : wr.cell? ⟨b2, o2 + k * 2 + 1, none⟩ = some (.slice L2[k].A L2[k].data.length L2[k].c) := hc2 wr hb 1 _ rfl
      obtain ⟨m1, hm1⟩ : ∃ x, x = L1[k] := ⟨_, rfl⟩
      obtain ⟨m2, hm2⟩ : ∃ x, x = L2[k] := ⟨_, rfl⟩
      rw [← hm1] at hok1 hpl p1 p2
      rw [← hm2] at hok2 hpl p3 p4
      clear hc1 hc2 hm1 hm2
      obtain ⟨nm, dt, D1, d1⟩ := m1
      obtain ⟨nm', dt', E1, e1⟩ := m2
      simp only [FR.fl, Prod.mk.injEq] at hpl
      obtain ⟨rfl, rfl⟩ := hpl
      have g1 := fun j : Nat => run_str (P := Tryz.prog) Tryz.underlying28 Tryz.underlying5 Tryz.underlying9 (c := d1) ((hok1.below hb (Nat.le_refl _)).drewN j)
      have g2 := fun j : Nat => run_str (P := Tryz.prog) Tryz.underlying28 Tryz.underlying5 Tryz.underlying9 (c := e1) ((hok2.below hb (Nat.le_refl _)).drewN j)
      dsimp only at *
      have i1 : (0 : Int) ≤ (k : Int) := by omega
      have i2 : (k : Int) < (n : Int) := by omega
      unfold svl at *
      clear hok1 hok2
      go_wp2
      go_quiet (fail)
      go_wp2
      go_roundw
      case rel => exact ⟨k + 1, by omega, by go_num, below_drewN hb _⟩
      case measure => simp [intOf]; omega
    · obtain rfl : k = n := by omega
      go_wp2
      go_ret
      exact ⟨rfl, hb⟩
end Go.Proofs.YtaanmnplfppdeaaGreat
/- Layer 1: the document's file system: another one that is alike: the walk of Clone. -/
namespace Go.Proofs.YtaanmnplfppdeaaGreat
open Go.RowKit Go.Lec Go.Fsy Go.Op Go.Maps
/-- What Clone answers: all that may turn of it is new. -/
def RclP (J : Nat → Prop) (w : World) (s : St) (e : Ending) (w' : World) : Prop :=
  ∃ gb Y' J', e = .returned (ptrV gb) ∧ RfP Y' J' w' gb s ∧ (∀ b, Y' b → w.heap.size ≤ b) ∧ (∀ b, J' b → J b ∨ w.heap.size ≤ b) ∧ Below w.heap.size w w'
set_option maxRecDepth 100000 in
set_option maxHeartbeats 1600000 in
theorem c_rClone (w : World) {Y J : Nat → Prop} {rb N : Nat} {s : St} (h : RfP Y J w rb s) (hi : Fsy.Inv s N) (hN : N ≤ 1048576) (hp : s.pl.ok) :
    Calls Tryz.prog 29 #[ptrV rb] w (RclP J w s) := by
  obtain ⟨R, hG⟩ := h
  have hlt := hG.lt
  have HT := Lib.hid (fun (W : World) (hb : Below w.heap.size w W) => c_rPlan W (I := J) (p := s.pl) (AK := R.AK) (cK := R.cK) (AF := R.AF) (cF := R.cF) (AU := R.AU) (cU := R.cU) (PlOk.below ⟨hG.rk, hG.rf, hG.ru, hG.nk, hG.nf, hG.nu⟩ hb) hp.1 hp.2.1 hp.2.2.1)
  have hdl := hi.nDir
  have hsl := hi.nSafe
  have hnl := hi.nNodes
  have hne : rb ≠ w.heap.size := fun e => by have := hlt rb (.inl hG.yrb); omega
  obtain ⟨An, cn, hnv, hcn⟩ := hG.nodes.shape
  obtain ⟨Am, cm, hmv, hcm⟩ := hG.mvs.shape
  have HG := Lib.hid (fun (W : World) (hb : Below w.heap.size w W) => hG.below hb)
  have HP := Lib.hid (fun (W : World) (hb : Below w.heap.size w W) => (hG.below hb).bk.cell)
  have p0 := hG.bk.cell
  unfold rfCs at p0 HP
  rw [hnv, hmv] at p0 HP
  have Hnv := Lib.hid hnv
  have Hmv := Lib.hid hmv
  obtain ⟨dl, hdlE⟩ : ∃ x, x = s.dir.length := ⟨_, rfl⟩
  obtain ⟨sl, hslE⟩ : ∃ x, x = s.safe.length := ⟨_, rfl⟩
  obtain ⟨ml, hmlE⟩ : ∃ x, x = s.mvs.length := ⟨_, rfl⟩
  obtain ⟨nl, hnlE⟩ : ∃ x, x = s.nodes.length := ⟨_, rfl⟩
  rw [← hdlE, ← hslE, ← hmlE, ← hnlE] at p0 HP
  rw [← hdlE] at hdl
  rw [← hslE, ← hmlE] at hsl
  rw [← hnlE] at hnl
  have p1 := fun o : Obj => HP.out (w.alloc o) ((Below.refl w.heap.size w).alloc (Nat.le_refl _) o)
  have HdlE := Lib.hid hdlE
  have HslE := Lib.hid hslE
  have HmlE := Lib.hid hmlE
  have HnlE := Lib.hid hnlE
  unfold plV ptrV at *
  clear hG hi hp hcn hcm hnv hmv hdlE hslE hmlE hnlE
  go_enter Tryz.func29, Tryz.ntmps29
  go_wp2_with (first
    | (go_at_call 45
       (with_reducible refine (HT.out _ ((Below.refl w.heap.size w).alloc (Nat.le_refl _) _)).mono ?_)
       rintro e w2 ⟨A1, c1, A2, c2, A3, c3, rfl, hPP, hb2⟩
       unfold plV
       have hbw2 : Below w.heap.size w w2 := ((Below.refl w.heap.size w).alloc (Nat.le_refl _) _).trans (hb2.mono (by simp))
       have hlt2 : w.heap.size < w2.heap.size := by have := hb2.size; simp at this; omega
       have B2 : Bk w2 w.heap.size 95 (rfCs s R) := by
         unfold rfCs
         rw [Hnv.out, Hmv.out, ← HdlE.out, ← HslE.out, ← HmlE.out, ← HnlE.out]
         exact (Bk.new_ w _ _).below hb2 (by simp)
       have q2 := B2.cell
       unfold rfCs at q2
       have z2 := B2.frz
       have p2 := HP.out w2 hbw2)
    | (at_builtin
       obtain ⟨W2, hW2⟩ : ∃ W, W = ((((w2.setCell ⟨w.heap.size, 0, none⟩ (.int .i64 s.pl.crash)).setCell ⟨w.heap.size, 1, none⟩ (.slice A1 s.pl.keep.length c1)).setCell ⟨w.heap.size, 2, none⟩ (.slice A2 s.pl.fail.length c2)).setCell ⟨w.heap.size, 3, none⟩ (.slice A3 s.pl.full.length c3)).setCell ⟨w.heap.size, 4, none⟩ (.int .i64 s.pl.room) := ⟨_, rfl⟩
       have bW2 : Below w.heap.size w W2 := by rw [hW2]; exact ((((hbw2.setCell (p := ⟨w.heap.size, 0, none⟩) (Nat.le_refl _) _).setCell (p := ⟨w.heap.size, 1, none⟩) (Nat.le_refl _) _).setCell (p := ⟨w.heap.size, 2, none⟩) (Nat.le_refl _) _).setCell (p := ⟨w.heap.size, 3, none⟩) (Nat.le_refl _) _).setCell (p := ⟨w.heap.size, 4, none⟩) (Nat.le_refl _) _
       have BW2 : Bk W2 w.heap.size 95 (rfCs s { R with AK := A1, cK := c1, AF := A2, cF := c2, AU := A3, cU := c3 }) := by rw [hW2]; exact ((((B2.set_ 0 _).set_ 1 _).set_ 2 _).set_ 3 _).set_ 4 _
       have kW2 : KbP (fun b => b = w.heap.size) w2 W2 := by rw [hW2]; exact (((((KbP.refl (fun b => b = w.heap.size) w2).setCell (p := ⟨w.heap.size, 0, none⟩) (.inl rfl) _).setCell (p := ⟨w.heap.size, 1, none⟩) (.inl rfl) _).setCell (p := ⟨w.heap.size, 2, none⟩) (.inl rfl) _).setCell (p := ⟨w.heap.size, 3, none⟩) (.inl rfl) _).setCell (p := ⟨w.heap.size, 4, none⟩) (.inl rfl) _
       rw [← hW2]
       clear hW2 q2 z2 p2
       have hrd := (HG.out W2 bW2).dir.rd
       rw [← HdlE.out] at hrd
       refine wpList_appK_sl (w0 := W2) (base := W2.heap.size) rfl (.const (.slice none 0 0)) (.tmp 16) rfl slnm (by decide) rfl (OwnK.nil_ _ _ _ _) (Below.refl _ _) (Nat.le_refl _) rfl hrd (fun u hu => by obtain ⟨x, _, hx⟩ := List.mem_flatMap.1 hu; exact nmCs_one x u hx) (by rw [Nat.zero_add]; omega) ?_
       intro v3 w3 ho3 hb3 hg3 hs3
       rw [Nat.zero_add, List.nil_append] at ho3
       obtain ⟨A4, c4, rfl, hc4⟩ := ho3.shape
       have bw3 := bW2.trans (hb3.mono bW2.size)
       have B3 := BW2.below hb3 BW2.lt
       have k3 : KbP (fun b => b = w.heap.size) w2 w3 := kW2.after hb3
       have q3 := B3.cell
       unfold rfCs at q3
       have z3 := B3.frz
       have p3 := HP.out w3 bw3)
    | (at_builtin
       obtain ⟨W3, hW3⟩ : ∃ W, W = w3.setCell ⟨w.heap.size, 8, none⟩ (.slice A4 dl c4) := ⟨_, rfl⟩
       have bW3 : Below w.heap.size w W3 := by rw [hW3]; exact bw3.setCell (p := ⟨w.heap.size, 8, none⟩) (Nat.le_refl _) _
       have BW3 : Bk W3 w.heap.size 95 (rfCs s { R with AK := A1, cK := c1, AF := A2, cF := c2, AU := A3, cU := c3, dA := A4, dc := c4 }) := by rw [hW3, HdlE.out]; exact B3.set_ 8 _
       have kW3 : KbP (fun b => b = w.heap.size) w3 W3 := by rw [hW3]; exact (KbP.refl (fun b => b = w.heap.size) w3).setCell (p := ⟨w.heap.size, 8, none⟩) (.inl rfl) _
       rw [← hW3]
       clear hW3 q3 z3 p3
       have hrd := (HG.out W3 bW3).safe.rd
       rw [← HslE.out] at hrd
       refine wpList_appK_sl (w0 := W3) (base := W3.heap.size) rfl (.const (.slice none 0 0)) (.tmp 22) rfl slnm (by decide) rfl (OwnK.nil_ _ _ _ _) (Below.refl _ _) (Nat.le_refl _) rfl hrd (fun u hu => by obtain ⟨x, _, hx⟩ := List.mem_flatMap.1 hu; exact nmCs_one x u hx) (by rw [Nat.zero_add]; omega) ?_
       intro v4 w4 ho4 hb4 hg4 hs4
       rw [Nat.zero_add, List.nil_append] at ho4
       obtain ⟨A5, c5, rfl, hc5⟩ := ho4.shape
       have bw4 := bW3.trans (hb4.mono bW3.size)
       have B4 := BW3.below hb4 BW3.lt
       have k4 : KbP (fun b => b = w.heap.size) w3 w4 := kW3.after hb4
       have q4 := B4.cell
       unfold rfCs at q4
       have z4 := B4.frz
       have p4 := HP.out w4 bw4)
    | (at_builtin
       obtain ⟨W4, hW4⟩ : ∃ W, W = w4.setCell ⟨w.heap.size, 9, none⟩ (.slice A5 sl c5) := ⟨_, rfl⟩
       have bW4 : Below w.heap.size w W4 := by rw [hW4]; exact bw4.setCell (p := ⟨w.heap.size, 9, none⟩) (Nat.le_refl _) _
       have BW4 : Bk W4 w.heap.size 95 (rfCs s { R with AK := A1, cK := c1, AF := A2, cF := c2, AU := A3, cU := c3, dA := A4, dc := c4, sA := A5, sc := c5 }) := by rw [hW4, HslE.out]; exact B4.set_ 9 _
       have kW4 : KbP (fun b => b = w.heap.size) w4 W4 := by rw [hW4]; exact (KbP.refl (fun b => b = w.heap.size) w4).setCell (p := ⟨w.heap.size, 9, none⟩) (.inl rfl) _
       rw [← hW4]
       clear hW4 q4 z4 p4
       have hrd := OwnK.rd (by have h := (HG.out W4 bW4).mvs; rw [Hmv.out, ← HmlE.out] at h; exact h)
       refine wpList_appK_sl (w0 := W4) (base := W4.heap.size) rfl (.const (.slice none 0 0)) (.tmp 28) rfl slrm (by decide) rfl (OwnK.nil_ _ _ _ _) (Below.refl _ _) (Nat.le_refl _) rfl hrd (fun u hu => by obtain ⟨x, _, hx⟩ := List.mem_flatMap.1 hu; exact rmCs_one x u hx) (by rw [Nat.zero_add]; omega) ?_
       intro v5 w5 ho5 hb5 hg5 hs5
       rw [Nat.zero_add, List.nil_append] at ho5
       obtain ⟨A6, c6, rfl, hc6⟩ := ho5.shape
       have bw5 := bW4.trans (hb5.mono bW4.size)
       have B5 := BW4.below hb5 BW4.lt
       have k5 : KbP (fun b => b = w.heap.size) w4 w5 := kW4.after hb5
       have q5 := B5.cell
       unfold rfCs at q5
       have z5 := B5.frz
       have p5 := HP.out w5 bw5)
    | (at_builtin
       obtain ⟨W5, hW5⟩ : ∃ W, W = w5.setCell ⟨w.heap.size, 10, none⟩ (.slice A6 ml c6) := ⟨_, rfl⟩
       have bW5 : Below w.heap.size w W5 := by rw [hW5]; exact bw5.setCell (p := ⟨w.heap.size, 10, none⟩) (Nat.le_refl _) _
       have BW5 : Bk W5 w.heap.size 95 (rfCs s { R with AK := A1, cK := c1, AF := A2, cF := c2, AU := A3, cU := c3, dA := A4, dc := c4, sA := A5, sc := c5, mv := .slice A6 ml c6 }) := by rw [hW5]; exact B5.set_ 10 _
       have kW5 : KbP (fun b => b = w.heap.size) w5 W5 := by rw [hW5]; exact (KbP.refl (fun b => b = w.heap.size) w5).setCell (p := ⟨w.heap.size, 10, none⟩) (.inl rfl) _
       rw [← hW5]
       clear hW5 q5 z5 p5
       have hrd := OwnK.rd (by have h := (HG.out W5 bW5).nodes; rw [Hnv.out, ← HnlE.out] at h; exact h)
       refine wpList_appK_sl (w0 := W5) (base := W5.heap.size) rfl (.const (.slice none 0 0)) (.tmp 34) rfl slno (by decide) rfl (OwnK.nil_ _ _ _ _) (Below.refl _ _) (Nat.le_refl _) rfl hrd (fun u hu => by obtain ⟨x, _, hx⟩ := List.mem_flatMap.1 hu; exact NR.cs_one x u hx) (by rw [Nat.zero_add]; omega) ?_
       intro v6 w6 ho6 hb6 hg6 hs6
       rw [Nat.zero_add, List.nil_append] at ho6
       obtain ⟨A7, c7, rfl, hc7⟩ := ho6.shape
       have bw6 := bW5.trans (hb6.mono bW5.size)
       have B6 := BW5.below hb6 BW5.lt
       have k6 : KbP (fun b => b = w.heap.size) w5 w6 := kW5.after hb6
       have q6 := B6.cell
       unfold rfCs at q6
       have z6 := B6.frz
       have p6 := HP.out w6 bw6))
  go_ret
  obtain ⟨W6, hW6⟩ : ∃ W, W = w6.setCell ⟨w.heap.size, 7, none⟩ (.slice A7 nl c7) := ⟨_, rfl⟩
  have bW6 : Below w.heap.size w W6 := by rw [hW6]; exact bw6.setCell (p := ⟨w.heap.size, 7, none⟩) (Nat.le_refl _) _
  have BW6 : Bk W6 w.heap.size 95 (rfCs s { R with AK := A1, cK := c1, AF := A2, cF := c2, AU := A3, cU := c3, dA := A4, dc := c4, sA := A5, sc := c5, mv := .slice A6 ml c6, nv := .slice A7 nl c7 }) := by rw [hW6]; exact B6.set_ 7 _
  have kW6 : KbP (fun b => b = w.heap.size) w6 W6 := by rw [hW6]; exact (KbP.refl (fun b => b = w.heap.size) w6).setCell (p := ⟨w.heap.size, 7, none⟩) (.inl rfl) _
  rw [← hW6]
  have tr : ∀ {a b c : World}, KbP (fun b => b = w.heap.size) a b → KbP (fun b => b = w.heap.size) b c → KbP (fun b => b = w.heap.size) a c := fun h k => h.trans k fun _ e => .inl e
  have k56 := tr k6 kW6
  have k46 := tr k5 k56
  have k36 := tr k4 k46
  have k26 := tr k3 k36
  have G6 := HG.out W6 bW6
  have z26 : w2.heap.size ≤ W2.heap.size := kW2.size
  have z23 : w2.heap.size ≤ w3.heap.size := k3.size
  have z3W : w3.heap.size ≤ W3.heap.size := kW3.size
  have z34 : w3.heap.size ≤ w4.heap.size := k4.size
  have z4W : w4.heap.size ≤ W4.heap.size := kW4.size
  have z45 : w4.heap.size ≤ w5.heap.size := k5.size
  have z5W : w5.heap.size ≤ W5.heap.size := kW5.size
  have z56 : w5.heap.size ≤ w6.heap.size := k6.size
  have z6W : w6.heap.size ≤ W6.heap.size := kW6.size
  have hmo : ∀ b, (Value.slice A6 ml c6).ownBlock = some b → w4.heap.size ≤ b ∧ b < w5.heap.size := fun b e => by have := World.ownsRow.lt ho5 b e; omega
  have hno : ∀ b, (Value.slice A7 nl c7).ownBlock = some b → w5.heap.size ≤ b ∧ b < w6.heap.size := fun b e => by have := World.ownsRow.lt ho6 b e; omega
  have hbd : ∀ b, (b = w.heap.size ∨ (Value.slice A7 nl c7).ownBlock = some b ∨ (Value.slice A6 ml c6).ownBlock = some b) → w.heap.size ≤ b ∧ b < W6.heap.size := by
    rintro b (rfl | e | e)
    · exact ⟨Nat.le_refl _, by omega⟩
    · have := hno b e; omega
    · have := hmo b e; omega
  have hfree : ∀ b, w.heap.size < b → b < w4.heap.size → ¬ (b = w.heap.size ∨ (Value.slice A7 nl c7).ownBlock = some b ∨ (Value.slice A6 ml c6).ownBlock = some b) := by
    rintro b h1 h2 (rfl | e | e)
    · omega
    · have := hno b e; omega
    · have := hmo b e; omega
  have hlo : w.heap.size < (w.alloc (.cells (rfCs s R) 95)).heap.size := by simp
  have lie : ∀ {A : Option Addr} {l : List Int}, RdP (fun b => w.heap.size + 1 ≤ b) w2 A l.length (ics l) → RdP (fun b => J b ∨ (w.heap.size ≤ b ∧ b < W6.heap.size ∧ ¬ (b = w.heap.size ∨ (Value.slice A7 nl c7).ownBlock = some b ∨ (Value.slice A6 ml c6).ownBlock = some b))) W6 A l.length (ics l) := fun h2 => by
    have h1 : RdP (fun b => w.heap.size + 1 ≤ b ∧ b < w2.heap.size) w2 _ _ _ := ⟨h2.rd, fun hn q e => ⟨h2.lie hn q e, h2.lt hn q e⟩⟩
    exact (h1.kbP k26 (fun b hb e => by omega)).more (fun b hb => .inr ⟨by omega, by omega, hfree b (by omega) (by omega)⟩)
  simp only [World.size_alloc] at hPP
  have hrow : ∀ {A : Option Addr} {c B : Nat} {l : Dir} {wa : World}, OwnK wa B 139 2 (.slice A l.length c) l.length (l.flatMap nmCs) → w.heap.size < B → wa.heap.size ≤ w4.heap.size → KbP (fun b => b = w.heap.size) wa W6 → RdKP (fun b => J b ∨ (w.heap.size ≤ b ∧ b < W6.heap.size ∧ ¬ (b = w.heap.size ∨ (Value.slice A7 nl c7).ownBlock = some b ∨ (Value.slice A6 ml c6).ownBlock = some b))) W6 2 A l.length (l.flatMap nmCs) := fun ho hB hw hk =>
    (RdKP.kbP (RdKP.new_ ho) hk (fun b hb e => by omega)).more (fun b hb => .inr ⟨by omega, by omega, hfree b (by omega) (by omega)⟩)
  have hgb : ∀ (v : Value) (B : Nat) (a : World) (e : TypeId) (k n : Nat) (xs : List Value), OwnK a B e k v n xs → w.heap.size < B → ∀ g, v.ownBlock = some g → ¬ g = w.heap.size := fun v B a e k n xs ho hB g hg e => by have := (World.ownsRow.lt ho g hg).1; omega
  refine ⟨w.heap.size, fun b => b = w.heap.size ∨ (Value.slice A7 nl c7).ownBlock = some b ∨ (Value.slice A6 ml c6).ownBlock = some b, fun b => J b ∨ (w.heap.size ≤ b ∧ b < W6.heap.size ∧ ¬ (b = w.heap.size ∨ (Value.slice A7 nl c7).ownBlock = some b ∨ (Value.slice A6 ml c6).ownBlock = some b)), rfl, ⟨_, ⟨BW6, lie hPP.rk, lie hPP.rf, lie hPP.ru, hPP.nk, hPP.nf, hPP.nu, ?_, G6.nl, fun x hx => (G6.nok x hx).more fun b => .inl, ?_, ?_, ?_, .inl rfl, fun g hg => .inr (.inl hg), fun g hg => .inr (.inr hg), ?_, ?_⟩⟩, fun b hb => (hbd b hb).1, fun b hb => hb.imp_right fun h => h.1, bW6⟩
  · have h1 := ownK_mono (OwnK.kbP ho6 kW6 (hgb _ _ _ _ _ _ _ ho6 (by omega))) (Nat.zero_le _)
    show OwnK W6 0 _ 2 (.slice A7 nl c7) s.nodes.length _
    rw [← HnlE.out]; exact h1
  · show RdKP _ W6 2 A4 s.dir.length _
    exact hrow (c := c4) (by rw [← HdlE.out]; exact ho3) (by omega) z34 k36
  · show RdKP _ W6 2 A5 s.safe.length _
    exact hrow (c := c5) (by rw [← HslE.out]; exact ho4) (by omega) (Nat.le_refl _) k46
  · have h1 := ownK_mono (OwnK.kbP ho5 k56 (hgb _ _ _ _ _ _ _ ho5 (by omega))) (Nat.zero_le _)
    show OwnK W6 0 _ 4 (.slice A6 ml c6) s.mvs.length _
    rw [← HmlE.out]; exact h1
  · rintro b (hb | hb) hy
    · have h1 := hbd b hy
      have h2 := hlt b (.inr hb)
      omega
    · exact hb.2.2 hy
  · rintro b (hb | hb | hb)
    · exact (hbd b hb).2
    · have := hlt b (.inr hb); omega
    · exact hb.2.1
end Go.Proofs.YtaanmnplfppdeaaGreat
/- Layer 1: the document's file system: the safe files: the walk of SafeFiles. -/
namespace Go.Proofs.YtaanmnplfppdeaaGreat
open Go.RowKit Go.Lec Go.Fsy Go.Op Go.Maps
set_option maxRecDepth 100000 in
set_option maxHeartbeats 1600000 in
theorem c_rSafe (w : World) {Y J : Nat → Prop} {rb N : Nat} {s : St} (h : RfP Y J w rb s) (hi : Fsy.Inv s N) (hN : N ≤ 1048576) :
    Calls Tryz.prog 58 #[ptrV rb] w (FilesP w (safeFiles s)) := by
  obtain ⟨R, hG⟩ := h
  have q9 : w.cell? ⟨rb, 9, none⟩ = some (.slice R.sA s.safe.length R.sc) := hG.bk.cell 9
  unfold ptrV at *
  have hdl := hi.nSafe
  have hdk := hi.safe
  have HN := Lib.hid (c_rNames w (c := R.sc) (.pointer (some ⟨rb, 0, none⟩)) hG.safe (by omega))
  unfold RnmP at HN
  have hnl := namesOf_len s.safe
  have hfe : safeFiles s = (namesOf s.safe).map (fileOf s s.safe Nd.safe) := rfl
  have Hfe := Lib.hid hfe
  have HG := Lib.hid hG
  obtain ⟨ln, hln⟩ : ∃ x, x = s.safe.length := ⟨_, rfl⟩
  have HlnE := Lib.hid hln
  have Hln := Lib.hid (show (namesOf s.safe).length = ln by rw [hnl, hln])
  have hsf : (safeFiles s).length = ln := by rw [hfe, List.length_map, hnl, hln]
  have Hsf := Lib.hid hsf
  have Hdl := Lib.hid hdl
  rw [← hln] at HN hdl q9
  have Hnd := Lib.hid (fun (k : Nat) (hk : k < (namesOf s.safe).length) => namesOf_node hdk hk)
  have Hdk := Lib.hid hdk
  have Hi := Lib.hid (fun i => hi.nd i)
  obtain ⟨nn, hnn⟩ : ∃ x, x = s.nodes.length := ⟨_, rfl⟩
  have Hnn := Lib.hid hnn
  clear hG hdk hnl hln hsf hi hfe hnn
  go_enter Tryz.func58, Tryz.ntmps58
  go_wp2_with (first | (go_at_call 86; refine HN.out.mono ?_; rintro e w2 ⟨A, c, rfl, hc, hR, hb2⟩))
  have hR0 := hR.rd
  go_loopw [3, 13] (fun v i wr => ∃ (k : Nat) (FL : List FR), k ≤ ln ∧ i = .int .i64 (k : Int) ∧ FL.map FR.fl = ((namesOf s.safe).take k).map (fileOf s s.safe Nd.safe) ∧ FlI 40 w2 wr v FL) (fun _ i _ => ln - (intOf i).toNat)
  case atStart => exact ⟨0, [], Nat.zero_le _, rfl, rfl, FlI.start 40 w2⟩
  case round =>
    obtain ⟨k, FL, hk, rfl, hfl, hF⟩ := hrel
    have hbr := hF.bl
    by_cases hlt : k < ln
    · have hkl : k < (namesOf s.safe).length := by have := Hln.out; omega
      obtain ⟨b, o, rfl, hbB, hcell⟩ := hR0.2 (by omega)
      obtain ⟨i, hi1, hi2, hi3⟩ := Hnd.out k hkl
      have g9 : wr.cell? ⟨b, o + k, none⟩ = some (svl (namesOf s.safe)[k]) := (hbr.cell (p := ⟨b, o + k, none⟩) hbB).trans (hcell k _ (by simp [hkl]))
      have hFl : FL.length = k := by have := congrArg List.length hfl; simpa [List.length_take, Nat.min_eq_left (Nat.le_of_lt hkl)] using this
      obtain ⟨As, cs, rfl, hcs⟩ := hF.own.shape
      have hbw : Below w.heap.size w wr := hb2.trans (hbr.mono hb2.size)
      have hil : i < s.nodes.length := (Hdk.out.2 _ hi3).2.2
      obtain ⟨g, cn, x, hnv, hnc, g0, g1, hxn, hxo, _⟩ := HG.out.nodeAt hil
      have hgl : g < w.heap.size := HG.out.lt g (.inl (HG.out.ynv g (by rw [hnv]; rfl)))
      have hil2 : (i : Int) < (nn : Int) := by have := Hnn.out; omega
      have hnc2 : (nn : Int) ≤ (cn : Int) := by have := Hnn.out; omega
      have Htk := Lib.hid (List.take_succ_eq_append_getElem hkl)
      have hxs : x.sf = (Fsy.ndAt s.nodes i).safe := congrArg Nd.safe hxn
      have hfo : fileOf s s.safe Nd.safe (namesOf s.safe)[k] = ((namesOf s.safe)[k], x.sf) := by unfold fileOf; rw [hi1, hxs]; rfl
      have Hfo := Lib.hid hfo
      obtain ⟨kk, hkk, hfi, hi1b⟩ : ∃ kk, ∃ h : kk < s.safe.length, findI s.safe (namesOf s.safe)[k] = (kk : Int) ∧ s.safe[kk].2 = i := by
        rcases find_node s.safe (namesOf s.safe)[k] with ⟨h1, _⟩ | ⟨kk, h, h1, h2, _⟩
        · rw [hi1] at h1; cases h1
        · rw [hi1] at h2; exact ⟨kk, h, h1, (Option.some.inj h2).symm⟩
      obtain ⟨sb, so, hsA, hsB, hscell⟩ := rdK_at nmCs_len HG.out.safe.rd hkk rfl (by decide)
      have hs1 := fun (W : World) (hb : Below w.heap.size w W) => hscell W hb 1 (.int .i64 (i : Int)) (by rw [← hi1b]; rfl)
      have HS := Lib.hid (fun (W : World) (hb : Below w.heap.size w W) => show W.cell? ⟨rb, 7, none⟩ = some (.slice (some ⟨g, 0, none⟩) nn cn) ∧ W.cell? ⟨g, i * 2, none⟩ = some (.slice x.A x.sf.length x.c) ∧ W.cell? ⟨rb, 9, none⟩ = some (.slice R.sA ln R.sc) ∧ W.cell? ⟨sb, so + kk * 2 + 1, none⟩ = some (.int .i64 (i : Int)) from ⟨by rw [Hnn.out, ← hnv]; exact (HG.out.below hb).bk.cell 7, (hb.cell (p := ⟨g, i * 2, none⟩) hgl).trans g0, by rw [HlnE.out]; exact (HG.out.below hb).bk.cell 9, hs1 W hb⟩)
      have HFn := Lib.hid (fun (W : World) (hb : Below w.heap.size w W) => c_find W (c := R.sc) (n := (namesOf s.safe)[k]) (HG.out.below hb).safe (by have := Hdl.out; omega))
      rw [hfi] at HFn
      have HD := Lib.hid (fun (W : World) (hb : Below w.heap.size w W) => c_rTwin W (c := x.c) (hxo.below hb).sf.rd (by have h := fits_head (Hi.out i).1; rw [← hxs] at h; omega))
      have hkk2 : (kk : Int) < (ln : Int) := by have := HlnE.out; omega
      have hsz : x.sf.length ≤ 268435456 := by rw [hxs]; exact fits_head (Hi.out i).1
      obtain ⟨nm, hnm⟩ : ∃ x, x = (namesOf s.safe)[k] := ⟨_, rfl⟩
      rw [← hnm] at g9 Hfo Htk HFn
      obtain ⟨dt, hdt⟩ : ∃ y, y = x.sf := ⟨_, rfl⟩
      unfold TwB at HD
      rw [← hdt] at Hfo hsz HD HS
      rw [← HlnE.out] at HFn
      have Hfl := Lib.hid hfl
      have HFl := Lib.hid hFl
      have hfsz := hF.bl.size
      have HF := Lib.hid hF
      obtain ⟨dl, hdl'⟩ : ∃ x, x = dt.length := ⟨_, rfl⟩
      rw [← hdl'] at HD hsz HS
      have HdL := Lib.hid hdl'
      have Hbw := Lib.hid hbw
      have hS0 := HS.out wr.drew hbw.drew
      obtain ⟨sA, hsAE⟩ : ∃ y, y = R.sA := ⟨_, rfl⟩
      rw [← hsAE] at HFn hS0 HS hsA
      subst hsA
      clear hfl hF hcell hi1 hi2 hi3 hfo hnm hdt hdl' hFl hnv hnc hxn hxo g0 g1 hbw hxs hscell hs1 hfi hi1b hkk hsAE
      unfold svl at *
      go_wp2
      have hHeld : (fun W : World => W.cell? ⟨rb, 7, none⟩ = some (.slice (some ⟨g, 0, none⟩) nn cn) ∧ W.cell? ⟨g, i * 2, none⟩ = some (.slice x.A dl x.c) ∧ W.cell? ⟨rb, 9, none⟩ = some (.slice (some ⟨sb, so, none⟩) ln R.sc) ∧ W.cell? ⟨sb, so + kk * 2 + 1, none⟩ = some (.int .i64 (i : Int))) wr.drew := hS0
      refine wp_region_T (S := fun W : World => W.cell? ⟨rb, 7, none⟩ = some (.slice (some ⟨g, 0, none⟩) nn cn) ∧ W.cell? ⟨g, i * 2, none⟩ = some (.slice x.A dl x.c) ∧ W.cell? ⟨rb, 9, none⟩ = some (.slice (some ⟨sb, so, none⟩) ln R.sc) ∧ W.cell? ⟨sb, so + kk * 2 + 1, none⟩ = some (.int .i64 (i : Int))) (m := 27) (by kernel_rfl) ?_
      simp only [List.size_toArray, List.length_cons, List.length_nil, Nat.reduceAdd]
      refine tTake (i := 0) (v := ?_) rfl (by kernel_rfl) (by kernel_rfl) (by kernel_rfl) (by kernel_rfl) (fun _ _ _ h => h) hHeld (by rfl) ?_ ?_
      rotate_left
      · (intro w hSw; (try dsimp only at hSw); go_simp; try with_reducible rfl)
      try simp only [Act.put, List.setIfInBounds_toArray, List.set_cons_zero, List.set_cons_succ]
      refine tTake (i := 1) (v := ?_) rfl (by kernel_rfl) (by kernel_rfl) (by kernel_rfl) (by kernel_rfl) (fun _ _ _ h => h) hHeld (by rfl) ?_ ?_
      rotate_left
      · (intro w hSw; (try dsimp only at hSw); go_simp; try with_reducible rfl)
      try simp only [Act.put, List.setIfInBounds_toArray, List.set_cons_zero, List.set_cons_succ]
      refine tTake (i := 2) (v := ?_) rfl (by kernel_rfl) (by kernel_rfl) (by kernel_rfl) (by kernel_rfl) (fun _ _ _ h => h) hHeld (by rfl) ?_ ?_
      rotate_left
      · (intro w hSw; (try dsimp only at hSw); go_simp; try with_reducible rfl)
      try simp only [Act.put, List.setIfInBounds_toArray, List.set_cons_zero, List.set_cons_succ]
      refine tTake (i := 3) (v := ?_) rfl (by kernel_rfl) (by kernel_rfl) (by kernel_rfl) (by kernel_rfl) (fun _ _ _ h => h) hHeld (by rfl) ?_ ?_
      rotate_left
      · (intro w hSw; (try dsimp only at hSw); go_simp; try with_reducible rfl)
      try simp only [Act.put, List.setIfInBounds_toArray, List.set_cons_zero, List.set_cons_succ]
      refine tTake (i := 4) (v := ?_) rfl (by kernel_rfl) (by kernel_rfl) (by kernel_rfl) (by kernel_rfl) (fun _ _ _ h => h) hHeld (by rfl) ?_ ?_
      rotate_left
      · (intro w hSw; (try dsimp only at hSw); go_simp; try with_reducible rfl)
      try simp only [Act.put, List.setIfInBounds_toArray, List.set_cons_zero, List.set_cons_succ]
      refine tTake (i := 5) (v := ?_) rfl (by kernel_rfl) (by kernel_rfl) (by kernel_rfl) (by kernel_rfl) (fun _ _ _ h => h) hHeld (by rfl) ?_ ?_
      rotate_left
      · (intro w hSw; (try dsimp only at hSw); go_simp; try with_reducible rfl)
      try simp only [Act.put, List.setIfInBounds_toArray, List.set_cons_zero, List.set_cons_succ]
      refine tTake (i := 6) (v := ?_) rfl (by kernel_rfl) (by kernel_rfl) (by kernel_rfl) (by kernel_rfl) (fun _ _ _ h => h) hHeld (by rfl) ?_ ?_
      rotate_left
      · (intro w hSw; (try dsimp only at hSw); go_simp; try with_reducible rfl)
      try simp only [Act.put, List.setIfInBounds_toArray, List.set_cons_zero, List.set_cons_succ]
      refine tTake (i := 7) (v := ?_) rfl (by kernel_rfl) (by kernel_rfl) (by kernel_rfl) (by kernel_rfl) (fun _ _ _ h => h) hHeld (by rfl) ?_ ?_
      rotate_left
      · (intro w hSw; (try dsimp only at hSw); go_simp; try with_reducible rfl)
      try simp only [Act.put, List.setIfInBounds_toArray, List.set_cons_zero, List.set_cons_succ]
      refine tTake (i := 8) (v := ?_) rfl (by kernel_rfl) (by kernel_rfl) (by kernel_rfl) (by kernel_rfl) (fun _ _ _ h => h) hHeld (by rfl) ?_ ?_
      rotate_left
      · (intro w hSw; (try dsimp only at hSw); go_simp; try with_reducible rfl)
      try simp only [Act.put, List.setIfInBounds_toArray, List.set_cons_zero, List.set_cons_succ]
      refine tTake (i := 9) (v := ?_) rfl (by kernel_rfl) (by kernel_rfl) (by kernel_rfl) (by kernel_rfl) (fun _ _ _ h => h) hHeld (by rfl) ?_ ?_
      rotate_left
      · (intro w hSw; (try dsimp only at hSw); go_simp; try with_reducible rfl)
      try simp only [Act.put, List.setIfInBounds_toArray, List.set_cons_zero, List.set_cons_succ]
      refine tTake (i := 10) (v := ?_) rfl (by kernel_rfl) (by kernel_rfl) (by kernel_rfl) (by kernel_rfl) (fun _ _ _ h => h) hHeld (by rfl) ?_ ?_
      rotate_left
      · (intro w hSw; (try dsimp only at hSw); go_simp; try with_reducible rfl)
      try simp only [Act.put, List.setIfInBounds_toArray, List.set_cons_zero, List.set_cons_succ]
      refine tTake (i := 11) (v := ?_) rfl (by kernel_rfl) (by kernel_rfl) (by kernel_rfl) (by kernel_rfl) (fun _ _ _ h => h) hHeld (by rfl) ?_ ?_
      rotate_left
      · (intro w hSw; (try dsimp only at hSw); go_simp; try with_reducible rfl)
      try simp only [Act.put, List.setIfInBounds_toArray, List.set_cons_zero, List.set_cons_succ]
      refine tTake (i := 12) (v := ?_) rfl (by kernel_rfl) (by kernel_rfl) (by kernel_rfl) (by kernel_rfl) (fun _ _ _ h => h) hHeld (by rfl) ?_ ?_
      rotate_left
      · (intro w hSw; (try dsimp only at hSw); go_simp; try with_reducible rfl)
      try simp only [Act.put, List.setIfInBounds_toArray, List.set_cons_zero, List.set_cons_succ]
      refine tTake (i := 13) (v := ?_) rfl (by kernel_rfl) (by kernel_rfl) (by kernel_rfl) (by kernel_rfl) (fun _ _ _ h => h) hHeld (by rfl) ?_ ?_
      rotate_left
      · (intro w hSw; (try dsimp only at hSw); go_simp; try with_reducible rfl)
      try simp only [Act.put, List.setIfInBounds_toArray, List.set_cons_zero, List.set_cons_succ]
      refine tTake (i := 14) (v := ?_) rfl (by kernel_rfl) (by kernel_rfl) (by kernel_rfl) (by kernel_rfl) (fun _ _ _ h => h) hHeld (by rfl) ?_ ?_
      rotate_left
      · (intro w hSw; (try dsimp only at hSw); go_simp; try with_reducible rfl)
      try simp only [Act.put, List.setIfInBounds_toArray, List.set_cons_zero, List.set_cons_succ]
      refine tStep (i := 15) rfl (by kernel_rfl) (fun K hK => ?_)
      go_simp
      go_at_call 79
      refine (HFn.out wr.drew Hbw.out.drew).mono ?_
      rintro e w3 ⟨rfl, hb3⟩
      have hb3w : Below w.heap.size w w3 := Hbw.out.drew.trans (hb3.mono Hbw.out.size)
      have hHeldN : (fun W : World => W.cell? ⟨rb, 7, none⟩ = some (.slice (some ⟨g, 0, none⟩) nn cn) ∧ W.cell? ⟨g, i * 2, none⟩ = some (.slice x.A dl x.c) ∧ W.cell? ⟨rb, 9, none⟩ = some (.slice (some ⟨sb, so, none⟩) ln R.sc) ∧ W.cell? ⟨sb, so + kk * 2 + 1, none⟩ = some (.int .i64 (i : Int))) _ := HS.out w3 hb3w
      refine hK.out _ _ (fun _ => hHeldN) ?_
      clear hK K hHeld
      have hHeld := hHeldN
      clear hHeldN
      try simp only [Act.put, List.setIfInBounds_toArray, List.set_cons_zero, List.set_cons_succ]
      refine tTake (i := 16) (v := ?_) rfl (by kernel_rfl) (by kernel_rfl) (by kernel_rfl) (by kernel_rfl) (fun _ _ _ h => h) hHeld (by rfl) ?_ ?_
      rotate_left
      · (intro w hSw; (try dsimp only at hSw); go_simp; try with_reducible rfl)
      try simp only [Act.put, List.setIfInBounds_toArray, List.set_cons_zero, List.set_cons_succ]
      refine tTake (i := 17) (v := ?_) rfl (by kernel_rfl) (by kernel_rfl) (by kernel_rfl) (by kernel_rfl) (fun _ _ _ h => h) hHeld (by rfl) ?_ ?_
      rotate_left
      · (intro w hSw; (try dsimp only at hSw); go_simp; try with_reducible rfl)
      try simp only [Act.put, List.setIfInBounds_toArray, List.set_cons_zero, List.set_cons_succ]
      refine tTake (i := 18) (v := ?_) rfl (by kernel_rfl) (by kernel_rfl) (by kernel_rfl) (by kernel_rfl) (fun _ _ _ h => h) hHeld (by rfl) ?_ ?_
      rotate_left
      · (intro w hSw; (try dsimp only at hSw); go_simp; try with_reducible rfl)
      try simp only [Act.put, List.setIfInBounds_toArray, List.set_cons_zero, List.set_cons_succ]
      refine tTake (i := 19) (v := ?_) rfl (by kernel_rfl) (by kernel_rfl) (by kernel_rfl) (by kernel_rfl) (fun _ _ _ h => h) hHeld (by rfl) ?_ ?_
      rotate_left
      · (intro w hSw; (try dsimp only at hSw); go_simp; try with_reducible rfl)
      try simp only [Act.put, List.setIfInBounds_toArray, List.set_cons_zero, List.set_cons_succ]
      refine tTake (i := 20) (v := ?_) rfl (by kernel_rfl) (by kernel_rfl) (by kernel_rfl) (by kernel_rfl) (fun _ _ _ h => h) hHeld (by rfl) ?_ ?_
      rotate_left
      · (intro w hSw; (try dsimp only at hSw); go_simp; try with_reducible rfl)
      try simp only [Act.put, List.setIfInBounds_toArray, List.set_cons_zero, List.set_cons_succ]
      refine tTake (i := 21) (v := ?_) rfl (by kernel_rfl) (by kernel_rfl) (by kernel_rfl) (by kernel_rfl) (fun _ _ _ h => h) hHeld (by rfl) ?_ ?_
      rotate_left
      · (intro w hSw; (try dsimp only at hSw); go_simp; try with_reducible rfl)
      try simp only [Act.put, List.setIfInBounds_toArray, List.set_cons_zero, List.set_cons_succ]
      refine tStep (i := 22) rfl (by kernel_rfl) (fun K hK => ?_)
      go_simp
      go_at_call 80
      refine (HD.out w3 hb3w).mono ?_
      rintro e w4 ⟨A4, c4, rfl, hc4, ho4, hb4⟩
      have hb4w : Below w.heap.size w w4 := hb3w.trans (hb4.mono hb3w.size)
      have F4 : FlI 40 w2 w4 (.slice As FL.length cs) FL := (HF.out.keep ((Below.refl wr.heap.size wr).drew.trans hb3)).keep hb4
      have hHeldN : (fun W : World => W.cell? ⟨rb, 7, none⟩ = some (.slice (some ⟨g, 0, none⟩) nn cn) ∧ W.cell? ⟨g, i * 2, none⟩ = some (.slice x.A dl x.c) ∧ W.cell? ⟨rb, 9, none⟩ = some (.slice (some ⟨sb, so, none⟩) ln R.sc) ∧ W.cell? ⟨sb, so + kk * 2 + 1, none⟩ = some (.int .i64 (i : Int))) _ := HS.out w4 hb4w
      refine hK.out _ _ (fun _ => hHeldN) ?_
      clear hK K hHeld
      have hHeld := hHeldN
      clear hHeldN
      try simp only [Act.put, List.setIfInBounds_toArray, List.set_cons_zero, List.set_cons_succ]
      refine tTake (i := 23) (v := ?_) rfl (by kernel_rfl) (by kernel_rfl) (by kernel_rfl) (by kernel_rfl) (fun _ _ _ h => h) hHeld (by rfl) ?_ ?_
      rotate_left
      · (intro w hSw; (try dsimp only at hSw); go_simp; try with_reducible rfl)
      try simp only [Act.put, List.setIfInBounds_toArray, List.set_cons_zero, List.set_cons_succ]
      refine tStep (i := 24) rfl (by kernel_rfl) (fun K hK => ?_)
      go_simp
      have hb5w : Below w.heap.size w (w4.alloc (.cells #[.string ⟨nm.toArray⟩, .slice A4 dl c4] 40)) := hb4w.alloc hb4w.size _
      have F5 : FlI 40 w2 (w4.alloc (.cells #[.string ⟨nm.toArray⟩, .slice A4 dl c4] 40)) (.slice As FL.length cs) FL := F4.keep ((Below.refl w4.heap.size w4).alloc (Nat.le_refl _) _)
      have N5 := Bk.new_ w4 40 #[.string ⟨nm.toArray⟩, .slice A4 dl c4]
      have hHeldN : (fun W : World => W.cell? ⟨rb, 7, none⟩ = some (.slice (some ⟨g, 0, none⟩) nn cn) ∧ W.cell? ⟨g, i * 2, none⟩ = some (.slice x.A dl x.c) ∧ W.cell? ⟨rb, 9, none⟩ = some (.slice (some ⟨sb, so, none⟩) ln R.sc) ∧ W.cell? ⟨sb, so + kk * 2 + 1, none⟩ = some (.int .i64 (i : Int))) _ := HS.out _ hb5w
      refine hK.out _ _ (fun _ => hHeldN) ?_
      clear hK K hHeld
      have hHeld := hHeldN
      clear hHeldN
      try simp only [Act.put, List.setIfInBounds_toArray, List.set_cons_zero, List.set_cons_succ]
      refine tStep (i := 25) rfl (by kernel_rfl) (fun K hK => ?_)
      refine at_app (.tmp 17) (.tmp 41) ?_
      refine stepK_new rfl (.tmp 17) (.tmp 41) rfl slfl (by decide) rfl F5.own F5.bl.size rfl (news := [.string ⟨nm.toArray⟩, .slice A4 dl c4]) rfl (fun j u hu => by rw [Nat.zero_add]; exact (N5.cell j).trans (by simpa using hu)) (by intro u hu; simp only [List.mem_cons, List.not_mem_nil, or_false] at hu; rcases hu with rfl | rfl <;> rfl) (by have := HFl.out; omega) ?_
      intro v8 w8 ho8 hb8 hg8 hat8
      obtain ⟨A8, c8, rfl, hc8⟩ := ho8.shape
      have hb8b : Below w2.heap.size w2 w8 := F5.bl.trans hb8
      have hb8w : Below w.heap.size w w8 := hb2.trans (hb8b.mono hb2.size)
      have hHeldN : (fun W : World => W.cell? ⟨rb, 7, none⟩ = some (.slice (some ⟨g, 0, none⟩) nn cn) ∧ W.cell? ⟨g, i * 2, none⟩ = some (.slice x.A dl x.c) ∧ W.cell? ⟨rb, 9, none⟩ = some (.slice (some ⟨sb, so, none⟩) ln R.sc) ∧ W.cell? ⟨sb, so + kk * 2 + 1, none⟩ = some (.int .i64 (i : Int))) _ := HS.out w8 hb8w
      refine hK.out _ _ (fun _ => hHeldN) ?_
      clear hK K hHeld
      have hHeld := hHeldN
      clear hHeldN
      try simp only [Act.put, List.setIfInBounds_toArray, List.set_cons_zero, List.set_cons_succ]
      refine tStep (i := 26) rfl (by kernel_rfl) (fun K hK => ?_)
      go_simp
      have hHeldN : (fun W : World => W.cell? ⟨rb, 7, none⟩ = some (.slice (some ⟨g, 0, none⟩) nn cn) ∧ W.cell? ⟨g, i * 2, none⟩ = some (.slice x.A dl x.c) ∧ W.cell? ⟨rb, 9, none⟩ = some (.slice (some ⟨sb, so, none⟩) ln R.sc) ∧ W.cell? ⟨sb, so + kk * 2 + 1, none⟩ = some (.int .i64 (i : Int))) _ := hHeld
      refine hK.out _ _ (fun _ => hHeldN) ?_
      clear hK K hHeld
      have hHeld := hHeldN
      clear hHeldN
      try simp only [Act.put, List.setIfInBounds_toArray, List.set_cons_zero, List.set_cons_succ]
      refine tDone (by kernel_rfl) ?_ _
      have hx : (⟨nm, dt, A4, c4⟩ : FR).ok (fun b => w2.heap.size ≤ b ∧ b < (w4.alloc (.cells #[.string ⟨nm.toArray⟩, .slice A4 dl c4] 40)).heap.size ∧ (Value.slice As FL.length cs).ownBlock ≠ some b) (w4.alloc (.cells #[.string ⟨nm.toArray⟩, .slice A4 dl c4] 40)) := by
        unfold Lec.Own at ho4
        rw [bcs_length, HdL.out] at ho4
        have e1 := RdP.newB ho4
        have h34 : wr.heap.size ≤ w3.heap.size := hb3.size
        refine ⟨?_, by show dt.length ≤ c4; rw [← HdL.out]; exact hc4⟩
        refine RdP.below (w := w4) ⟨e1.rd, fun hn p hp => ?_⟩ ((Below.refl w4.heap.size w4).alloc (Nat.le_refl _) _)
        have h2 := e1.lie hn p hp
        refine ⟨by omega, by simp; omega, fun e => ?_⟩
        have h1 := (World.ownsRow.lt HF.out.own p.block e).2
        omega
      have F8 := F5.snoc hx (by show OwnK w8 _ _ 2 (.slice A8 (FL.length + 1) c8) _ (_ ++ [svl nm, .slice A4 dt.length c4]); rw [← HdL.out]; exact ho8) hg8 hat8 hb8b
      go_wp2
      go_roundw
      case rel =>
        refine ⟨k + 1, FL ++ [⟨nm, dt, A4, c4⟩], by omega, by go_num, ?_, F8⟩
        rw [List.map_append, Hfl.out, Htk.out, List.map_append, List.map_cons, List.map_nil, List.map_cons, List.map_nil, Hfo.out]; rfl
      case measure => simp [intOf]; omega
    · obtain rfl : k = ln := by omega
      obtain ⟨As, cs, rfl, hcs⟩ := hF.own.shape
      have hFl : FL.length = k := by have := congrArg List.length hfl; simpa [List.length_take, Hln.out] using this
      rw [hFl] at hF hcs ⊢
      rw [List.take_of_length_le (by rw [Hln.out]; exact Nat.le_refl _)] at hfl
      have hP := hF
      rw [← Hfe.out] at hfl
      rw [← Hsf.out] at hP hcs
      have hPP := Lib.hid (FlI.post hb2 hP hfl hcs)
      rw [Hsf.out] at hPP
      clear hfl hF hP hFl hcs
      go_wp2
      go_ret
      exact hPP.out
end Go.Proofs.YtaanmnplfppdeaaGreat
