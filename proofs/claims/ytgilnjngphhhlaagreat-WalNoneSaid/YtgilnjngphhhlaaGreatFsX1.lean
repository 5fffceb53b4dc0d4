/- Layer 1: a file is renamed: the walk of Rename. -/
import Derived.Test.YtgilnjngphhhlaaGreatFsR
namespace Go.Proofs.YtgilnjngphhhlaaGreat
open Go.RowKit Go.Lec Go.Fsy Go.Op Go.Maps
end Go.Proofs.YtgilnjngphhhlaaGreat
/- Layer 1: a file is cut: the walk of Cut. -/
namespace Go.Proofs.YtgilnjngphhhlaaGreat
open Go.RowKit Go.Lec Go.Fsy Go.Op Go.Maps
theorem FsG.did {X I : Nat → Prop} {w w' : World} {fb i : Nat} {s : St} {G : Geo} {nd : Nd} {e : Ending} (h : FsG X I w fb s G) (hal : alive s i) (hil : i < s.nodes.length) (hD : DoP X I w (G.fid i) (G.lv i) nd e w') : ∃ X' I', FsP X' I' w' fb (setNd s i nd) ∧ Grow X I w X' I' w' := by
  obtain ⟨_, lv', hf, hat, hk⟩ := hD
  exact fs_setNd h hal hil hf (hat.imp_right (fun ⟨g, e, hg⟩ g' e' => by rw [e] at e'; cases e'; exact hg)) hk
set_option maxRecDepth 100000 in
set_option maxHeartbeats 1600000 in
theorem c_Cut (w : World) {X I : Nat → Prop} {fb N : Nat} {s : St} {name : Bs} {k : Int} (h : FsP X I w fb s) (hi : Fsy.Inv s N) (hN : N ≤ 1048575) (hp : s.pl.ok) (hn : name.length ≤ 4294967296) (hk1 : -9223372036854775808 ≤ k) (hk2 : k ≤ 9223372036854775807) :
    Calls Tryz.prog 22 #[ptrV fb, .string ⟨name.toArray⟩, .int .i64 k] w (UpdP X I w fb (Fsy.cutF s name k)) := by
  have HO := Lib.hid (c_op w h hi hN hp)
  unfold OpP at HO
  have hbi := hi.begin
  obtain ⟨b, hb⟩ : ∃ x, x = Fsy.begin s := ⟨_, rfl⟩
  have hsd : Fsy.cutF s name k = if b.2 ≠ 0 then b else match node b.1.dir name with | none => (b.1, 14) | some i => if k < 0 ∨ (sizeAt b.1 i : Int) < k then (b.1, 1) else if k < (sizeAt b.1 i : Int) then (change b.1 i (.cut k.toNat), 0) else (b.1, 0) := by rw [hb]; rfl
  rw [← hb] at HO hbi
  rw [hsd]
  clear hsd hb h hi hp
  unfold ptrV at *
  by_cases hc : b.2 = 0
  · rw [if_neg (by simpa using hc)]
    rw [hc] at HO
    have HLK := Lib.hid (fun (W : World) (X1 I1 : Nat → Prop) (G : Geo) (hG : FsG X1 I1 W fb b.1 G) => look_ok hG.dmap hG.rep1 hn)
    cases hnd : node b.1.dir name with
    | none =>
      rw [hnd] at HLK
      clear hc
      go_enter Tryz.func22, Tryz.ntmps22
      go_wp2_with (first | (go_at_call 38; refine HO.out.mono ?_; rintro e w1 ⟨n, rfl, hn1, X1, I1, ⟨G, hG⟩, hg1⟩; have c8 : w1.cell? ⟨fb, 8, none⟩ = some (.map (some G.dm)) := hG.bk.cell 8; have hlk := HLK.out w1 X1 I1 G hG))
      go_ret
      exact ⟨rfl, X1, I1, ⟨G, hG⟩, hg1⟩
    | some i =>
      rw [hnd] at HLK
      have hal : alive b.1 i := .inl ⟨_, node_some hnd⟩
      have hil := (hbi.dir.2 _ (node_some hnd)).2.2
      have hsz := hbi.size i
      have hch := (hbi.nd i).2
      show Calls _ _ _ _ (UpdP X I w fb (if k < 0 ∨ (sizeAt b.1 i : Int) < k then (b.1, 1) else if k < (sizeAt b.1 i : Int) then (change b.1 i (.cut k.toNat), 0) else (b.1, 0)))
      obtain ⟨z, hz⟩ : ∃ z, z = sizeAt b.1 i := ⟨_, rfl⟩
      rw [← hz] at hsz ⊢
      have Hz := Lib.hid (show z = (ndAt b.1.nodes i).data.length from hz)
      clear hc hz
      unfold ptrV at *
      have HB := Lib.hid (fun (W : World) (X1 I1 : Nat → Prop) (G : Geo) (hG : FsG X1 I1 W fb b.1 G) => show ∃ A1 c1 A3 c3, Bk W (G.fid i) 89 #[.slice A1 (ndAt b.1.nodes i).safe.length c1, G.lv i, .slice A3 z c3] by
        obtain ⟨A1, c1, A3, c3, vs, hB, _⟩ := (hG.files i hal).ex
        rw [Hz.out]; exact ⟨A1, c1, A3, c3, hB⟩)
      by_cases k0 : k < 0
      · rw [if_pos (.inl k0)]
        go_enter Tryz.func22, Tryz.ntmps22
        go_wp2_with (first | (go_at_call 38; refine HO.out.mono ?_; rintro e w1 ⟨n, rfl, hn1, X1, I1, ⟨G, hG⟩, hg1⟩; have c8 : w1.cell? ⟨fb, 8, none⟩ = some (.map (some G.dm)) := hG.bk.cell 8; have hlk := HLK.out w1 X1 I1 G hG; obtain ⟨A1, c1, A3, c3, hB⟩ := HB.out w1 X1 I1 G hG; have qf := hB.cell))
        go_ret
        exact ⟨rfl, X1, I1, ⟨G, hG⟩, hg1⟩
      · by_cases kz : (z : Int) < k
        · rw [if_pos (.inr kz)]
          go_enter Tryz.func22, Tryz.ntmps22
          go_wp2_with (first | (go_at_call 38; refine HO.out.mono ?_; rintro e w1 ⟨n, rfl, hn1, X1, I1, ⟨G, hG⟩, hg1⟩; have c8 : w1.cell? ⟨fb, 8, none⟩ = some (.map (some G.dm)) := hG.bk.cell 8; have hlk := HLK.out w1 X1 I1 G hG; obtain ⟨A1, c1, A3, c3, hB⟩ := HB.out w1 X1 I1 G hG; have qf := hB.cell))
          go_ret
          exact ⟨rfl, X1, I1, ⟨G, hG⟩, hg1⟩
        · rw [if_neg (by omega)]
          obtain ⟨m, rfl⟩ : ∃ m : Nat, k = (m : Int) := ⟨k.toNat, by omega⟩
          by_cases kl : (m : Int) < (z : Int)
          · rw [if_pos kl]
            have HDo := Lib.hid (fun (W : World) (X1 I1 : Nat → Prop) (G : Geo) (hG : FsG X1 I1 W fb b.1 G) => c_fileDo_cut W (k := m) (hG.files i hal) hG.xi (fun b hb => hG.lt b (.inr hb)) (by have := Hz.out; omega) (by have := Hz.out; omega) (by omega))
            go_enter Tryz.func22, Tryz.ntmps22
            go_wp2_with (first | (go_at_call 38; refine HO.out.mono ?_; rintro e w1 ⟨n, rfl, hn1, X1, I1, ⟨G, hG⟩, hg1⟩; have c8 : w1.cell? ⟨fb, 8, none⟩ = some (.map (some G.dm)) := hG.bk.cell 8; have hlk := HLK.out w1 X1 I1 G hG; obtain ⟨A1, c1, A3, c3, hB⟩ := HB.out w1 X1 I1 G hG; have qf := hB.cell; have HD := Lib.hid (HDo.out w1 X1 I1 G hG)) | (go_at_call 39; refine HD.out.mono ?_; rintro e w4 hD4; obtain rfl := hD4.1))
            go_ret
            obtain ⟨X2, I2, hP2, hg2⟩ := hG.did hal hil hD4
            exact ⟨rfl, X2, I2, hP2, hg1.trans hg2⟩
          · rw [if_neg kl]
            go_enter Tryz.func22, Tryz.ntmps22
            go_wp2_with (first | (go_at_call 38; refine HO.out.mono ?_; rintro e w1 ⟨n, rfl, hn1, X1, I1, ⟨G, hG⟩, hg1⟩; have c8 : w1.cell? ⟨fb, 8, none⟩ = some (.map (some G.dm)) := hG.bk.cell 8; have hlk := HLK.out w1 X1 I1 G hG; obtain ⟨A1, c1, A3, c3, hB⟩ := HB.out w1 X1 I1 G hG; have qf := hB.cell))
            go_ret
            exact ⟨rfl, X1, I1, ⟨G, hG⟩, hg1⟩
  · rw [if_pos hc]
    obtain ⟨st, cd⟩ := b
    simp only at hc HO
    have hcd : (cd == 0) = false := by rw [beq_eq_false_iff_ne]; exact hc
    go_enter Tryz.func22, Tryz.ntmps22
    go_wp2_with (first | (go_at_call 38; refine HO.out.mono ?_; rintro e w1 ⟨n, rfl, hn1, X1, I1, hP1, hg1⟩))
    go_ret
    exact ⟨rfl, X1, I1, hP1, hg1⟩
end Go.Proofs.YtgilnjngphhhlaaGreat
/- Layer 1: bytes are appended to a file: the walk of Append. -/
namespace Go.Proofs.YtgilnjngphhhlaaGreat
open Go.RowKit Go.Lec Go.Fsy Go.Op Go.Maps
/-- More may be read. -/
theorem FsG.wide {X I I' : Nat → Prop} {w : World} {fb : Nat} {s : St} {G : Geo} (h : FsG X I w fb s G) (hI : ∀ b, I b → I' b) (hx : ∀ b, I' b → ¬ X b) (hl : ∀ b, I' b → b < w.heap.size) : FsG X I' w fb s G :=
  ⟨h.bk, h.rk.more hI, h.rf.more hI, h.ru.more hI, h.nk, h.nf, h.nu, h.dmap, h.smap, h.rep1, h.rep2, h.mvs, fun i hi => (h.files i hi).more (fun _b hb => hb) hI, h.inj, h.injl, h.ne, h.xfb, h.xdm, h.xsm, h.xmv, hx, fun b hb => hb.elim (fun h1 => h.lt b (.inl h1)) (hl b)⟩
set_option maxRecDepth 100000 in
set_option maxHeartbeats 1600000 in
theorem c_Append (w : World) {X I J : Nat → Prop} {fb N d : Nat} {s : St} {name bs : Bs} {B : Option Addr} (h : FsP X I w fb s) (hi : Fsy.Inv s N) (hN : N ≤ 1048575) (hp : s.pl.ok) (hn : name.length ≤ 4294967296) (hb : RdP J w B bs.length (bcs bs)) (hJ : ∀ q, J q → ¬ X q) (hbd : bs.length ≤ d) (hbl : bs.length ≤ 1099511627776) :
    Calls Tryz.prog 23 #[ptrV fb, .string ⟨name.toArray⟩, .slice B bs.length d] w (UpdP X I w fb (Fsy.append s name bs)) := by
  have HO := Lib.hid (c_op w h hi hN hp)
  unfold OpP at HO
  have hbi := hi.begin
  have hp1 := begin_pl s
  obtain ⟨b, hbE⟩ : ∃ x, x = Fsy.begin s := ⟨_, rfl⟩
  have hsd : Fsy.append s name bs = if b.2 ≠ 0 then b else match node b.1.dir name with | none => (b.1, 14) | some i => if 268435456 < sizeAt b.1 i + bs.length then (b.1, 2) else if noRoom b.1 bs.length then (b.1, 11) else if bs.length = 0 then (b.1, 0) else (change b.1 i (.add bs), 0) := by rw [hbE]; rfl
  rw [← hbE] at HO hbi hp1
  rw [← hp1] at hp
  rw [hsd]
  clear hsd hbE h hi hp1
  unfold ptrV at *
  by_cases hc : b.2 = 0
  · rw [if_neg (by simpa using hc)]
    rw [hc] at HO
    have HLK := Lib.hid (fun (W : World) (X1 I1 : Nat → Prop) (G : Geo) (hG : FsG X1 I1 W fb b.1 G) => look_ok hG.dmap hG.rep1 hn)
    cases hnd : node b.1.dir name with
    | none =>
      rw [hnd] at HLK
      clear hc
      go_enter Tryz.func23, Tryz.ntmps23
      go_wp2_with (first | (go_at_call 38; refine HO.out.mono ?_; rintro e w1 ⟨n, rfl, hn1, X1, I1, ⟨G, hG⟩, hg1⟩; have hn1 := hn1 rfl; subst hn1; have c8 : w1.cell? ⟨fb, 8, none⟩ = some (.map (some G.dm)) := hG.bk.cell 8; have hlk := HLK.out w1 X1 I1 G hG))
      go_ret
      exact ⟨rfl, X1, I1, ⟨G, hG⟩, hg1⟩
    | some i =>
      rw [hnd] at HLK
      have hal : alive b.1 i := .inl ⟨_, node_some hnd⟩
      have hil := (hbi.dir.2 _ (node_some hnd)).2.2
      have hsz := hbi.size i
      have hch := (hbi.nd i).2
      show Calls _ _ _ _ (UpdP X I w fb (if 268435456 < sizeAt b.1 i + bs.length then (b.1, 2) else if noRoom b.1 bs.length then (b.1, 11) else if bs.length = 0 then (b.1, 0) else (change b.1 i (.add bs), 0)))
      obtain ⟨z, hz⟩ : ∃ z, z = sizeAt b.1 i := ⟨_, rfl⟩
      rw [← hz] at hsz ⊢
      have Hz := Lib.hid (show z = (ndAt b.1.nodes i).data.length from hz)
      obtain ⟨bl, hbL⟩ : ∃ x, x = bs.length := ⟨_, rfl⟩
      obtain ⟨nr, hnr⟩ : ∃ x, x = noRoom b.1 bs.length := ⟨_, rfl⟩
      have HFu := Lib.hid (fun (W : World) (X1 I1 : Nat → Prop) (G : Geo) (hG : FsG X1 I1 W fb b.1 G) => c_full W ⟨G, hG⟩ hbi (by omega) hp bs.length hbl)
      unfold ptrV at HFu
      rw [← hnr] at HFu ⊢
      rw [← hbL] at HFu hb hbd hbl ⊢
      have HbL := Lib.hid hbL
      clear hc hz hnr hbL
      unfold ptrV at *
      have HB := Lib.hid (fun (W : World) (X1 I1 : Nat → Prop) (G : Geo) (hG : FsG X1 I1 W fb b.1 G) => show ∃ A1 c1 A3 c3, Bk W (G.fid i) 89 #[.slice A1 (ndAt b.1.nodes i).safe.length c1, G.lv i, .slice A3 z c3] by
        obtain ⟨A1, c1, A3, c3, vs, hB, _⟩ := (hG.files i hal).ex
        rw [Hz.out]; exact ⟨A1, c1, A3, c3, hB⟩)
      by_cases k0 : 268435456 < z + bl
      · rw [if_pos k0]
        have k0' : (268435456 : Int) - (z : Int) < (bl : Int) := by omega
        go_enter Tryz.func23, Tryz.ntmps23
        go_wp2_with (first | (go_at_call 38; refine HO.out.mono ?_; rintro e w1 ⟨n, rfl, hn1, X1, I1, ⟨G, hG⟩, hg1⟩; have hn1 := hn1 rfl; subst hn1; have c8 : w1.cell? ⟨fb, 8, none⟩ = some (.map (some G.dm)) := hG.bk.cell 8; have hlk := HLK.out w1 X1 I1 G hG; obtain ⟨A1, c1, A3, c3, hB⟩ := HB.out w1 X1 I1 G hG; have qf := hB.cell; have HF := Lib.hid (HFu.out w1 X1 I1 G hG)))
        go_ret
        exact ⟨rfl, X1, I1, ⟨G, hG⟩, hg1⟩
      · rw [if_neg k0]
        have k0' : ¬ (268435456 : Int) - (z : Int) < (bl : Int) := by omega
        cases nr with
        | true =>
          rw [if_pos rfl]
          go_enter Tryz.func23, Tryz.ntmps23
          go_wp2_with (first | (go_at_call 38; refine HO.out.mono ?_; rintro e w1 ⟨n, rfl, hn1, X1, I1, ⟨G, hG⟩, hg1⟩; have hn1 := hn1 rfl; subst hn1; have c8 : w1.cell? ⟨fb, 8, none⟩ = some (.map (some G.dm)) := hG.bk.cell 8; have hlk := HLK.out w1 X1 I1 G hG; obtain ⟨A1, c1, A3, c3, hB⟩ := HB.out w1 X1 I1 G hG; have qf := hB.cell; have HF := Lib.hid (HFu.out w1 X1 I1 G hG)) | (go_at_call 40; refine HF.out.mono ?_; rintro e w2 ⟨rfl, hb2⟩))
          go_ret
          exact ⟨rfl, X1, I1, ⟨G, hG.below hb2⟩, hg1.trans (Grow.of_kb (KbP.of_below hb2))⟩
        | false =>
          rw [if_neg (by decide)]
          by_cases kb : bl = 0
          · rw [if_pos kb]
            have kb' : ¬ (0 : Int) < (bl : Int) := by omega
            clear kb
            go_enter Tryz.func23, Tryz.ntmps23
            go_wp2_with (first | (go_at_call 38; refine HO.out.mono ?_; rintro e w1 ⟨n, rfl, hn1, X1, I1, ⟨G, hG⟩, hg1⟩; have hn1 := hn1 rfl; subst hn1; have c8 : w1.cell? ⟨fb, 8, none⟩ = some (.map (some G.dm)) := hG.bk.cell 8; have hlk := HLK.out w1 X1 I1 G hG; obtain ⟨A1, c1, A3, c3, hB⟩ := HB.out w1 X1 I1 G hG; have qf := hB.cell; have HF := Lib.hid (HFu.out w1 X1 I1 G hG)) | (go_at_call 40; refine HF.out.mono ?_; rintro e w2 ⟨rfl, hb2⟩))
            go_ret
            exact ⟨rfl, X1, I1, ⟨G, hG.below hb2⟩, hg1.trans (Grow.of_kb (KbP.of_below hb2))⟩
          · rw [if_neg kb]
            have kb' : (0 : Int) < (bl : Int) := by omega
            clear kb
            have hbI := hb
            have HRb := Lib.hid (fun (W : World) (hk : KbP X w W) => hb.kbP hk hJ)
            have HbC := Lib.hid (fun (W1 W : World) (hk : KbP X w W1) (h2 : Below W1.heap.size W1 W) => c_CloneB W (c := d) (((HRb.out W1 hk).rd.below h2 (Nat.le_refl _)).more h2.size) (Nat.le_refl _) hbl)
            have HDo := Lib.hid (fun (W2 W3 : World) (X1 I1 : Nat → Prop) (G : Geo) (A4 : Option Addr) (c4 : Nat) (hG : FsG X1 I1 W2 fb b.1 G) (hR4 : RdP (fun q => W2.heap.size ≤ q) W3 A4 bl (bcs bs)) (hc4 : bl ≤ c4) (hb3 : Below W2.heap.size W2 W3) => show FsG X1 (fun q => I1 q ∨ (W2.heap.size ≤ q ∧ q < W3.heap.size)) W3 fb b.1 G ∧ Calls Tryz.prog 39 #[.pointer (some ⟨G.fid i, 0, none⟩), .iface 95 (.agg #[.slice A4 bl c4])] W3 (DoP X1 (fun q => I1 q ∨ (W2.heap.size ≤ q ∧ q < W3.heap.size)) W3 (G.fid i) (G.lv i) ⟨(ndAt b.1.nodes i).safe, (ndAt b.1.nodes i).chg ++ [.add bs]⟩) by
              have hG3 := (hG.below hb3).wide (I' := fun q => I1 q ∨ (W2.heap.size ≤ q ∧ q < W3.heap.size)) (fun q => .inl) (by
                rintro q (h | h) hx
                · exact hG.xi q h hx
                · have := hG.lt q (.inl hx); omega) (by
                rintro q (h | h)
                · exact Nat.lt_of_lt_of_le (hG.lt q (.inr h)) hb3.size
                · exact h.2)
              refine ⟨hG3, ?_⟩
              have hR : RdP (fun q => I1 q ∨ (W2.heap.size ≤ q ∧ q < W3.heap.size)) W3 A4 bl (bcs bs) := ⟨hR4.rd, fun h p hp => .inr ⟨hR4.lie h p hp, hR4.lt h p hp⟩⟩
              have e1 := Hz.out
              rw [HbL.out] at hR hc4 k0 ⊢
              exact c_fileDo_add W3 (hG3.files i hal) hG3.xi (fun q hq => hG3.lt q (.inr hq)) hR hc4 (by omega) (by omega))
            clear hb hbI
            go_enter Tryz.func23, Tryz.ntmps23
            go_wp2_with (first | (go_at_call 38; refine HO.out.mono ?_; rintro e w1 ⟨n, rfl, hn1, X1, I1, ⟨G, hG⟩, hg1⟩; have hn1 := hn1 rfl; subst hn1; have c8 : w1.cell? ⟨fb, 8, none⟩ = some (.map (some G.dm)) := hG.bk.cell 8; have hlk := HLK.out w1 X1 I1 G hG; obtain ⟨A1, c1, A3, c3, hB⟩ := HB.out w1 X1 I1 G hG; have qf := hB.cell; have HF := Lib.hid (HFu.out w1 X1 I1 G hG)) | (go_at_call 40; refine HF.out.mono ?_; rintro e w2 ⟨rfl, hb2⟩) | (go_at_call 25; refine (HbC.out w1 w2 hg1.kb hb2).mono ?_; rintro e w3 ⟨A4, c4, rfl, hc4, hR4, hb3⟩; obtain ⟨hG3, HD⟩ := HDo.out w2 w3 X1 I1 G A4 c4 (hG.below hb2) hR4 hc4 hb3; have HD := Lib.hid HD) | (go_at_call 39; refine HD.out.mono ?_; rintro e w4 hD4; obtain rfl := hD4.1))
            go_ret
            obtain ⟨X2, I2, hP2, hg2⟩ := hG3.did hal hil hD4
            exact ⟨rfl, X2, I2, hP2, ((hg1.trans (Grow.of_kb (KbP.of_below hb2))).trans ⟨fun q hq => .inl hq, fun q hq => hq.imp_right (fun e => e.1), KbP.of_below hb3⟩).trans hg2⟩
  · rw [if_pos hc]
    obtain ⟨st, cd⟩ := b
    simp only at hc HO
    have hcd : (cd == 0) = false := by rw [beq_eq_false_iff_ne]; exact hc
    go_enter Tryz.func23, Tryz.ntmps23
    go_wp2_with (first | (go_at_call 38; refine HO.out.mono ?_; rintro e w1 ⟨n, rfl, hn1, X1, I1, hP1, hg1⟩))
    go_ret
    exact ⟨rfl, X1, I1, hP1, hg1⟩
end Go.Proofs.YtgilnjngphhhlaaGreat
/- Layer 1: a file is made: the walk of Create. -/
namespace Go.Proofs.YtgilnjngphhhlaaGreat
open Go.RowKit Go.Lec Go.Fsy Go.Op Go.Maps
/-- A new file lies in block nb. -/
def joinG (G : Geo) (n nb : Nat) : Geo := { G with fid := fun j => if j = n then nb else G.fid j, lv := fun j => if j = n then .slice none 0 0 else G.lv j }
theorem mvCs_join {G : Geo} {n nb : Nat} {m : Mv} (h : ∀ i, m.nd = some i → i ≠ n) : mvCs (joinG G n nb).fid m = mvCs G.fid m := by
  cases m with
  | made a i => simp [mvCs, joinG, h i rfl]
  | ren a b i => simp [mvCs, joinG, h i rfl]
  | rem a => rfl
theorem FsG.joined {X I : Nat → Prop} {w w1 w' : World} {fb nb : Nat} {s : St} {G : Geo} {n : Bs} {e : Ending} (h : FsG X I w fb s G) (hinv : ∀ i, alive s i → i < s.nodes.length) (hb1 : Below w.heap.size w w1)
    (hB : Bk w1 nb 89 #[.slice none 0 0, .slice none 0 0, .slice none 0 0]) (hnb : w.heap.size ≤ nb) (hS : StepP w1 fb (Fsy.fresh s) (joinG G s.nodes.length nb) (.made n s.nodes.length) e w') :
    ∃ X', FsP X' I w' fb (Fsy.step (Fsy.fresh s) (.made n s.nodes.length)) ∧ Grow X I w X' I w' := by
  obtain ⟨_, D, mv, hBf, hm, hr, ho, hat, hk⟩ := hS
  have h1 := h.below hb1
  have hal : ∀ i, alive (Fsy.step (Fsy.fresh s) (.made n s.nodes.length)) i → alive s i ∨ i = s.nodes.length := fun i hi => (alive_step hi).imp id (fun e => (Option.some.inj e).symm)
  have hYX : ∀ b, (b = fb ∨ b = G.dm ∨ G.mv.ownBlock = some b) → X b := by
    rintro b (rfl | rfl | hb)
    · exact h.xfb
    · exact h.xdm
    · exact h.xmv b hb
  have hI : ∀ b, I b → ¬ (b = fb ∨ b = G.dm ∨ G.mv.ownBlock = some b) := fun b hb e => h.xi b hb (hYX b e)
  have hmv : ∀ b, mv.ownBlock = some b → X b ∨ w.heap.size ≤ b := fun b hb => by
    rcases hat with e | ⟨g, e, hg⟩
    · exact .inl (h.xmv b (e ▸ hb))
    · rw [e] at hb; cases hb; exact .inr (Nat.le_trans hb1.size hg)
  have hnY : ¬ (nb = fb ∨ nb = G.dm ∨ G.mv.ownBlock = some nb) := fun e => by have := h.lt _ (.inl (hYX _ e)); omega
  have hnb' : nb < w1.heap.size := hB.lt
  have hs1 := hb1.size
  have hs2 := hk.size
  have hnd : ∀ i, i < s.nodes.length → ndAt (Fsy.fresh s).nodes i = ndAt s.nodes i := fun i hi => by simp [ndAt, Fsy.fresh, List.getD_eq_getElem?_getD, List.getElem?_append_left hi]
  have hndn : ndAt (Fsy.fresh s).nodes s.nodes.length = ⟨[], []⟩ := by simp [ndAt, Fsy.fresh, List.getD_eq_getElem?_getD]
  have hold : ∀ i, alive s i → FileOk (fun b => X b ∨ mv.ownBlock = some b ∨ b = nb) I w' (G.fid i) (G.lv i) (ndAt s.nodes i) := fun i hi => by
    have hf := h1.files i hi
    obtain ⟨vs, hO⟩ := hf.own
    obtain ⟨cs, hBf⟩ := hf.bk
    refine (hf.kbP hk ?_ ?_ hI).more (fun b => .inl) (fun b hb => hb)
    · rintro (e | e | e)
      · exact bk_ne h1.bk hBf (by decide) e.symm
      · exact bk_map hBf h1.dmap e
      · exact own_bkK h1.mvs hBf (by decide) e
    · rintro g hg (e | e | e)
      · exact own_bkK hO h1.bk (by decide) (e ▸ hg)
      · exact own_map hO h1.dmap (e ▸ hg)
      · exact own_own h1.mvs hO (by decide) g e hg
  have hfl : ∀ i, alive s i → G.fid i < w.heap.size := fun i hi => h.lt _ (.inl (h.files i hi).xf)
  have hne : ∀ i, alive s i → i ≠ s.nodes.length := fun i hi => Nat.ne_of_lt (hinv i hi)
  refine ⟨fun b => X b ∨ mv.ownBlock = some b ∨ b = nb, ⟨{ joinG G s.nodes.length nb with D1 := D, mv := mv }, ⟨hBf, h1.rk.kbP hk hI, h1.rf.kbP hk hI, h1.ru.kbP hk hI, h.nk, h.nf, h.nu, hm, ownsMap_kbP h1.smap hk ?_, hr, ?_, ?_, fun i hi => ?_, fun i j hi hj he => ?_, fun i j g hi hj hgi hgj => ?_, h.ne, .inl h.xfb, .inl h.xdm, .inl h.xsm, fun g hg => .inr (.inl hg), ?_, ?_⟩⟩, ⟨fun b hb => ?_, fun b hb => .inl hb, ((KbP.of_below hb1 : KbP X w w1)).trans (hk.more hYX) (fun b hb => .inl hb)⟩⟩
  · rintro (e | e | e)
    · exact bk_map h.bk h.smap e.symm
    · exact h.ne e.symm
    · exact own_map h.mvs h.smap e
  · exact h.rep2.fids (fun p hp => by
      have : p.2 ≠ s.nodes.length := hne _ (.inr (.inl ⟨_, hp⟩))
      simp [joinG, this])
  · have hl : (Fsy.step (Fsy.fresh s) (.made n s.nodes.length)).mvs.length = s.mvs.length + 1 := by simp [Fsy.step, Fsy.fresh]
    rw [hl]; exact ho
  · rcases hal i hi with ha | rfl
    · have e1 : ({ joinG G s.nodes.length nb with D1 := D, mv := mv } : Geo).fid i = G.fid i := if_neg (hne i ha)
      have e2 : ({ joinG G s.nodes.length nb with D1 := D, mv := mv } : Geo).lv i = G.lv i := if_neg (hne i ha)
      rw [e1, e2]
      show FileOk _ _ _ _ _ (ndAt (Fsy.fresh s).nodes i)
      rw [hnd i (hinv i ha)]
      exact hold i ha
    · have e1 : ({ joinG G s.nodes.length nb with D1 := D, mv := mv } : Geo).fid s.nodes.length = nb := if_pos rfl
      have e2 : ({ joinG G s.nodes.length nb with D1 := D, mv := mv } : Geo).lv s.nodes.length = .slice none 0 0 := if_pos rfl
      rw [e1, e2]
      show FileOk _ _ _ _ _ (ndAt (Fsy.fresh s).nodes s.nodes.length)
      rw [hndn]
      exact ⟨⟨none, 0, none, 0, [], hB.kbP hk hnY, RdP.nil_, Nat.le_refl _, RdP.nil_, Nat.le_refl _, OwnK.nil_ _ _ _ _, ⟨rfl, fun k v c hv => by cases hv⟩⟩, .inr (.inr rfl), fun g hg => by cases hg⟩
  · change (if i = s.nodes.length then nb else G.fid i) = (if j = s.nodes.length then nb else G.fid j) at he
    rcases hal i hi with ha | rfl
    · rw [if_neg (hne i ha)] at he
      rcases hal j hj with hb | rfl
      · rw [if_neg (hne j hb)] at he
        exact h.inj i j ha hb he
      · rw [if_pos rfl] at he
        have := hfl i ha; omega
    · rw [if_pos rfl] at he
      rcases hal j hj with hb | rfl
      · rw [if_neg (hne j hb)] at he
        have := hfl j hb; omega
      · rfl
  · change (if i = s.nodes.length then Value.slice none 0 0 else G.lv i).ownBlock = some g at hgi
    change (if j = s.nodes.length then Value.slice none 0 0 else G.lv j).ownBlock = some g at hgj
    rcases hal i hi with ha | rfl
    · rw [if_neg (hne i ha)] at hgi
      rcases hal j hj with hb | rfl
      · rw [if_neg (hne j hb)] at hgj
        exact h.injl i j g ha hb hgi hgj
      · rw [if_pos rfl] at hgj; cases hgj
    · rw [if_pos rfl] at hgi; cases hgi
  · rintro b hb (hx | hx | hx)
    · exact h.xi b hb hx
    · rcases hmv b hx with e | e
      · exact h.xi b hb e
      · have := h.lt b (.inr hb); omega
    · have := h.lt b (.inr hb); omega
  · rintro b ((hb | hb | hb) | hb)
    · have := h.lt b (.inl hb); omega
    · exact (World.ownsRow.lt ho b hb).2
    · omega
    · have := h.lt b (.inr hb); omega
  · rcases hb with hb | hb | hb
    · exact .inl hb
    · exact hmv b hb
    · exact .inr (by omega)
set_option maxRecDepth 100000 in
set_option maxHeartbeats 1600000 in
theorem c_Create (w : World) {X I : Nat → Prop} {fb N : Nat} {s : St} {name : Bs} (h : FsP X I w fb s) (hi : Fsy.Inv s N) (hN : N ≤ 1048575) (hp : s.pl.ok) (hn : name.length ≤ 4294967296) :
    Calls Tryz.prog 27 #[ptrV fb, .string ⟨name.toArray⟩] w (UpdP X I w fb (Fsy.create s name)) := by
  have HO := Lib.hid (c_op w h hi hN hp)
  unfold OpP at HO
  have hbi := hi.begin
  have hpl := begin_pl s
  obtain ⟨b, hb⟩ : ∃ x, x = Fsy.begin s := ⟨_, rfl⟩
  have hsd : Fsy.create s name = if b.2 ≠ 0 then b else if may name = false then (b.1, 15) else if (node b.1.dir name).isSome then (b.1, 13) else if 4096 ≤ b.1.dir.length then (b.1, 2) else if Fsy.full b.1 then (b.1, 11) else (Fsy.step (Fsy.fresh b.1) (.made name b.1.nodes.length), 0) := by rw [hb]; rfl
  rw [← hb] at HO hbi hpl
  rw [← hpl] at hp
  rw [hsd]
  clear hsd hb h hi hpl
  have HM := Lib.hid (fun W => c_may W name hn)
  unfold ptrV at *
  by_cases hc : b.2 = 0
  · rw [if_neg (by simpa using hc)]
    rw [hc] at HO
    clear hc
    have HLK := Lib.hid (fun (W : World) (X1 I1 : Nat → Prop) (G : Geo) (hG : FsG X1 I1 W fb b.1 G) => look_ok hG.dmap hG.rep1 hn)
    obtain ⟨mc, hmc⟩ : ∃ x, x = may name := ⟨_, rfl⟩
    rw [← hmc] at HM ⊢
    obtain ⟨nd, hnd⟩ : ∃ x, x = node b.1.dir name := ⟨_, rfl⟩
    rw [← hnd] at HLK ⊢
    have HV := Lib.hid (show ∀ (W : World) (X1 I1 : Nat → Prop) (G : Geo) (hG : FsG X1 I1 W fb b.1 G), ∃ v : Value, ∃ iS : Bool, iS = nd.isSome ∧ (Instr.lookup 66 (.map (some G.dm)) (.string ⟨name.toArray⟩) true).run Tryz.prog W = .ok (.tuple #[v, .bool iS]) W from fun W X1 I1 G hG => by
      have := HLK.out W X1 I1 G hG
      cases nd with
      | none => exact ⟨_, false, rfl, this⟩
      | some i => exact ⟨_, true, rfl, this⟩)
    cases mc with
    | false =>
      rw [if_pos rfl]
      clear hmc hnd HLK
      go_enter Tryz.func27, Tryz.ntmps27
      go_wp2_with (first | (go_at_call 38; refine HO.out.mono ?_; rintro e w1 ⟨n, rfl, hn1, X1, I1, ⟨G, hG⟩, hg1⟩; have c8 : w1.cell? ⟨fb, 8, none⟩ = some (.map (some G.dm)) := hG.bk.cell 8; obtain ⟨v, iS, hv, hlk⟩ := HV.out w1 X1 I1 G hG; clear hv) | (go_at_call 41; refine (HM.out _).mono ?_; rintro e w2 ⟨rfl, rfl⟩))
      go_ret
      exact ⟨rfl, X1, I1, ⟨G, hG⟩, hg1⟩
    | true =>
      rw [if_neg (by decide)]
      cases nd with
      | some i =>
        rw [if_pos (show (some i).isSome = true from rfl)]
        clear hmc hnd HV
        go_enter Tryz.func27, Tryz.ntmps27
        go_wp2_with (first | (go_at_call 38; refine HO.out.mono ?_; rintro e w1 ⟨n, rfl, hn1, X1, I1, ⟨G, hG⟩, hg1⟩; have c8 : w1.cell? ⟨fb, 8, none⟩ = some (.map (some G.dm)) := hG.bk.cell 8; have hlk := HLK.out w1 X1 I1 G hG) | (go_at_call 41; refine (HM.out _).mono ?_; rintro e w2 ⟨rfl, rfl⟩))
        go_ret
        exact ⟨rfl, X1, I1, ⟨G, hG⟩, hg1⟩
      | none =>
        rw [if_neg (show ¬ (none : Option Nat).isSome = true by decide)]
        have hcn := may_ne hmc.symm
        have hdl := hbi.nDir
        have hml := hbi.nSafe
        have hcnt := hbi.nCnt
        obtain ⟨dl, hdL⟩ : ∃ x, x = b.1.dir.length := ⟨_, rfl⟩
        have HdL := Lib.hid hdL
        rw [← hdL] at hdl ⊢
        clear hmc hnd HV hdL
        by_cases hlong : 4096 ≤ dl
        · rw [if_pos hlong]
          have hl' : (4096 : Int) ≤ (dl : Int) := by omega
          go_enter Tryz.func27, Tryz.ntmps27
          go_wp2_with (first | (go_at_call 38; refine HO.out.mono ?_; rintro e w1 ⟨n, rfl, hn1, X1, I1, ⟨G, hG⟩, hg1⟩; have c8 : w1.cell? ⟨fb, 8, none⟩ = some (.map (some G.dm)) := hG.bk.cell 8; have hlk := HLK.out w1 X1 I1 G hG) | (go_at_call 41; refine (HM.out _).mono ?_; rintro e w2 ⟨rfl, rfl⟩) | (at_len; refine wpList_len_own _ rfl _ 66 rfl 9 85 Tryz.underlying66 ptrR G.dm _ G.D1 rfl hG.dmap ?_; rw [hG.rep1.size, ← HdL.out]))
          go_ret
          exact ⟨rfl, X1, I1, ⟨G, hG⟩, hg1⟩
        · rw [if_neg hlong]
          have hl' : ¬ (4096 : Int) ≤ (dl : Int) := by omega
          obtain ⟨fl, hfl⟩ : ∃ x, x = Fsy.full b.1 := ⟨_, rfl⟩
          have hno : noRoom b.1 0 = fl := by rw [hfl]; simp [noRoom]
          rw [← hfl]
          clear hfl
          have HFu := Lib.hid (fun (W : World) (X1 I1 : Nat → Prop) (G : Geo) (hG : FsG X1 I1 W fb b.1 G) => c_full W ⟨G, hG⟩ hbi (by omega) hp 0 (by omega))
          rw [hno] at HFu
          unfold ptrV at HFu
          cases fl with
          | true =>
            rw [if_pos rfl]
            go_enter Tryz.func27, Tryz.ntmps27
            go_wp2_with (first | (go_at_call 38; refine HO.out.mono ?_; rintro e w1 ⟨n, rfl, hn1, X1, I1, ⟨G, hG⟩, hg1⟩; have hn1 := hn1 rfl; subst hn1; have c8 : w1.cell? ⟨fb, 8, none⟩ = some (.map (some G.dm)) := hG.bk.cell 8; have hlk := HLK.out w1 X1 I1 G hG; have HF := Lib.hid (HFu.out w1 X1 I1 G hG)) | (go_at_call 41; refine (HM.out _).mono ?_; rintro e w2 ⟨rfl, rfl⟩) | (at_len; refine wpList_len_own _ rfl _ 66 rfl 9 85 Tryz.underlying66 ptrR G.dm _ G.D1 rfl hG.dmap ?_; rw [hG.rep1.size, ← HdL.out]) | (go_at_call 40; refine HF.out.mono ?_; rintro e w2 ⟨rfl, hb2⟩))
            go_ret
            exact ⟨rfl, X1, I1, ⟨G, hG.below hb2⟩, hg1.trans (Grow.of_kb (KbP.of_below hb2))⟩
          | false =>
            rw [if_neg (by decide)]
            have HST := Lib.hid (fun (W : World) (X1 I1 : Nat → Prop) (G : Geo) (hG : FsG X1 I1 W fb b.1 G) => show Bk (W.alloc (.cells #[.slice none 0 0, .slice none 0 0, .slice none 0 0] 89)) W.heap.size 89 #[.slice none 0 0, .slice none 0 0, .slice none 0 0] ∧ Calls Tryz.prog 42 #[.pointer (some ⟨fb, 0, none⟩), .agg #[.string ⟨#[]⟩, .string ⟨name.toArray⟩, .pointer (some ⟨W.heap.size, 0, none⟩)]] (W.alloc (.cells #[.slice none 0 0, .slice none 0 0, .slice none 0 0] 89)) (StepP (W.alloc (.cells #[.slice none 0 0, .slice none 0 0, .slice none 0 0] 89)) fb (Fsy.fresh b.1) (joinG G b.1.nodes.length W.heap.size) (.made name b.1.nodes.length)) by
              have hG1 := hG.below ((Below.refl W.heap.size W).alloc (Nat.le_refl _) (.cells #[.slice none 0 0, .slice none 0 0, .slice none 0 0] 89))
              refine ⟨Bk.new_ _ _ _, ?_⟩
              have hjn : (joinG G b.1.nodes.length W.heap.size).fid b.1.nodes.length = W.heap.size := if_pos rfl
              have hC := c_step (W.alloc (.cells #[.slice none 0 0, .slice none 0 0, .slice none 0 0] 89)) (N := b.1.nodes.length + 1) (fb := fb) (s := Fsy.fresh b.1) (G := joinG G b.1.nodes.length W.heap.size) (m := .made name b.1.nodes.length) hG1.bk hG1.dmap
                (hG1.rep1.fids (fun p hp => by have := (hbi.dir.2 p hp).2.2; have : p.2 ≠ b.1.nodes.length := by omega
                                               simp [joinG, this])) hbi.dir.1 (by
                  have e : (Fsy.fresh b.1).mvs.flatMap (mvCs (joinG G b.1.nodes.length W.heap.size).fid) = b.1.mvs.flatMap (mvCs G.fid) := by
                    have hc : ∀ l : List Mv, (∀ m ∈ l, mvCs (joinG G b.1.nodes.length W.heap.size).fid m = mvCs G.fid m) → l.flatMap (mvCs (joinG G b.1.nodes.length W.heap.size).fid) = l.flatMap (mvCs G.fid) := by
                      intro l hl
                      induction l with
                      | nil => rfl
                      | cons a l ih => rw [List.flatMap_cons, List.flatMap_cons, hl a List.mem_cons_self, ih (fun m hm => hl m (List.mem_cons_of_mem _ hm))]
                    exact hc b.1.mvs (fun m hm => mvCs_join (fun i hi => Nat.ne_of_lt (alive_lt hbi (.inr (.inr ⟨m, hm, hi⟩)))))
                  rw [e]; exact hG1.mvs) ⟨hcn, Nat.lt_succ_self _⟩ hn (by show b.1.dir.length ≤ _; have := HdL.out; omega) (by show b.1.mvs.length ≤ _; omega)
              rw [show mvCs (joinG G b.1.nodes.length W.heap.size).fid (.made name b.1.nodes.length) = [.string ⟨#[]⟩, .string ⟨name.toArray⟩, .pointer (some ⟨W.heap.size, 0, none⟩)] from by rw [mvCs, hjn]; rfl] at hC
              exact hC)
            have hal : ∀ i, alive b.1 i → i < b.1.nodes.length := fun i => alive_lt hbi
            go_enter Tryz.func27, Tryz.ntmps27
            go_wp2_with (first | (go_at_call 38; refine HO.out.mono ?_; rintro e w1 ⟨n, rfl, hn1, X1, I1, ⟨G, hG⟩, hg1⟩; have hn1 := hn1 rfl; subst hn1; have c8 : w1.cell? ⟨fb, 8, none⟩ = some (.map (some G.dm)) := hG.bk.cell 8; have hlk := HLK.out w1 X1 I1 G hG; have HF := Lib.hid (HFu.out w1 X1 I1 G hG)) | (go_at_call 41; refine (HM.out _).mono ?_; rintro e w2 ⟨rfl, rfl⟩) | (at_len; refine wpList_len_own _ rfl _ 66 rfl 9 85 Tryz.underlying66 ptrR G.dm _ G.D1 rfl hG.dmap ?_; rw [hG.rep1.size, ← HdL.out]) | (go_at_call 40; refine HF.out.mono ?_; rintro e w2 ⟨rfl, hb2⟩; obtain ⟨hB2, HS0⟩ := HST.out w2 X1 I1 G (hG.below hb2); have HS := Lib.hid HS0; clear HS0) | (go_at_call 42; refine HS.out.mono ?_; rintro e w4 hS4; obtain rfl := hS4.1))
            go_ret
            obtain ⟨X2, hP2, hg2⟩ := (hG.below hb2).joined hal ((Below.refl w2.heap.size w2).alloc (Nat.le_refl _) _) hB2 (Nat.le_refl _) hS4
            exact ⟨rfl, X2, I1, hP2, (hg1.trans (Grow.of_kb (KbP.of_below hb2))).trans hg2⟩
  · rw [if_pos hc]
    obtain ⟨st, cd⟩ := b
    simp only at hc HO
    have hcd : (cd == 0) = false := by rw [beq_eq_false_iff_ne]; exact hc
    go_enter Tryz.func27, Tryz.ntmps27
    go_wp2_with (first | (go_at_call 38; refine HO.out.mono ?_; rintro e w1 ⟨n, rfl, hn1, X1, I1, hP1, hg1⟩))
    go_ret
    exact ⟨rfl, X1, I1, hP1, hg1⟩
end Go.Proofs.YtgilnjngphhhlaaGreat
/- Layer 1: it lives again: the walk of Start; what it has read: Read, Size, Ops. -/
namespace Go.Proofs.YtgilnjngphhhlaaGreat
open Go.RowKit Go.Lec Go.Fsy Go.Op Go.Maps
theorem FsG.planned {X I : Nat → Prop} {w w1 w' : World} {fb : Nat} {s : St} {G : Geo} {p : Pl} {AK AF AU : Option Addr} {cK cF cU : Nat} (h : FsG X I w fb s G) (hb1 : Below w.heap.size w w1) (hP : PlOk (fun b => w.heap.size ≤ b) w1 p AK cK AF cF AU cU) (hk : KbP (fun b => b = fb) w1 w')
    (hb : Bk w' fb 74 (fsCs (live s p) { G with AK := AK, cK := cK, AF := AF, cF := cF, AU := AU, cU := cU })) :
    FsG X (fun b => I b ∨ (w.heap.size ≤ b ∧ b < w1.heap.size)) w' fb (live s p) { G with AK := AK, cK := cK, AF := AF, cF := cF, AU := AU, cU := cU } := by
  have h1 := h.below hb1
  have hI : ∀ b, I b → ¬ b = fb := fun b hb e => h.xi b hb (e ▸ h.xfb)
  have hfl := h.bk.lt
  have lie : ∀ {A : Option Addr} {l : List Int}, RdP (fun b => w.heap.size ≤ b) w1 A l.length (ics l) → RdP (fun b => I b ∨ (w.heap.size ≤ b ∧ b < w1.heap.size)) w' A l.length (ics l) := fun h => by
    have h1 : RdP (fun b => w.heap.size ≤ b ∧ b < w1.heap.size) w1 _ _ _ := ⟨h.rd, fun hn q e => ⟨h.lie hn q e, h.lt hn q e⟩⟩
    exact (h1.kbP hk (fun b hb e => by omega)).more (fun b => .inr)
  refine ⟨hb, lie hP.rk, lie hP.rf, lie hP.ru, hP.nk, hP.nf, hP.nu, ownsMap_kbP h1.dmap hk (fun e => bk_map h.bk h.dmap e.symm), ownsMap_kbP h1.smap hk (fun e => bk_map h.bk h.smap e.symm), h.rep1, h.rep2,
    OwnK.kbP h1.mvs hk (fun g hg e => own_bkK h.mvs h.bk (by decide) (e ▸ hg)), fun i hi => ?_, h.inj, h.injl, h.ne, h.xfb, h.xdm, h.xsm, h.xmv, ?_, ?_⟩
  · obtain ⟨vs, hO⟩ := (h1.files i hi).own
    obtain ⟨cs, hB⟩ := (h1.files i hi).bk
    exact ((h1.files i hi).kbP hk (fun e => bk_ne h1.bk hB (by decide) e.symm) (fun g hg e => own_bkK hO h1.bk (by decide) (e ▸ hg)) hI).more (fun _ h => h) (fun _ => .inl)
  · rintro b (hb | hb) hx
    · exact h.xi b hb hx
    · have := h.lt b (.inl hx); omega
  · have s1 := hb1.size
    have s2 := hk.size
    rintro b (hb | hb | hb)
    · have := h.lt b (.inl hb); omega
    · have := h.lt b (.inr hb); omega
    · omega
theorem PlOk.below {I : Nat → Prop} {w w' : World} {p : Pl} {AK AF AU : Option Addr} {cK cF cU : Nat} (h : PlOk I w p AK cK AF cF AU cU) (hb : Below w.heap.size w w') : PlOk I w' p AK cK AF cF AU cU :=
  ⟨h.rk.kbP (X := fun _ => False) (KbP.of_below hb) (fun _ _ h => h), h.rf.kbP (X := fun _ => False) (KbP.of_below hb) (fun _ _ h => h), h.ru.kbP (X := fun _ => False) (KbP.of_below hb) (fun _ _ h => h), h.nk, h.nf, h.nu⟩
theorem PlOk.kbP {X I : Nat → Prop} {w w' : World} {p : Pl} {AK AF AU : Option Addr} {cK cF cU : Nat} (h : PlOk I w p AK cK AF cF AU cU) (hb : KbP X w w') (hX : ∀ b, I b → ¬ X b) : PlOk I w' p AK cK AF cF AU cU :=
  ⟨h.rk.kbP hb hX, h.rf.kbP hb hX, h.ru.kbP hb hX, h.nk, h.nf, h.nu⟩
/-- A plan's five cells. -/
def plCs (p : Pl) (AK : Option Addr) (cK : Nat) (AF : Option Addr) (cF : Nat) (AU : Option Addr) (cU : Nat) : Array Value :=
  #[.int .i64 p.crash, .slice AK p.keep.length cK, .slice AF p.fail.length cF, .slice AU p.full.length cU, .int .i64 p.room]
theorem start_bk {w2 : World} {fb : Nat} {s : St} {G : Geo} {p : Pl} {A1 A2 A3 : Option Addr} {c1 c2 c3 : Nat} (hB2 : Bk w2 fb 74 (fsCs s G)) :
    Bk ((((((w2.setCell ⟨fb, 1, none⟩ (.int .i64 p.crash)).setCell ⟨fb, 2, none⟩ (.slice A1 p.keep.length c1)).setCell ⟨fb, 3, none⟩ (.slice A2 p.fail.length c2)).setCell ⟨fb, 4, none⟩ (.slice A3 p.full.length c3)).setCell ⟨fb, 5, none⟩ (.int .i64 p.room)).setCell ⟨fb, 7, none⟩ (.bool false)) fb 74 (fsCs { s with pl := p, died := false } { G with AK := A1, cK := c1, AF := A2, cF := c2, AU := A3, cU := c3 }) :=
  (((((hB2.set_ 1 (.int .i64 p.crash)).set_ 2 (.slice A1 p.keep.length c1)).set_ 3 (.slice A2 p.fail.length c2)).set_ 4 (.slice A3 p.full.length c3)).set_ 5 (.int .i64 p.room)).set_ 7 (.bool false)
theorem start_end {X I : Nat → Prop} {w1 w2 : World} {fb : Nat} {s : St} {G : Geo} {p : Pl} {A1 A2 A3 : Option Addr} {c1 c2 c3 : Nat} (hG : FsG X I w1 fb s G) (hb2 : Below w1.heap.size w1 w2) (hPP : PlOk (fun b => w1.heap.size ≤ b) w2 p A1 c1 A2 c2 A3 c3) :
    ∃ X' I', FsP X' I' (((((((w2.setCell ⟨fb, 1, none⟩ (.int .i64 p.crash)).setCell ⟨fb, 2, none⟩ (.slice A1 p.keep.length c1)).setCell ⟨fb, 3, none⟩ (.slice A2 p.fail.length c2)).setCell ⟨fb, 4, none⟩ (.slice A3 p.full.length c3)).setCell ⟨fb, 5, none⟩ (.int .i64 p.room)).setCell ⟨fb, 7, none⟩ (.bool false)).setCell ⟨fb, 6, none⟩ (.int .i64 0)) fb (live s p) ∧ Grow X I w1 X' I' (((((((w2.setCell ⟨fb, 1, none⟩ (.int .i64 p.crash)).setCell ⟨fb, 2, none⟩ (.slice A1 p.keep.length c1)).setCell ⟨fb, 3, none⟩ (.slice A2 p.fail.length c2)).setCell ⟨fb, 4, none⟩ (.slice A3 p.full.length c3)).setCell ⟨fb, 5, none⟩ (.int .i64 p.room)).setCell ⟨fb, 7, none⟩ (.bool false)).setCell ⟨fb, 6, none⟩ (.int .i64 0)) := by
  have hB2 := hG.bk.below hb2 hG.bk.lt
  have hk : KbP (fun b => b = fb) w2 (((((((w2.setCell ⟨fb, 1, none⟩ (.int .i64 p.crash)).setCell ⟨fb, 2, none⟩ (.slice A1 p.keep.length c1)).setCell ⟨fb, 3, none⟩ (.slice A2 p.fail.length c2)).setCell ⟨fb, 4, none⟩ (.slice A3 p.full.length c3)).setCell ⟨fb, 5, none⟩ (.int .i64 p.room)).setCell ⟨fb, 7, none⟩ (.bool false)).setCell ⟨fb, 6, none⟩ (.int .i64 0)) :=
    (((((((KbP.refl (fun b => b = fb) w2).setCell (p := ⟨fb, 1, none⟩) (.inl rfl) _).setCell (p := ⟨fb, 2, none⟩) (.inl rfl) _).setCell (p := ⟨fb, 3, none⟩) (.inl rfl) _).setCell (p := ⟨fb, 4, none⟩) (.inl rfl) _).setCell (p := ⟨fb, 5, none⟩) (.inl rfl) _).setCell (p := ⟨fb, 7, none⟩) (.inl rfl) _).setCell (p := ⟨fb, 6, none⟩) (.inl rfl) _
  have hT := FsG.planned hG hb2 hPP hk ((start_bk hB2).set_ 6 (.int .i64 0))
  exact ⟨X, _, ⟨_, hT⟩, ⟨fun b h => .inl h, fun b h => h.imp_right (fun e => e.1), ((KbP.of_below hb2 : KbP X w1 w2)).trans hk (fun b e => .inl (e ▸ hG.xfb))⟩⟩
set_option maxRecDepth 100000 in
set_option maxHeartbeats 1600000 in
theorem c_Start (w : World) {X I J : Nat → Prop} {fb N : Nat} {s : St} {p : Pl} {AK AF AU : Option Addr} {cK cF cU : Nat} (h : FsP X I w fb s) (hi : Fsy.Inv s N) (hN : N ≤ 1048575) (hp : s.pl.ok) (hP : PlOk J w p AK cK AF cF AU cU) (hJ : ∀ q, J q → ¬ X q) (hpo : p.ok) :
    Calls Tryz.prog 17 #[ptrV fb, plV p AK cK AF cF AU cU] w (UpdP X I w fb (Fsy.start s p, 0)) := by
  have hb0 := (Below.refl w.heap.size w).alloc (Nat.le_refl _) (.cells #[.int .i64 p.crash, .slice AK p.keep.length cK, .slice AF p.fail.length cF, .slice AU p.full.length cU, .int .i64 p.room] 44)
  have hB0 := Bk.new_ w 44 #[.int .i64 p.crash, .slice AK p.keep.length cK, .slice AF p.fail.length cF, .slice AU p.full.length cU, .int .i64 p.room]
  have h0 := h.below hb0
  have hxl := h.lt
  have hP0 := hP.below hb0
  have HD := Lib.hid (c_die _ h0 hi (by omega) hp)
  unfold FsE at HD
  have HT := Lib.hid (fun (W : World) (hK : KbP X (w.alloc (.cells #[.int .i64 p.crash, .slice AK p.keep.length cK, .slice AF p.fail.length cF, .slice AU p.full.length cU, .int .i64 p.room] 44)) W) => c_twin W (hP0.kbP hK hJ) hpo.1 hpo.2.1 hpo.2.2.1)
  have hpx : ¬ X w.heap.size := fun hx => by have := hxl w.heap.size (.inl hx); omega
  have HG0 := Lib.hid h0
  obtain ⟨G0, hGG⟩ := h0
  have HGG := Lib.hid hGG
  have q0 := hGG.bk.cell
  have H0 := Lib.hid (c_is _ fb (q0 0))
  have Hb0 := Lib.hid hb0
  have hsd : Fsy.start s p = live (if s.died then s else Fsy.die s) p := rfl
  rw [hsd]
  obtain ⟨d, hd⟩ : ∃ x, x = s.died := ⟨_, rfl⟩
  unfold fsCs at q0
  rw [← hd] at q0 ⊢
  clear hsd hd hb0 hP0 hGG h hP
  have hBB := hB0.cell
  unfold plV ptrV at *
  cases d with
  | true =>
    rw [if_pos rfl]
    go_enter Tryz.func17, Tryz.ntmps17
    go_wp2_with (first | (go_at_call 32; refine H0.out.mono ?_; rintro e w1 ⟨rfl, rfl⟩) | (go_at_call 31; refine (HT.out _ (KbP.refl _ _)).mono ?_; rintro e w2 ⟨A1, c1, A2, c2, A3, c3, rfl, hPP, hb2⟩; have hB2 := HGG.out.bk.below hb2 HGG.out.bk.lt; unfold plV; have q2 := hB2.cell; unfold fsCs at q2; have z2 := hB2.frz) | (go_at_call 34; refine (c_aStore _ fb 6 (s.cnt : Int) 0 ((start_bk (p := p) hB2).cell 6) ((start_bk (p := p) hB2).frz 6)).mono ?_; rintro e w3 ⟨rfl, rfl⟩))
    go_ret
    obtain ⟨X1, I1, hP1, hg1⟩ := start_end HGG.out hb2 hPP
    exact ⟨rfl, X1, I1, hP1, (Grow.of_kb (KbP.of_below Hb0.out)).trans hg1⟩
  | false =>
    rw [if_neg Bool.false_ne_true]
    have HBK := Lib.hid (fun (W : World) (hK : KbP X (w.alloc (.cells #[.int .i64 p.crash, .slice AK p.keep.length cK, .slice AF p.fail.length cF, .slice AU p.full.length cU, .int .i64 p.room] 44)) W) => hB0.kbP hK hpx)
    clear hB0
    go_enter Tryz.func17, Tryz.ntmps17
    go_wp2_with (first | (go_at_call 32; refine H0.out.mono ?_; rintro e w1 ⟨rfl, rfl⟩) | (go_at_call 33; refine HD.out.mono ?_; rintro e w1 ⟨rfl, X1, I1, ⟨G1, hG1⟩, hg1⟩; have hBP := (HBK.out _ hg1.kb).cell) | (go_at_call 31; refine (HT.out _ hg1.kb).mono ?_; rintro e w2 ⟨A1, c1, A2, c2, A3, c3, rfl, hPP, hb2⟩; have hB2 := hG1.bk.below hb2 hG1.bk.lt; unfold plV; have q2 := hB2.cell; unfold fsCs at q2; have z2 := hB2.frz) | (go_at_call 34; refine (c_aStore _ fb 6 ((Fsy.die s).cnt : Int) 0 ((start_bk (p := p) hB2).cell 6) ((start_bk (p := p) hB2).frz 6)).mono ?_; rintro e w3 ⟨rfl, rfl⟩))
    go_ret
    obtain ⟨X2, I2, hP2, hg2⟩ := start_end hG1 hb2 hPP
    exact ⟨rfl, X2, I2, hP2, ((Grow.of_kb (KbP.of_below Hb0.out)).trans hg1).trans hg2⟩
end Go.Proofs.YtgilnjngphhhlaaGreat
/- Layer 1: a file is read: the walks of Read, Size. -/
namespace Go.Proofs.YtgilnjngphhhlaaGreat
open Go.RowKit Go.Lec Go.Fsy Go.Op Go.Maps
set_option maxRecDepth 100000 in
set_option maxHeartbeats 1600000 in
theorem c_Size (w : World) {X I : Nat → Prop} {fb N : Nat} {s : St} {name : Bs} (h : FsP X I w fb s) (hi : Fsy.Inv s N) (hn : name.length ≤ 4294967296) :
    Calls Tryz.prog 29 #[ptrV fb, .string ⟨name.toArray⟩] w fun e w' => e = .returned (.tuple #[.int .i64 (Fsy.size s name).1, .int .i64 (Fsy.size s name).2]) ∧ w' = w := by
  obtain ⟨G, hG⟩ := h
  have q := hG.bk.cell
  have H0 := Lib.hid (c_is w fb (q 0))
  have c8 : w.cell? ⟨fb, 8, none⟩ = some (.map (some G.dm)) := q 8
  have c7 : w.cell? ⟨fb, 7, none⟩ = some (.bool s.died) := q 7
  have hsd : Fsy.size s name = (if s.died then ((0 : Int), (12 : Int)) else match node s.dir name with | none => ((0 : Int), (14 : Int)) | some j => ((sizeAt s j : Int), (0 : Int))) := rfl
  obtain ⟨d, hd⟩ : ∃ x, x = s.died := ⟨_, rfl⟩
  have hlk := look_ok hG.dmap hG.rep1 hn
  rw [← hd] at hsd c7
  rw [hsd]
  clear hsd hd q
  unfold ptrV at *
  cases d with
  | true =>
    rw [if_pos rfl]
    clear hlk hG
    go_enter Tryz.func29, Tryz.ntmps29
    go_wp2_with (first | (go_at_call 32; refine H0.out.mono ?_; rintro e w1 ⟨rfl, rfl⟩))
    go_ret2
    exact ⟨rfl, rfl⟩
  | false =>
    rw [if_neg Bool.false_ne_true]
    cases hnd : node s.dir name with
    | none =>
      rw [hnd] at hlk
      clear hG hnd
      go_enter Tryz.func29, Tryz.ntmps29
      go_wp2_with (first | (go_at_call 32; refine H0.out.mono ?_; rintro e w1 ⟨rfl, rfl⟩))
      go_ret2
      exact ⟨rfl, rfl⟩
    | some i =>
      rw [hnd] at hlk
      have hal : alive s i := .inl ⟨_, node_some hnd⟩
      have hsz := hi.size i
      obtain ⟨A1, c1, A3, c3, vs, hB, _⟩ := (hG.files i hal).ex
      obtain ⟨z, hz⟩ : ∃ z, z = sizeAt s i := ⟨_, rfl⟩
      have hz' : (ndAt s.nodes i).data.length = z := hz.symm
      rw [hz'] at hB
      have qf := hB.cell
      rw [← hz] at hsz
      show Calls _ _ _ _ fun e w' => e = .returned (.tuple #[.int .i64 (sizeAt s i : Int), .int .i64 0]) ∧ w' = w
      rw [← hz]
      clear hG hnd hz hz' hB
      unfold ptrV at *
      go_enter Tryz.func29, Tryz.ntmps29
      go_wp2_with (first | (go_at_call 32; refine H0.out.mono ?_; rintro e w1 ⟨rfl, rfl⟩))
      go_ret2
      exact ⟨rfl, rfl⟩
/-- What Read answers. -/
def ReadP (w : World) (r : Bs × Int) (e : Ending) (w' : World) : Prop :=
  ∃ A c, e = .returned (.tuple #[.slice A r.1.length c, .int .i64 r.2]) ∧ RdP (fun b => w.heap.size ≤ b) w' A r.1.length (bcs r.1) ∧ r.1.length ≤ c ∧ Below w.heap.size w w'
theorem ReadP.none_ (w : World) (k : Int) : ReadP w ([], k) (.returned (.tuple #[.slice none 0 0, .int .i64 k])) w := ⟨none, 0, rfl, RdP.nil_, Nat.le_refl _, Below.refl _ _⟩
set_option maxRecDepth 100000 in
set_option maxHeartbeats 1600000 in
theorem c_Read (w : World) {X I : Nat → Prop} {fb N : Nat} {s : St} {name : Bs} {k n : Int} (h : FsP X I w fb s) (hi : Fsy.Inv s N) (hn : name.length ≤ 4294967296) (hk1 : -9223372036854775808 ≤ k) (hk2 : k ≤ 9223372036854775807) (hn1 : -9223372036854775808 ≤ n) (hn2 : n ≤ 9223372036854775807) :
    Calls Tryz.prog 30 #[ptrV fb, .string ⟨name.toArray⟩, .int .i64 k, .int .i64 n] w (ReadP w (Fsy.read s name k n)) := by
  obtain ⟨G, hG⟩ := h
  have q := hG.bk.cell
  have H0 := Lib.hid (c_is w fb (q 0))
  have c8 : w.cell? ⟨fb, 8, none⟩ = some (.map (some G.dm)) := q 8
  have c7 : w.cell? ⟨fb, 7, none⟩ = some (.bool s.died) := q 7
  have hsd : Fsy.read s name k n = (if s.died then (([] : Bs), (12 : Int)) else match node s.dir name with | none => (([] : Bs), (14 : Int)) | some j => if k < 0 ∨ n < 0 ∨ (sizeAt s j : Int) < k + n then (([] : Bs), (1 : Int)) else (((ndAt s.nodes j).data.drop k.toNat).take n.toNat, (0 : Int))) := rfl
  obtain ⟨d, hd⟩ : ∃ x, x = s.died := ⟨_, rfl⟩
  have hlk := look_ok hG.dmap hG.rep1 hn
  rw [← hd] at hsd c7
  rw [hsd]
  clear hsd hd q
  unfold ptrV at *
  cases d with
  | true =>
    rw [if_pos rfl]
    clear hlk hG
    go_enter Tryz.func30, Tryz.ntmps30
    go_wp2_with (first | (go_at_call 32; refine H0.out.mono ?_; rintro e w1 ⟨rfl, rfl⟩))
    go_ret2
    exact ReadP.none_ _ _
  | false =>
    rw [if_neg Bool.false_ne_true]
    cases hnd : node s.dir name with
    | none =>
      rw [hnd] at hlk
      clear hG hnd
      go_enter Tryz.func30, Tryz.ntmps30
      go_wp2_with (first | (go_at_call 32; refine H0.out.mono ?_; rintro e w1 ⟨rfl, rfl⟩))
      go_ret2
      exact ReadP.none_ _ _
    | some i =>
      rw [hnd] at hlk
      have hal : alive s i := .inl ⟨_, node_some hnd⟩
      have hsz := hi.size i
      obtain ⟨A1, c1, A3, c3, vs, hB, _, _, hR, hc3, _⟩ := (hG.files i hal).ex
      obtain ⟨z, hz⟩ : ∃ z, z = sizeAt s i := ⟨_, rfl⟩
      have hz' : (ndAt s.nodes i).data.length = z := hz.symm
      rw [hz'] at hB hR hc3
      have qf := hB.cell
      rw [← hz] at hsz
      show Calls _ _ _ _ (ReadP w (if k < 0 ∨ n < 0 ∨ (sizeAt s i : Int) < k + n then ([], 1) else (((ndAt s.nodes i).data.drop k.toNat).take n.toNat, 0)))
      rw [← hz]
      have Hz' := Lib.hid hz'
      clear hnd hz hz' hB
      unfold ptrV at *
      by_cases k0 : k < 0
      · rw [if_pos (.inl k0)]
        clear hG
        go_enter Tryz.func30, Tryz.ntmps30
        go_wp2_with (first | (go_at_call 32; refine H0.out.mono ?_; rintro e w1 ⟨rfl, rfl⟩))
        go_ret2
        exact ReadP.none_ _ _
      by_cases n0 : n < 0
      · rw [if_pos (.inr (.inl n0))]
        clear hG
        go_enter Tryz.func30, Tryz.ntmps30
        go_wp2_with (first | (go_at_call 32; refine H0.out.mono ?_; rintro e w1 ⟨rfl, rfl⟩))
        go_ret2
        exact ReadP.none_ _ _
      by_cases kz : (z : Int) < k
      · rw [if_pos (.inr (.inr (by omega)))]
        clear hG
        go_enter Tryz.func30, Tryz.ntmps30
        go_wp2_with (first | (go_at_call 32; refine H0.out.mono ?_; rintro e w1 ⟨rfl, rfl⟩))
        go_ret2
        exact ReadP.none_ _ _
      by_cases nz : (z : Int) - k < n
      · rw [if_pos (.inr (.inr (by omega)))]
        clear hG
        go_enter Tryz.func30, Tryz.ntmps30
        go_wp2_with (first | (go_at_call 32; refine H0.out.mono ?_; rintro e w1 ⟨rfl, rfl⟩))
        go_ret2
        exact ReadP.none_ _ _
      rw [if_neg (by omega)]
      obtain ⟨j, rfl⟩ : ∃ j : Nat, k = (j : Int) := ⟨k.toNat, by omega⟩
      obtain ⟨m, rfl⟩ : ∃ j : Nat, n = (j : Int) := ⟨n.toNat, by omega⟩
      obtain ⟨A', hcut, hR'⟩ := run_cut2I slb hR.rd hc3 j (j + m) (by omega) (by omega) .i64 .i64 (j : Int) ((j : Int) + (m : Int)) rfl (by omega)
      obtain ⟨r, hr⟩ : ∃ r, r = ((ndAt s.nodes i).data.drop j).take m := ⟨_, rfl⟩
      have hrl : r.length = m := by rw [hr, List.length_take, List.length_drop, Hz'.out]; omega
      have hre : ((bcs (ndAt s.nodes i).data).take (j + m)).drop j = bcs r := by rw [hr, List.drop_take, Nat.add_sub_cancel_left]; simp [bcs]
      rw [hre, Nat.add_sub_cancel_left] at hR'
      simp only [Nat.add_sub_cancel_left] at hcut
      have HC := Lib.hid (c_CloneB w (c := c3 - j) hR' (Nat.le_refl _) (by omega))
      simp only [Int.toNat_natCast]
      rw [← hr]
      have Hrl := Lib.hid hrl
      clear hG hr hrl hre hR'
      go_enter Tryz.func30, Tryz.ntmps30
      go_wp2_with (first | (go_at_call 32; refine H0.out.mono ?_; rintro e w1 ⟨rfl, rfl⟩) | (go_at_call 25; refine HC.out.mono ?_; rintro e w3 ⟨A4, c4, rfl, hc4, hR4, hb3⟩))
      go_ret2
      exact ⟨A4, c4, by show Ending.returned (.tuple #[.slice A4 m c4, .int .i64 0]) = .returned (.tuple #[.slice A4 r.length c4, .int .i64 0]); rw [Hrl.out], by show RdP _ w3 A4 r.length (bcs r); rw [Hrl.out]; exact hR4, by show r.length ≤ c4; rw [Hrl.out]; exact hc4, hb3⟩
end Go.Proofs.YtgilnjngphhhlaaGreat
