/- Layer 1: bytes are appended to a file: the walk of Append. -/
import Derived.Test.YtaanmnplfppdeaaFsX2
namespace Go.Proofs.Ytaanmnplfppdeaa
open Go.RowKit Go.Lec Go.Fsy Go.Op Go.Maps
/-- More may be read. -/
theorem FsG.wide {X I I' : Nat → Prop} {w : World} {fb : Nat} {s : St} {G : Geo} (h : FsG X I w fb s G) (hI : ∀ b, I b → I' b) (hx : ∀ b, I' b → ¬ X b) (hl : ∀ b, I' b → b < w.heap.size) : FsG X I' w fb s G :=
  ⟨h.bk, h.rk.more hI, h.rf.more hI, h.ru.more hI, h.nk, h.nf, h.nu, h.dmap, h.smap, h.rep1, h.rep2, h.mvs, fun i hi => (h.files i hi).more (fun b hb => hb) hI, h.inj, h.injl, h.ne, h.xfb, h.xdm, h.xsm, h.xmv, hx, fun b hb => hb.elim (fun h1 => h.lt b (.inl h1)) (hl b)⟩
set_option maxRecDepth 100000 in
set_option maxHeartbeats 1600000 in
theorem c_Append (w : World) {X I J : Nat → Prop} {fb N d : Nat} {s : St} {name bs : Bs} {B : Option Addr} (h : FsP X I w fb s) (hi : Fsy.Inv s N) (hN : N ≤ 1048575) (hp : s.pl.ok) (hn : name.length ≤ 4294967296) (hb : RdP J w B bs.length (bcs bs)) (hJ : ∀ q, J q → ¬ X q) (hbd : bs.length ≤ d) (hbl : bs.length ≤ 1099511627776) :
    Calls Try.prog 8 #[ptrV fb, .string ⟨name.toArray⟩, .slice B bs.length d] w (UpdP X I w fb (Fsy.append s name bs)) := by
  have HO := Lib.hid (c_op w h hi hN hp)
  unfold OpP at HO
  have hbi := hi.begin
  have hp1 := begin_pl s
  obtain ⟨b, hbE⟩ : ∃ x, x = Fsy.begin s := ⟨_, rfl⟩
  have hsd : Fsy.append s name bs = if b.2 ≠ 0 then b else match node b.1.dir name with | none => (b.1, 14) | some i => if 268435456 < sizeAt b.1 i + bs.length then (b.1, 2) else if noRoom b.1 bs.length then (b.1, 11) else if bs.length = 0 then (b.1, 0) else (change b.1 i (.add bs), 0) := by rw [hbE]; rfl
  rw [← hbE] at HO hbi hp1
  rw [← hp1] at hp
  rw [hsd]
  clear hsd hbE h hi hp1
  unfold ptrV at *
  by_cases hc : b.2 = 0
  · rw [if_neg (by simpa using hc)]
    rw [hc] at HO
    have HLK := Lib.hid (fun (W : World) (X1 I1 : Nat → Prop) (G : Geo) (hG : FsG X1 I1 W fb b.1 G) => look_ok hG.dmap hG.rep1 hn)
    cases hnd : node b.1.dir name with
    | none =>
      rw [hnd] at HLK
      clear hc
      go_enter Try.func8, Try.ntmps8
      go_wp2_with (first | (go_at_call 24; refine HO.out.mono ?_; rintro e w1 ⟨n, rfl, hn1, X1, I1, ⟨G, hG⟩, hg1⟩; have hn1 := hn1 rfl; subst hn1; have c8 : w1.cell? ⟨fb, 8, none⟩ = some (.map (some G.dm)) := hG.bk.cell 8; have hlk := HLK.out w1 X1 I1 G hG))
      go_ret
      exact ⟨rfl, X1, I1, ⟨G, hG⟩, hg1⟩
    | some i =>
      rw [hnd] at HLK
      have hal : alive b.1 i := .inl ⟨_, node_some hnd⟩
      have hil := (hbi.dir.2 _ (node_some hnd)).2.2
      have hsz := hbi.size i
      have hch := (hbi.nd i).2
      show Calls _ _ _ _ (UpdP X I w fb (if 268435456 < sizeAt b.1 i + bs.length then (b.1, 2) else if noRoom b.1 bs.length then (b.1, 11) else if bs.length = 0 then (b.1, 0) else (change b.1 i (.add bs), 0)))
      obtain ⟨z, hz⟩ : ∃ z, z = sizeAt b.1 i := ⟨_, rfl⟩
      rw [← hz] at hsz ⊢
      have Hz := Lib.hid (show z = (ndAt b.1.nodes i).data.length from hz)
      obtain ⟨bl, hbL⟩ : ∃ x, x = bs.length := ⟨_, rfl⟩
      obtain ⟨nr, hnr⟩ : ∃ x, x = noRoom b.1 bs.length := ⟨_, rfl⟩
      have HFu := Lib.hid (fun (W : World) (X1 I1 : Nat → Prop) (G : Geo) (hG : FsG X1 I1 W fb b.1 G) => c_full W ⟨G, hG⟩ hbi (by omega) hp bs.length hbl)
      unfold ptrV at HFu
      rw [← hnr] at HFu ⊢
      rw [← hbL] at HFu hb hbd hbl ⊢
      have HbL := Lib.hid hbL
      clear hc hz hnr hbL
      unfold ptrV at *
      have HB := Lib.hid (fun (W : World) (X1 I1 : Nat → Prop) (G : Geo) (hG : FsG X1 I1 W fb b.1 G) => show ∃ A1 c1 A3 c3, Bk W (G.fid i) 63 #[.slice A1 (ndAt b.1.nodes i).safe.length c1, G.lv i, .slice A3 z c3] by
        obtain ⟨A1, c1, A3, c3, vs, hB, _⟩ := (hG.files i hal).ex
        rw [Hz.out]; exact ⟨A1, c1, A3, c3, hB⟩)
      by_cases k0 : 268435456 < z + bl
      · rw [if_pos k0]
        have k0' : (268435456 : Int) - (z : Int) < (bl : Int) := by omega
        go_enter Try.func8, Try.ntmps8
        go_wp2_with (first | (go_at_call 24; refine HO.out.mono ?_; rintro e w1 ⟨n, rfl, hn1, X1, I1, ⟨G, hG⟩, hg1⟩; have hn1 := hn1 rfl; subst hn1; have c8 : w1.cell? ⟨fb, 8, none⟩ = some (.map (some G.dm)) := hG.bk.cell 8; have hlk := HLK.out w1 X1 I1 G hG; obtain ⟨A1, c1, A3, c3, hB⟩ := HB.out w1 X1 I1 G hG; have qf := hB.cell; have HF := Lib.hid (HFu.out w1 X1 I1 G hG)))
        go_ret
        exact ⟨rfl, X1, I1, ⟨G, hG⟩, hg1⟩
      · rw [if_neg k0]
        have k0' : ¬ (268435456 : Int) - (z : Int) < (bl : Int) := by omega
        cases nr with
        | true =>
          rw [if_pos rfl]
          go_enter Try.func8, Try.ntmps8
          go_wp2_with (first | (go_at_call 24; refine HO.out.mono ?_; rintro e w1 ⟨n, rfl, hn1, X1, I1, ⟨G, hG⟩, hg1⟩; have hn1 := hn1 rfl; subst hn1; have c8 : w1.cell? ⟨fb, 8, none⟩ = some (.map (some G.dm)) := hG.bk.cell 8; have hlk := HLK.out w1 X1 I1 G hG; obtain ⟨A1, c1, A3, c3, hB⟩ := HB.out w1 X1 I1 G hG; have qf := hB.cell; have HF := Lib.hid (HFu.out w1 X1 I1 G hG)) | (go_at_call 26; refine HF.out.mono ?_; rintro e w2 ⟨rfl, hb2⟩))
          go_ret
          exact ⟨rfl, X1, I1, ⟨G, hG.below hb2⟩, hg1.trans (Grow.of_kb (KbP.of_below hb2))⟩
        | false =>
          rw [if_neg (by decide)]
          by_cases kb : bl = 0
          · rw [if_pos kb]
            have kb' : ¬ (0 : Int) < (bl : Int) := by omega
            clear kb
            go_enter Try.func8, Try.ntmps8
            go_wp2_with (first | (go_at_call 24; refine HO.out.mono ?_; rintro e w1 ⟨n, rfl, hn1, X1, I1, ⟨G, hG⟩, hg1⟩; have hn1 := hn1 rfl; subst hn1; have c8 : w1.cell? ⟨fb, 8, none⟩ = some (.map (some G.dm)) := hG.bk.cell 8; have hlk := HLK.out w1 X1 I1 G hG; obtain ⟨A1, c1, A3, c3, hB⟩ := HB.out w1 X1 I1 G hG; have qf := hB.cell; have HF := Lib.hid (HFu.out w1 X1 I1 G hG)) | (go_at_call 26; refine HF.out.mono ?_; rintro e w2 ⟨rfl, hb2⟩))
            go_ret
            exact ⟨rfl, X1, I1, ⟨G, hG.below hb2⟩, hg1.trans (Grow.of_kb (KbP.of_below hb2))⟩
          · rw [if_neg kb]
            have kb' : (0 : Int) < (bl : Int) := by omega
            clear kb
            have hbI := hb
            have HRb := Lib.hid (fun (W : World) (hk : KbP X w W) => hb.kbP hk hJ)
            have HbC := Lib.hid (fun (W1 W : World) (hk : KbP X w W1) (h2 : Below W1.heap.size W1 W) => c_CloneB W (c := d) (((HRb.out W1 hk).rd.below h2 (Nat.le_refl _)).more h2.size) (Nat.le_refl _) hbl)
            have HDo := Lib.hid (fun (W2 W3 : World) (X1 I1 : Nat → Prop) (G : Geo) (A4 : Option Addr) (c4 : Nat) (hG : FsG X1 I1 W2 fb b.1 G) (hR4 : RdP (fun q => W2.heap.size ≤ q) W3 A4 bl (bcs bs)) (hc4 : bl ≤ c4) (hb3 : Below W2.heap.size W2 W3) => show FsG X1 (fun q => I1 q ∨ (W2.heap.size ≤ q ∧ q < W3.heap.size)) W3 fb b.1 G ∧ Calls Try.prog 28 #[.pointer (some ⟨G.fid i, 0, none⟩), .iface 73 (.agg #[.slice A4 bl c4])] W3 (DoP X1 (fun q => I1 q ∨ (W2.heap.size ≤ q ∧ q < W3.heap.size)) W3 (G.fid i) (G.lv i) ⟨(ndAt b.1.nodes i).safe, (ndAt b.1.nodes i).chg ++ [.add bs]⟩) by
              have hG3 := (hG.below hb3).wide (I' := fun q => I1 q ∨ (W2.heap.size ≤ q ∧ q < W3.heap.size)) (fun q => .inl) (by
                rintro q (h | h) hx
                · exact hG.xi q h hx
                · have := hG.lt q (.inl hx); omega) (by
                rintro q (h | h)
                · exact Nat.lt_of_lt_of_le (hG.lt q (.inr h)) hb3.size
                · exact h.2)
              refine ⟨hG3, ?_⟩
              have hR : RdP (fun q => I1 q ∨ (W2.heap.size ≤ q ∧ q < W3.heap.size)) W3 A4 bl (bcs bs) := ⟨hR4.rd, fun h p hp => .inr ⟨hR4.lie h p hp, hR4.lt h p hp⟩⟩
              have e1 := Hz.out
              rw [HbL.out] at hR hc4 k0 ⊢
              exact c_fileDo_add W3 (hG3.files i hal) hG3.xi (fun q hq => hG3.lt q (.inr hq)) hR hc4 (by omega) (by omega))
            clear hb hbI
            go_enter Try.func8, Try.ntmps8
            go_wp2_with (first | (go_at_call 24; refine HO.out.mono ?_; rintro e w1 ⟨n, rfl, hn1, X1, I1, ⟨G, hG⟩, hg1⟩; have hn1 := hn1 rfl; subst hn1; have c8 : w1.cell? ⟨fb, 8, none⟩ = some (.map (some G.dm)) := hG.bk.cell 8; have hlk := HLK.out w1 X1 I1 G hG; obtain ⟨A1, c1, A3, c3, hB⟩ := HB.out w1 X1 I1 G hG; have qf := hB.cell; have HF := Lib.hid (HFu.out w1 X1 I1 G hG)) | (go_at_call 26; refine HF.out.mono ?_; rintro e w2 ⟨rfl, hb2⟩) | (go_at_call 23; refine (HbC.out w1 w2 hg1.kb hb2).mono ?_; rintro e w3 ⟨A4, c4, rfl, hc4, hR4, hb3⟩; obtain ⟨hG3, HD⟩ := HDo.out w2 w3 X1 I1 G A4 c4 (hG.below hb2) hR4 hc4 hb3; have HD := Lib.hid HD) | (go_at_call 28; refine HD.out.mono ?_; rintro e w4 hD4; obtain rfl := hD4.1))
            go_ret
            obtain ⟨X2, I2, hP2, hg2⟩ := hG3.did hal hil hD4
            exact ⟨rfl, X2, I2, hP2, ((hg1.trans (Grow.of_kb (KbP.of_below hb2))).trans ⟨fun q hq => .inl hq, fun q hq => hq.imp_right (fun e => e.1), KbP.of_below hb3⟩).trans hg2⟩
  · rw [if_pos hc]
    obtain ⟨st, cd⟩ := b
    simp only at hc HO
    have hcd : (cd == 0) = false := by rw [beq_eq_false_iff_ne]; exact hc
    go_enter Try.func8, Try.ntmps8
    go_wp2_with (first | (go_at_call 24; refine HO.out.mono ?_; rintro e w1 ⟨n, rfl, hn1, X1, I1, hP1, hg1⟩))
    go_ret
    exact ⟨rfl, X1, I1, hP1, hg1⟩
end Go.Proofs.Ytaanmnplfppdeaa
