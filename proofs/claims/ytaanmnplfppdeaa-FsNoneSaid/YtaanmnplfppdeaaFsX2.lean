/- Layer 1: a file is cut: the walk of Cut. -/
import Derived.Test.YtaanmnplfppdeaaFsX1
namespace Go.Proofs.Ytaanmnplfppdeaa
open Go.RowKit Go.Lec Go.Fsy Go.Op Go.Maps
theorem FsG.did {X I : Nat → Prop} {w w' : World} {fb i : Nat} {s : St} {G : Geo} {nd : Nd} {e : Ending} (h : FsG X I w fb s G) (hal : alive s i) (hil : i < s.nodes.length) (hD : DoP X I w (G.fid i) (G.lv i) nd e w') : ∃ X' I', FsP X' I' w' fb (setNd s i nd) ∧ Grow X I w X' I' w' := by
  obtain ⟨_, lv', hf, hat, hk⟩ := hD
  exact fs_setNd h hal hil hf (hat.imp_right (fun ⟨g, e, hg⟩ g' e' => by rw [e] at e'; cases e'; exact hg)) hk
set_option maxRecDepth 100000 in
set_option maxHeartbeats 1600000 in
theorem c_Cut (w : World) {X I : Nat → Prop} {fb N : Nat} {s : St} {name : Bs} {k : Int} (h : FsP X I w fb s) (hi : Fsy.Inv s N) (hN : N ≤ 1048575) (hp : s.pl.ok) (hn : name.length ≤ 4294967296) (hk1 : -9223372036854775808 ≤ k) (hk2 : k ≤ 9223372036854775807) :
    Calls Try.prog 9 #[ptrV fb, .string ⟨name.toArray⟩, .int .i64 k] w (UpdP X I w fb (Fsy.cutF s name k)) := by
  have HO := Lib.hid (c_op w h hi hN hp)
  unfold OpP at HO
  have hbi := hi.begin
  obtain ⟨b, hb⟩ : ∃ x, x = Fsy.begin s := ⟨_, rfl⟩
  have hsd : Fsy.cutF s name k = if b.2 ≠ 0 then b else match node b.1.dir name with | none => (b.1, 14) | some i => if k < 0 ∨ (sizeAt b.1 i : Int) < k then (b.1, 1) else if k < (sizeAt b.1 i : Int) then (change b.1 i (.cut k.toNat), 0) else (b.1, 0) := by rw [hb]; rfl
  rw [← hb] at HO hbi
  rw [hsd]
  clear hsd hb h hi hp
  unfold ptrV at *
  by_cases hc : b.2 = 0
  · rw [if_neg (by simpa using hc)]
    rw [hc] at HO
    have HLK := Lib.hid (fun (W : World) (X1 I1 : Nat → Prop) (G : Geo) (hG : FsG X1 I1 W fb b.1 G) => look_ok hG.dmap hG.rep1 hn)
    cases hnd : node b.1.dir name with
    | none =>
      rw [hnd] at HLK
      clear hc
      go_enter Try.func9, Try.ntmps9
      go_wp2_with (first | (go_at_call 24; refine HO.out.mono ?_; rintro e w1 ⟨n, rfl, hn1, X1, I1, ⟨G, hG⟩, hg1⟩; have c8 : w1.cell? ⟨fb, 8, none⟩ = some (.map (some G.dm)) := hG.bk.cell 8; have hlk := HLK.out w1 X1 I1 G hG))
      go_ret
      exact ⟨rfl, X1, I1, ⟨G, hG⟩, hg1⟩
    | some i =>
      rw [hnd] at HLK
      have hal : alive b.1 i := .inl ⟨_, node_some hnd⟩
      have hil := (hbi.dir.2 _ (node_some hnd)).2.2
      have hsz := hbi.size i
      have hch := (hbi.nd i).2
      show Calls _ _ _ _ (UpdP X I w fb (if k < 0 ∨ (sizeAt b.1 i : Int) < k then (b.1, 1) else if k < (sizeAt b.1 i : Int) then (change b.1 i (.cut k.toNat), 0) else (b.1, 0)))
      obtain ⟨z, hz⟩ : ∃ z, z = sizeAt b.1 i := ⟨_, rfl⟩
      rw [← hz] at hsz ⊢
      have Hz := Lib.hid (show z = (ndAt b.1.nodes i).data.length from hz)
      clear hc hz
      unfold ptrV at *
      have HB := Lib.hid (fun (W : World) (X1 I1 : Nat → Prop) (G : Geo) (hG : FsG X1 I1 W fb b.1 G) => show ∃ A1 c1 A3 c3, Bk W (G.fid i) 63 #[.slice A1 (ndAt b.1.nodes i).safe.length c1, G.lv i, .slice A3 z c3] by
        obtain ⟨A1, c1, A3, c3, vs, hB, _⟩ := (hG.files i hal).ex
        rw [Hz.out]; exact ⟨A1, c1, A3, c3, hB⟩)
      by_cases k0 : k < 0
      · rw [if_pos (.inl k0)]
        go_enter Try.func9, Try.ntmps9
        go_wp2_with (first | (go_at_call 24; refine HO.out.mono ?_; rintro e w1 ⟨n, rfl, hn1, X1, I1, ⟨G, hG⟩, hg1⟩; have c8 : w1.cell? ⟨fb, 8, none⟩ = some (.map (some G.dm)) := hG.bk.cell 8; have hlk := HLK.out w1 X1 I1 G hG; obtain ⟨A1, c1, A3, c3, hB⟩ := HB.out w1 X1 I1 G hG; have qf := hB.cell))
        go_ret
        exact ⟨rfl, X1, I1, ⟨G, hG⟩, hg1⟩
      · by_cases kz : (z : Int) < k
        · rw [if_pos (.inr kz)]
          go_enter Try.func9, Try.ntmps9
          go_wp2_with (first | (go_at_call 24; refine HO.out.mono ?_; rintro e w1 ⟨n, rfl, hn1, X1, I1, ⟨G, hG⟩, hg1⟩; have c8 : w1.cell? ⟨fb, 8, none⟩ = some (.map (some G.dm)) := hG.bk.cell 8; have hlk := HLK.out w1 X1 I1 G hG; obtain ⟨A1, c1, A3, c3, hB⟩ := HB.out w1 X1 I1 G hG; have qf := hB.cell))
          go_ret
          exact ⟨rfl, X1, I1, ⟨G, hG⟩, hg1⟩
        · rw [if_neg (by omega)]
          obtain ⟨m, rfl⟩ : ∃ m : Nat, k = (m : Int) := ⟨k.toNat, by omega⟩
          by_cases kl : (m : Int) < (z : Int)
          · rw [if_pos kl]
            have HDo := Lib.hid (fun (W : World) (X1 I1 : Nat → Prop) (G : Geo) (hG : FsG X1 I1 W fb b.1 G) => c_fileDo_cut W (k := m) (hG.files i hal) hG.xi (fun b hb => hG.lt b (.inr hb)) (by have := Hz.out; omega) (by have := Hz.out; omega) (by omega))
            go_enter Try.func9, Try.ntmps9
            go_wp2_with (first | (go_at_call 24; refine HO.out.mono ?_; rintro e w1 ⟨n, rfl, hn1, X1, I1, ⟨G, hG⟩, hg1⟩; have c8 : w1.cell? ⟨fb, 8, none⟩ = some (.map (some G.dm)) := hG.bk.cell 8; have hlk := HLK.out w1 X1 I1 G hG; obtain ⟨A1, c1, A3, c3, hB⟩ := HB.out w1 X1 I1 G hG; have qf := hB.cell; have HD := Lib.hid (HDo.out w1 X1 I1 G hG)) | (go_at_call 28; refine HD.out.mono ?_; rintro e w4 hD4; obtain rfl := hD4.1))
            go_ret
            obtain ⟨X2, I2, hP2, hg2⟩ := hG.did hal hil hD4
            exact ⟨rfl, X2, I2, hP2, hg1.trans hg2⟩
          · rw [if_neg kl]
            go_enter Try.func9, Try.ntmps9
            go_wp2_with (first | (go_at_call 24; refine HO.out.mono ?_; rintro e w1 ⟨n, rfl, hn1, X1, I1, ⟨G, hG⟩, hg1⟩; have c8 : w1.cell? ⟨fb, 8, none⟩ = some (.map (some G.dm)) := hG.bk.cell 8; have hlk := HLK.out w1 X1 I1 G hG; obtain ⟨A1, c1, A3, c3, hB⟩ := HB.out w1 X1 I1 G hG; have qf := hB.cell))
            go_ret
            exact ⟨rfl, X1, I1, ⟨G, hG⟩, hg1⟩
  · rw [if_pos hc]
    obtain ⟨st, cd⟩ := b
    simp only at hc HO
    have hcd : (cd == 0) = false := by rw [beq_eq_false_iff_ne]; exact hc
    go_enter Try.func9, Try.ntmps9
    go_wp2_with (first | (go_at_call 24; refine HO.out.mono ?_; rintro e w1 ⟨n, rfl, hn1, X1, I1, hP1, hg1⟩))
    go_ret
    exact ⟨rfl, X1, I1, hP1, hg1⟩
end Go.Proofs.Ytaanmnplfppdeaa
