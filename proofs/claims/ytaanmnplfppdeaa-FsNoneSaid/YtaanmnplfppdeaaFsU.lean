/- Layer 1: a file is made safe: the walk of Sync. -/
import Derived.Test.YtaanmnplfppdeaaFsT
namespace Go.Proofs.Ytaanmnplfppdeaa
open Go.RowKit Go.Lec Go.Fsy Go.Op Go.Maps
theorem begin_pl (s : St) : (Fsy.begin s).1.pl = s.pl := by
  unfold Fsy.begin
  split
  · rfl
  · split
    · rfl
    · split <;> rfl
/-- A file that was made safe. -/
theorem fileSync {X I : Nat → Prop} {w w4 : World} {fi c1 c3 c4 : Nat} {A1 A3 A4 : Option Addr} {lv : Value} {nd : Nd} (hx : X fi) (hxi : ∀ b, I b → ¬ X b) (hB : Bk w fi 63 #[.slice A1 nd.safe.length c1, lv, .slice A3 nd.data.length c3]) (hR3 : RdP I w A3 nd.data.length (bcs nd.data)) (hc3 : nd.data.length ≤ c3)
    (hR4 : RdP (fun b => w.heap.size ≤ b) w4 A4 nd.data.length (bcs nd.data)) (hc4 : nd.data.length ≤ c4) (hb4 : Below w.heap.size w w4) :
    FileOk X (fun q => I q ∨ (w.heap.size ≤ q ∧ q < ((w4.setCell ⟨fi, 0, none⟩ (.slice A4 nd.data.length c4)).setCell ⟨fi, 1, none⟩ (.slice none 0 0)).heap.size)) ((w4.setCell ⟨fi, 0, none⟩ (.slice A4 nd.data.length c4)).setCell ⟨fi, 1, none⟩ (.slice none 0 0)) fi (.slice none 0 0) ⟨nd.data, []⟩ ∧
      KbP (fun q => q = fi) w ((w4.setCell ⟨fi, 0, none⟩ (.slice A4 nd.data.length c4)).setCell ⟨fi, 1, none⟩ (.slice none 0 0)) := by
  have hfl := hB.lt
  have s4 := hb4.size
  have hB4 := hB.below hb4 hfl
  have hk4 : KbP (fun q => q = fi) w4 ((w4.setCell ⟨fi, 0, none⟩ (.slice A4 nd.data.length c4)).setCell ⟨fi, 1, none⟩ (.slice none 0 0)) := ((KbP.refl (fun q => q = fi) w4).setCell (p := ⟨fi, 0, none⟩) (.inl rfl) _).setCell (p := ⟨fi, 1, none⟩) (.inl rfl) _
  have r4 := hR4.kbP hk4 (fun b hb e => by omega)
  have r3 := (hR3.kbP (KbP.of_below hb4 : KbP (fun _ => False) w w4) (fun _ _ h => h)).kbP hk4 (fun b hb e => hxi b hb (e ▸ hx))
  exact ⟨⟨⟨A4, c4, A3, c3, [], (hB4.set_ 0 _).set_ 1 _, ⟨r4.rd, fun h p hp => .inr ⟨r4.lie h p hp, r4.lt h p hp⟩⟩, hc4, r3.more (fun b => .inl), hc3, OwnK.nil_ _ _ _ _, rfl, fun k v c h => by simp at h⟩, hx, fun g hg => by cases hg⟩, ((KbP.refl (fun q => q = fi) w).after hb4).trans hk4 (fun b e => .inl e)⟩
set_option maxRecDepth 100000 in
set_option maxHeartbeats 1600000 in
theorem c_Sync (w : World) {X I : Nat → Prop} {fb N : Nat} {s : St} {name : Bs} (h : FsP X I w fb s) (hi : Fsy.Inv s N) (hN : N ≤ 1048575) (hp : s.pl.ok) (hn : name.length ≤ 4294967296) :
    Calls Try.prog 10 #[ptrV fb, .string ⟨name.toArray⟩] w (UpdP X I w fb (Fsy.sync s name)) := by
  have HO := Lib.hid (c_op w h hi hN hp)
  unfold OpP at HO
  have hbi := hi.begin
  obtain ⟨b, hb⟩ : ∃ x, x = Fsy.begin s := ⟨_, rfl⟩
  have hsd : Fsy.sync s name = if b.2 ≠ 0 then b else match node b.1.dir name with | none => (b.1, 14) | some i => (setNd b.1 i ⟨(ndAt b.1.nodes i).data, []⟩, 0) := by rw [hb]; rfl
  rw [← hb] at HO hbi
  rw [hsd]
  clear hsd hb h hi hp
  unfold ptrV at *
  by_cases hc : b.2 = 0
  · rw [if_neg (by simpa using hc)]
    rw [hc] at HO
    have HLK := Lib.hid (fun (W : World) (X1 I1 : Nat → Prop) (G : Geo) (hG : FsG X1 I1 W fb b.1 G) => look_ok hG.dmap hG.rep1 hn)
    cases hnd : node b.1.dir name with
    | none =>
      rw [hnd] at HLK
      clear hc
      go_enter Try.func10, Try.ntmps10
      go_wp2_with (first | (go_at_call 24; refine HO.out.mono ?_; rintro e w1 ⟨n, rfl, hn1, X1, I1, ⟨G, hG⟩, hg1⟩; have c8 : w1.cell? ⟨fb, 8, none⟩ = some (.map (some G.dm)) := hG.bk.cell 8; have hlk := HLK.out w1 X1 I1 G hG))
      go_ret
      exact ⟨rfl, X1, I1, ⟨G, hG⟩, hg1⟩
    | some i =>
      rw [hnd] at HLK
      have hal : alive b.1 i := .inl ⟨_, node_some hnd⟩
      have hil := (hbi.dir.2 _ (node_some hnd)).2.2
      have hsz := hbi.size i
      clear hc
      unfold ptrV at *
      go_enter Try.func10, Try.ntmps10
      go_wp2_with (first | (go_at_call 24; refine HO.out.mono ?_; rintro e w1 ⟨n, rfl, hn1, X1, I1, ⟨G, hG⟩, hg1⟩; have c8 : w1.cell? ⟨fb, 8, none⟩ = some (.map (some G.dm)) := hG.bk.cell 8; have hlk := HLK.out w1 X1 I1 G hG; obtain ⟨A1, c1, A3, c3, vs, hB, hR1, hc1, hR3, hc3, _⟩ := (hG.files i hal).ex; have qf := hB.cell; have HC := Lib.hid (c_CloneB w1 (c := c3) hR3.rd (Nat.le_refl _) (by unfold sizeAt at hsz; omega))) | (go_at_call 23; refine HC.out.mono ?_; rintro e w4 ⟨A4, c4, rfl, hc4, hR4, hb4⟩; have hB4 := hB.below hb4 hB.lt; have q4 := hB4.cell; have z4 := hB4.frz))
      go_ret
      have hfs := fileSync (hG.files i hal).xf hG.xi hB hR3 hc3 hR4 hc4 hb4
      obtain ⟨X2, I2, hP2, hg2⟩ := fs_setNd (nd := ⟨(ndAt b.1.nodes i).data, []⟩) (lv' := .slice none 0 0) hG hal hil (hfs.1.more (fun q => .inl) (fun q hq => hq.imp_right (fun e => ⟨e.1, e.2, fun e => by cases e⟩))) (.inr (fun g hg => by cases hg)) (hfs.2.more (fun q hq => .inl hq))
      exact ⟨rfl, X2, I2, hP2, hg1.trans hg2⟩
  · rw [if_pos hc]
    obtain ⟨st, cd⟩ := b
    simp only at hc HO
    have hcd : (cd == 0) = false := by rw [beq_eq_false_iff_ne]; exact hc
    go_enter Try.func10, Try.ntmps10
    go_wp2_with (first | (go_at_call 24; refine HO.out.mono ?_; rintro e w1 ⟨n, rfl, hn1, X1, I1, hP1, hg1⟩))
    go_ret
    exact ⟨rfl, X1, I1, hP1, hg1⟩
end Go.Proofs.Ytaanmnplfppdeaa
