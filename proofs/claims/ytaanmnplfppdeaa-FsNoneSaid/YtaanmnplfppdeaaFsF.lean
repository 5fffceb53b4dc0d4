/- Layer 1: a change to a file: the walk of do. -/
import Derived.Test.YtaanmnplfppdeaaFsE
import Derived.Deep.RegionWith
namespace Go.Lec
theorem ownsRow_setCell_far {w : World} {B : Nat} {e : TypeId} {v : Value} {xs : List Value} {a : Addr} (h : Own w B e v xs) (ha : v.ownBlock ≠ some a.block) (u : Value) : Own (w.setCell a u) B e v xs := OwnK.far h ha u
end Go.Lec
namespace Go.Proofs.Ytaanmnplfppdeaa
open Go.RowKit Go.Lec Go.Fsy Go.Op Go.Maps
theorem ahead_cutLay (n : Nat) (k : Int) (w : World) : (nilAhead (n + 1) 75 (.agg #[.int .i64 k]) "lectern/fs.lay").run Try.prog w = .ok (some false) w := by kernel_rfl
theorem method_cutLay (n : Nat) (k : Int) (w : World) : (method (n + 1) 75 (.agg #[.int .i64 k]) "lectern/fs.lay").run Try.prog w = .ok (94, .agg #[.int .i64 k]) w := by kernel_rfl
theorem ahead_addLay (n : Nat) (v : Value) (w : World) : (nilAhead (n + 1) 73 (.agg #[v]) "lectern/fs.lay").run Try.prog w = .ok (some false) w := by kernel_rfl
theorem method_addLay (n : Nat) (v : Value) (w : World) : (method (n + 1) 73 (.agg #[v]) "lectern/fs.lay").run Try.prog w = .ok (91, .agg #[v]) w := by kernel_rfl
theorem method_cutPart (n : Nat) (k : Int) (w : World) : (method (n + 1) 75 (.agg #[.int .i64 k]) "lectern/fs.part").run Try.prog w = .ok (95, .agg #[.int .i64 k]) w := by kernel_rfl
theorem method_addPart (n : Nat) (v : Value) (w : World) : (method (n + 1) 73 (.agg #[v]) "lectern/fs.part").run Try.prog w = .ok (92, .agg #[v]) w := by kernel_rfl
theorem slcK : SlK Try.prog 61 88 .nilIface 16 1 := ⟨Try.underlying61, info_parts infoC, rfl, by decide⟩
/-- What a change leaves of a file. -/
def DoP (X I : Nat → Prop) (w : World) (fb : Nat) (lv : Value) (nd : Nd) (e : Ending) (w' : World) : Prop :=
  e = .returned (.tuple #[]) ∧ ∃ lv', FileOk (fun b => X b ∨ lv'.ownBlock = some b) (fun b => I b ∨ (w.heap.size ≤ b ∧ b < w'.heap.size ∧ lv'.ownBlock ≠ some b)) w' fb lv' nd ∧ (lv'.ownBlock = lv.ownBlock ∨ ∃ g, lv'.ownBlock = some g ∧ w.heap.size ≤ g) ∧ KbP (fun b => b = fb ∨ lv.ownBlock = some b) w w'
theorem do_end {w W6 w7 : World} {X I : Nat → Prop} {fb c1 c5 c7 n5 : Nat} {lv v : Value} {nd : Nd} {A1 A3 A5 A7 : Option Addr} {vs : List Value} {c : Ch} {u3 : Value} (hxf : X fb) (hxl : ∀ g, lv.ownBlock = some g → X g) (hI : ∀ b, I b → ¬ X b)
    (hIl : ∀ b, I b → b < w.heap.size) (lfb : fb < w.heap.size) (hl : ∀ g, lv.ownBlock = some g → g < w.heap.size)
    (hR1 : RdP I w A1 nd.safe.length (bcs nd.safe)) (hc1 : nd.safe.length ≤ c1) (hV : ChVs I w vs nd.chg) (hv : ChV I w v c)
    (hk6 : KbP (fun b => b = fb ∨ lv.ownBlock = some b) w W6) (ho6 : Lec.Own W6 0 88 (.slice A5 n5 c5) (vs ++ [v])) (hat : (Value.slice A5 n5 c5).ownBlock = lv.ownBlock ∨ ∃ g, (Value.slice A5 n5 c5).ownBlock = some g ∧ w.heap.size ≤ g)
    (hB7 : Bk w7 fb 63 #[.slice A1 nd.safe.length c1, .slice A5 n5 c5, u3]) (hb7 : Below W6.heap.size W6 w7)
    (hR7 : RdP (fun b => W6.heap.size ≤ b ∨ I b) w7 A7 (Nd.mk nd.safe (nd.chg ++ [c])).data.length (bcs (Nd.mk nd.safe (nd.chg ++ [c])).data)) (hc7 : (Nd.mk nd.safe (nd.chg ++ [c])).data.length ≤ c7) :
    DoP X I w fb lv ⟨nd.safe, nd.chg ++ [c]⟩ (.returned (.tuple #[])) (w7.setCell ⟨fb, 2, none⟩ (.slice A7 (Nd.mk nd.safe (nd.chg ++ [c])).data.length c7)) := by
  have hk8 : KbP (fun b => b = fb ∨ lv.ownBlock = some b) w (w7.setCell ⟨fb, 2, none⟩ (.slice A7 (Nd.mk nd.safe (nd.chg ++ [c])).data.length c7)) := (hk6.after hb7).setCell (.inl (.inl rfl)) _
  have hk78 : KbP (fun b => b = fb) w7 (w7.setCell ⟨fb, 2, none⟩ (.slice A7 (Nd.mk nd.safe (nd.chg ++ [c])).data.length c7)) := (KbP.refl (fun b => b = fb) w7).setCell (p := ⟨fb, 2, none⟩) (.inl rfl) _
  have hIk : ∀ b, I b → ¬ (b = fb ∨ lv.ownBlock = some b) := fun b hb e => hI b hb (e.elim (fun e => e ▸ hxf) (fun e => hxl b e))
  have h5 : ∀ b, (Value.slice A5 n5 c5).ownBlock = some b → X b ∨ (w.heap.size ≤ b) := fun b hb => by
    rcases hat with h | ⟨g, h, hg⟩
    · exact .inl (hxl b (h.symm.trans hb))
    · rw [h] at hb; cases hb; exact .inr hg
  have hnI : ∀ b, I b → (Value.slice A5 n5 c5).ownBlock ≠ some b := fun b hb e => by
    rcases h5 b e with h | h
    · exact hI b hb h
    · have := hIl b hb; omega
  have ho7 : Lec.Own w7 0 88 (.slice A5 n5 c5) (vs ++ [v]) := ho6.below hb7 (Nat.le_refl _)
  have hne7 : (Value.slice A5 n5 c5).ownBlock ≠ some fb := own_bkK ho7 hB7 (by decide)
  have hB8 := hB7.set_ 2 (.slice A7 (Nd.mk nd.safe (nd.chg ++ [c])).data.length c7)
  have hsz : w.heap.size ≤ w7.heap.size := Nat.le_trans hk6.size hb7.size
  refine ⟨rfl, .slice A5 n5 c5, ⟨⟨A1, c1, A7, c7, vs ++ [v], hB8, ?_, hc1, ?_, hc7, ?_, ?_⟩, .inl hxf, fun g hg => .inr hg⟩, hat, hk8⟩
  · exact (hR1.kbP hk8 hIk).more (fun b hb => .inl hb)
  · refine (RdP.kbP (I := fun b => (W6.heap.size ≤ b ∧ b < w7.heap.size) ∨ I b) ⟨hR7.rd, fun hn p hp => ?_⟩ hk78 ?_).more ?_
    · rcases hR7.lie hn p hp with h | h
      · exact .inl ⟨h, hR7.lt hn p hp⟩
      · exact .inr h
    · rintro b (h | h) rfl
      · have := hk6.size; omega
      · exact hIk b h (.inl rfl)
    · rintro b (h | h)
      · refine .inr ⟨Nat.le_trans hk6.size h.1, by simpa using h.2, fun e => ?_⟩
        have h9 := (World.ownsRow.lt ho6 b e).2
        omega
      · exact .inl h
  · exact ownsRow_setCell_far (a := ⟨fb, 2, none⟩) ho7 hne7 _
  · have := ChVs.snoc hV hv
    exact ⟨this.1, fun k u d hu hd => ((this.2 k u d hu hd).kbP hk8 hIk).more (fun b hb => .inl hb)⟩
set_option maxRecDepth 100000 in
set_option maxHeartbeats 1600000 in
theorem c_fileDo_cut (w : World) {X I : Nat → Prop} {fb k : Nat} {lv : Value} {nd : Nd} (h : FileOk X I w fb lv nd) (hI : ∀ b, I b → ¬ X b) (hIl : ∀ b, I b → b < w.heap.size) (hk : k ≤ nd.data.length) (hd : nd.data.length ≤ 268435456) (hn : nd.chg.length ≤ 1073741824) :
    Calls Try.prog 28 #[.pointer (some ⟨fb, 0, none⟩), .iface 75 (.agg #[.int .i64 (k : Int)])] w (DoP X I w fb lv ⟨nd.safe, nd.chg ++ [.cut k]⟩) := by
  obtain ⟨A1, c1, A3, c3, vs, hB, hR1, hc1, hR3, hc3, hO, hV⟩ := h.ex
  have hvl : vs.length = nd.chg.length := hV.1
  have hfx := h.xf
  have q := hB.cell
  have z := hB.frz
  have lfb := hB.lt
  have hne := own_bkK hO hB (by decide)
  have hl := fun g hg => (World.ownsRow.lt hO g hg).2
  have hO' : OwnK w 0 88 1 lv nd.chg.length vs := by have := hO; unfold Lec.Own at this; rw [hvl] at this; exact this
  go_enter Try.func28, Try.ntmps28
  go_wp2_with (at_builtin; go_loud ((refine wpList_appK_new (m := 1) rfl _ _ rfl slcK (by decide) rfl hO' (Below.refl 0 w) (Nat.zero_le _) rfl (news := [.iface 75 (.agg #[.int .i64 (k : Int)])]) rfl (by intro u hu; rw [List.mem_singleton.1 hu]; rfl) (by omega) ?_); intro v5 w5 ho5 hb5 hg5 hat5 _; obtain ⟨A5, c5, rfl, hc5⟩ := ho5.shape; have hB5 := bkGrown hB hg5 hne; have q5 := hB5.cell; have z5 := hB5.frz))
  have ho5' : Lec.Own w5 0 88 (.slice A5 (nd.chg.length + 1) c5) (vs ++ [.iface 75 (.agg #[.int .i64 (k : Int)])]) := by unfold Lec.Own; rw [List.length_append, hvl]; exact ho5
  have hB6 := hB5.set_ 1 (.slice A5 (nd.chg.length + 1) c5)
  have ho6 := ownsRow_setCell_far (a := ⟨fb, 1, none⟩) ho5' (own_bkK ho5' hB5 (by decide)) (.slice A5 (nd.chg.length + 1) c5)
  have hk6 : KbP (fun b => b = fb ∨ lv.ownBlock = some b) w (w5.setCell ⟨fb, 1, none⟩ (.slice A5 (nd.chg.length + 1) c5)) := ((KbP.refl _ _).grown hg5 (fun g e => .inl (.inr e))).setCell (.inl (.inl rfl)) _
  obtain ⟨W6, hW6⟩ : ∃ x, x = w5.setCell ⟨fb, 1, none⟩ (.slice A5 (nd.chg.length + 1) c5) := ⟨_, rfl⟩
  rw [← hW6] at hB6 ho6 hk6 ⊢
  have hIk : ∀ b, I b → ¬ (b = fb ∨ lv.ownBlock = some b) := fun b hb e => hI b hb (e.elim (fun e => e ▸ hfx) (fun e => h.xl b e))
  have hR36 := hR3.kbP hk6 hIk
  have q6 := hB6.cell
  have z6 := hB6.frz
  have HC := Lib.hid (fun W (hb : Below W6.heap.size W6 W) => c_cutLay W (c := c3) (k := k) ((hR36.rd.below hb (Nat.le_refl _)).more hb.size) hc3 hk (by omega))
  have Hat := Lib.hid (show (Value.slice A5 (nd.chg.length + 1) c5).ownBlock = lv.ownBlock ∨ ∃ g, (Value.slice A5 (nd.chg.length + 1) c5).ownBlock = some g ∧ w.heap.size ≤ g from hat5)
  clear hW6 q5 z5 q z hg5 hb5 ho5 hat5 ho5'
  have hna := fun n w => ahead_cutLay n (k : Int) w
  have hme := fun n w => method_cutLay n (k : Int) w
  go_region_with (go_at_call 94; refine (HC.out _ (Below.drew (Below.refl _ _))).mono ?_; rintro e w7 ⟨A7, c7, rfl, hc7, hR7, hb7⟩; have hB7 := hB6.drew.below hb7 hB6.lt; have q7 := hB7.cell; have z7 := hB7.frz)
  all_goals
    have hde : (Nd.mk nd.safe (nd.chg ++ [.cut k])).data = nd.data.take k := dataOf_snoc _ _ _
    have hdl : (Nd.mk nd.safe (nd.chg ++ [.cut k])).data.length = k := by rw [hde, List.length_take]; omega
    have := do_end (c7 := c7) (A3 := A3) (A7 := A7) (c := .cut k) hfx h.xl hI hIl lfb hl hR1 hc1 hV (show ChV I w (.iface 75 (.agg #[.int .i64 (k : Int)])) (.cut k) from rfl) hk6 ho6 Hat.out hB7 ((Below.drew (Below.refl W6.heap.size W6)).trans hb7) (by rw [hdl, hde]; exact hR7.more (fun b hb => .inl hb)) (by rw [hdl]; exact hc7)
    rw [hdl] at this
    go_end0
    exact this
set_option maxRecDepth 100000 in
set_option maxHeartbeats 1600000 in
theorem c_fileDo_add (w : World) {X I : Nat → Prop} {fb d : Nat} {B : Option Addr} {b : Bs} {lv : Value} {nd : Nd} (h : FileOk X I w fb lv nd) (hI : ∀ b, I b → ¬ X b) (hIl : ∀ b, I b → b < w.heap.size) (hb : RdP I w B b.length (bcs b)) (hbd : b.length ≤ d) (hd : nd.data.length + b.length ≤ 268435456) (hn : nd.chg.length ≤ 1073741824) :
    Calls Try.prog 28 #[.pointer (some ⟨fb, 0, none⟩), .iface 73 (.agg #[.slice B b.length d])] w (DoP X I w fb lv ⟨nd.safe, nd.chg ++ [.add b]⟩) := by
  obtain ⟨A1, c1, A3, c3, vs, hB, hR1, hc1, hR3, hc3, hO, hV⟩ := h.ex
  have hvl : vs.length = nd.chg.length := hV.1
  have hfx := h.xf
  have q := hB.cell
  have z := hB.frz
  have lfb := hB.lt
  have hne := own_bkK hO hB (by decide)
  have hl := fun g hg => (World.ownsRow.lt hO g hg).2
  have hO' : OwnK w 0 88 1 lv nd.chg.length vs := by have := hO; unfold Lec.Own at this; rw [hvl] at this; exact this
  go_enter Try.func28, Try.ntmps28
  go_wp2_with (at_builtin; go_loud ((refine wpList_appK_new (m := 1) rfl _ _ rfl slcK (by decide) rfl hO' (Below.refl 0 w) (Nat.zero_le _) rfl (news := [.iface 73 (.agg #[.slice B b.length d])]) rfl (by intro u hu; rw [List.mem_singleton.1 hu]; rfl) (by omega) ?_); intro v5 w5 ho5 hb5 hg5 hat5 _; obtain ⟨A5, c5, rfl, hc5⟩ := ho5.shape; have hB5 := bkGrown hB hg5 hne; have q5 := hB5.cell; have z5 := hB5.frz))
  have ho5' : Lec.Own w5 0 88 (.slice A5 (nd.chg.length + 1) c5) (vs ++ [.iface 73 (.agg #[.slice B b.length d])]) := by unfold Lec.Own; rw [List.length_append, hvl]; exact ho5
  have hB6 := hB5.set_ 1 (.slice A5 (nd.chg.length + 1) c5)
  have ho6 := ownsRow_setCell_far (a := ⟨fb, 1, none⟩) ho5' (own_bkK ho5' hB5 (by decide)) (.slice A5 (nd.chg.length + 1) c5)
  have hk6 : KbP (fun b => b = fb ∨ lv.ownBlock = some b) w (w5.setCell ⟨fb, 1, none⟩ (.slice A5 (nd.chg.length + 1) c5)) := ((KbP.refl _ _).grown hg5 (fun g e => .inl (.inr e))).setCell (.inl (.inl rfl)) _
  obtain ⟨W6, hW6⟩ : ∃ x, x = w5.setCell ⟨fb, 1, none⟩ (.slice A5 (nd.chg.length + 1) c5) := ⟨_, rfl⟩
  rw [← hW6] at hB6 ho6 hk6 ⊢
  have hIk : ∀ b, I b → ¬ (b = fb ∨ lv.ownBlock = some b) := fun b hb e => hI b hb (e.elim (fun e => e ▸ hfx) (fun e => h.xl b e))
  have hR36 := hR3.kbP hk6 hIk
  have q6 := hB6.cell
  have z6 := hB6.frz
  have hRb6 := hb.kbP hk6 hIk
  have HC := Lib.hid (fun W (hw : Below W6.heap.size W6 W) => c_addedLay W (c := c3) (d := d) ((hR36.rd.below hw (Nat.le_refl _)).more hw.size) hc3 ((hRb6.rd.below hw (Nat.le_refl _)).more hw.size) (by omega))
  have Hat := Lib.hid (show (Value.slice A5 (nd.chg.length + 1) c5).ownBlock = lv.ownBlock ∨ ∃ g, (Value.slice A5 (nd.chg.length + 1) c5).ownBlock = some g ∧ w.heap.size ≤ g from hat5)
  clear hW6 q5 z5 q z hg5 hb5 ho5 hat5 ho5'
  have hna := fun n w => ahead_addLay n (.slice B b.length d) w
  have hme := fun n w => method_addLay n (.slice B b.length d) w
  go_region_with (go_at_call 91; refine (HC.out _ (Below.drew (Below.refl _ _))).mono ?_; rintro e w7 ⟨v7, rfl, A7, c7, rfl, hc7, hR7, hN7, hb7⟩; have hB7 := hB6.drew.below hb7 hB6.lt; have q7 := hB7.cell; have z7 := hB7.frz)
  all_goals
    have hde : (Nd.mk nd.safe (nd.chg ++ [.add b])).data = nd.data ++ b := dataOf_snoc _ _ _
    have hdl : (Nd.mk nd.safe (nd.chg ++ [.add b])).data.length = nd.data.length + b.length := by rw [hde, List.length_append]
    have := do_end (c7 := c7) (A3 := A3) (A7 := A7) (c := .add b) hfx h.xl hI hIl lfb hl hR1 hc1 hV (show ChV I w (.iface 73 (.agg #[.slice B b.length d])) (.add b) from ⟨B, d, rfl, hb, hbd⟩) hk6 ho6 Hat.out hB7 ((Below.drew (Below.refl W6.heap.size W6)).trans hb7) (by rw [hdl, hde]; exact ⟨hR7, fun h0 p hp => (hN7 h0 p hp).elim (fun e => .inr (hR3.lie e.2 p e.1)) (fun e => .inl e)⟩) (by rw [hdl]; exact hc7)
    rw [hdl] at this
    go_end0
    exact this
end Go.Proofs.Ytaanmnplfppdeaa
