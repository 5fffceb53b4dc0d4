/- Layer 1: the directory is made safe: the walk of SyncDir. -/
import Derived.Test.YtaanmnplfppdeaaFsS
namespace Go.Proofs.Ytaanmnplfppdeaa
open Go.RowKit Go.Lec Go.Fsy Go.Op Go.Maps
section
variable {X I : Nat → Prop} {w w1 w' : World} {fb : Nat} {s : St} {G : Geo}
/-- What an operation that answers a code alone leaves. -/
def UpdP (X I : Nat → Prop) (w : World) (fb : Nat) (r : St × Int) (e : Ending) (w' : World) : Prop := e = .returned (.int .i64 r.2) ∧ ∃ X' I', FsP X' I' w' fb r.1 ∧ Grow X I w X' I' w'
/-- The safe directory is made anew out of the directory. -/
theorem FsG.settled {sm' : Nat} (h : FsG X I w fb s G) (hb1 : Below w.heap.size w w1) (hm : w1.ownsMap Try.prog 9 ptrR sm' s.dir.length G.D1) (hd : w.heap.size ≤ sm') (hk : KbP (fun b => b = fb) w1 w') (hb : Bk w' fb 38 (fsCs s { G with sm := sm', D2 := G.D1, mv := .slice none 0 0 })) :
    FsG (fun b => X b ∨ b = sm') I w' fb (Fsy.settle s) { G with sm := sm', D2 := G.D1, mv := .slice none 0 0 } := by
  have h1 := h.below hb1
  have hI : ∀ b, I b → ¬ b = fb := fun b hb e => h.xi b hb (e ▸ h.xfb)
  have hal : ∀ i, alive (Fsy.settle s) i → alive s i := fun i hi => by
    rcases hi with ⟨n, hn⟩ | ⟨n, hn⟩ | ⟨m, hm, _⟩
    · exact .inl ⟨n, hn⟩
    · exact .inl ⟨n, hn⟩
    · cases hm
  have hsmlt := h.dmap.lt
  have hfl := h.bk.lt
  refine ⟨hb, h1.rk.kbP hk hI, h1.rf.kbP hk hI, h1.ru.kbP hk hI, h.nk, h.nf, h.nu, ownsMap_kbP h1.dmap hk (fun e => bk_map h.bk h.dmap e.symm), ownsMap_kbP hm hk (fun e => by change sm' = fb at e; omega), h.rep1, h.rep1,
    ⟨rfl, .inl ⟨rfl, rfl⟩⟩, fun i hi => ?_, fun i j hi hj => h.inj i j (hal i hi) (hal j hj), fun i j g hi hj => h.injl i j g (hal i hi) (hal j hj), (fun e => by change G.dm = sm' at e; omega), .inl h.xfb, .inl h.xdm, .inr rfl, (fun g hg => by cases hg), fun b hb hx => ?_, fun b hb' => ?_⟩
  · have hf := h1.files i (hal i hi)
    obtain ⟨vs, hO⟩ := hf.own
    obtain ⟨cs, hB⟩ := hf.bk
    exact (hf.kbP hk (fun e => bk_ne h1.bk hB (by decide) e.symm) (fun g hg e => own_bkK hO h1.bk (by decide) (e ▸ hg)) hI).more (fun b => .inl) (fun b hb => hb)
  · rcases hx with hx | hx
    · exact h.xi b hb hx
    · have := h.lt b (.inr hb); omega
  · have h2 := hb1.size
    have h3 := hk.size
    rcases hb' with (hb' | hb') | hb'
    · have := h.lt b (.inl hb'); omega
    · have := hm.lt; omega
    · have := h.lt b (.inr hb'); omega
end
set_option maxRecDepth 100000 in
set_option maxHeartbeats 1600000 in
theorem c_SyncDir (w : World) {X I : Nat → Prop} {fb N : Nat} {s : St} (h : FsP X I w fb s) (hi : Fsy.Inv s N) (hN : N ≤ 1048575) (hp : s.pl.ok) :
    Calls Try.prog 13 #[ptrV fb] w (UpdP X I w fb (Fsy.syncDir s)) := by
  have HO := Lib.hid (c_op w h hi hN hp)
  unfold OpP at HO
  have hbi := hi.begin
  have hpl : (Fsy.begin s).1.pl = s.pl := by
    unfold Fsy.begin
    split
    · rfl
    · split
      · rfl
      · split <;> rfl
  obtain ⟨b, hb⟩ : ∃ x, x = Fsy.begin s := ⟨_, rfl⟩
  have hsd : Fsy.syncDir s = if b.2 ≠ 0 then b else if Fsy.full b.1 then (b.1, 11) else (Fsy.settle b.1, 0) := by rw [hb]; rfl
  rw [← hb] at HO hbi hpl
  have hp1 : b.1.pl.ok := by rw [hpl]; exact hp
  rw [hsd]
  clear hsd hb h hi hpl hp
  unfold ptrV at *
  by_cases hc : b.2 = 0
  · rw [if_neg (by simpa using hc)]
    rw [hc] at HO
    obtain ⟨fl, hfl⟩ : ∃ x, x = Fsy.full b.1 := ⟨_, rfl⟩
    have hno : noRoom b.1 0 = fl := by rw [hfl]; simp [noRoom]
    rw [← hfl]
    clear hfl hc
    cases fl with
    | true =>
      rw [if_pos rfl]
      go_enter Try.func13, Try.ntmps13
      go_wp2_with (first | (go_at_call 24; refine HO.out.mono ?_; rintro e w1 ⟨n, rfl, hn, X1, I1, hP1, hg1⟩; have hn := hn rfl; subst hn; have HF := Lib.hid (c_full w1 hP1 hbi (by omega) hp1 0 (by omega)); rw [hno] at HF) | (go_at_call 26; refine HF.out.mono ?_; rintro e w2 ⟨rfl, hb2⟩))
      go_ret
      exact ⟨rfl, X1, I1, hP1.below hb2, hg1.trans (Grow.of_kb (KbP.of_below hb2))⟩
    | false =>
      rw [if_neg Bool.false_ne_true]
      go_enter Try.func13, Try.ntmps13
      go_wp2_with (first | (go_at_call 24; refine HO.out.mono ?_; rintro e w1 ⟨n, rfl, hn, X1, I1, hP1, hg1⟩; have hn := hn rfl; subst hn; have HF := Lib.hid (c_full w1 hP1 hbi (by omega) hp1 0 (by omega)); rw [hno] at HF) | (go_at_call 26; refine HF.out.mono ?_; rintro e w2 ⟨rfl, hb2⟩; obtain ⟨G, hG⟩ := hP1.below hb2; have c8 : w2.cell? ⟨fb, 8, none⟩ = some (.map (some G.dm)) := hG.bk.cell 8; have HC := Lib.hid (c_mapClone w2 hG.dmap)) | (go_at_call 29; refine HC.out.mono ?_; rintro e w3 ⟨rfl, hm3, hb3⟩; have hB3 := hG.bk.below hb3 hG.bk.lt; have q3 := hB3.cell; have z3 := hB3.frz))
      go_ret
      have hk8 : KbP (fun b => b = fb) w3 ((w3.setCell ⟨fb, 9, none⟩ (.map (some w2.heap.size))).setCell ⟨fb, 10, none⟩ (.slice none 0 0)) := ((KbP.refl (fun b => b = fb) w3).setCell (p := ⟨fb, 9, none⟩) (.inl rfl) _).setCell (p := ⟨fb, 10, none⟩) (.inl rfl) _
      have hT := FsG.settled (sm' := w2.heap.size) hG hb3 hm3 (Nat.le_refl _) hk8 ((hB3.set_ 9 (.map (some w2.heap.size))).set_ 10 (.slice none 0 0))
      refine ⟨rfl, _, I1, ⟨_, hT⟩, (hg1.trans (Grow.of_kb (KbP.of_below hb2))).trans ⟨fun b hb => hb.imp_right (fun e => by rw [e]; exact Nat.le_refl _), fun b hb => .inl hb, ((KbP.of_below hb3 : KbP X1 w2 w3)).trans hk8 (fun b e => .inl (e ▸ hG.xfb))⟩⟩
  · rw [if_pos hc]
    obtain ⟨st, cd⟩ := b
    simp only at hc HO
    go_enter Try.func13, Try.ntmps13
    have hcd : (cd == 0) = false := by rw [beq_eq_false_iff_ne]; exact hc
    go_wp2_with (first | (go_at_call 24; refine HO.out.mono ?_; rintro e w1 ⟨n, rfl, hn, X1, I1, hP1, hg1⟩))
    go_ret
    exact ⟨rfl, X1, I1, hP1, hg1⟩
end Go.Proofs.Ytaanmnplfppdeaa
