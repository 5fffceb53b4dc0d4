/- Layer 1: a file of a file system is changed: what holds of the whole. -/
import Derived.Test.YtaanmnplfppdeaaFsF
namespace Go.Fsy
theorem ndAt_set {l : List Nd} {i : Nat} (h : i < l.length) (n : Nd) : ndAt (l.set i n) i = n := by simp [ndAt, List.getD_eq_getElem?_getD, h]
theorem ndAt_other {l : List Nd} {i j : Nat} (h : i ≠ j) (n : Nd) : ndAt (l.set i n) j = ndAt l j := by simp [ndAt, List.getD_eq_getElem?_getD, h]
theorem alive_lt {s : St} {N i : Nat} (h : Inv s N) (hi : alive s i) : i < s.nodes.length := by
  rcases hi with ⟨n, hn⟩ | ⟨n, hn⟩ | ⟨m, hm, hd⟩
  · exact (h.dir.2 _ hn).2.2
  · exact (h.safe.2 _ hn).2.2
  · have := (h.mvs m hm).1
    cases m with
    | made a j => cases hd; exact this.2
    | ren a b j => cases hd; exact this.2.2
    | rem a => cases hd
end Go.Fsy
namespace Go.Proofs.Ytaanmnplfppdeaa
open Go.RowKit Go.Lec Go.Fsy Go.Op Go.Maps
theorem FileOk.own {X I : Nat → Prop} {w : World} {fb : Nat} {lv : Value} {nd : Nd} (h : FileOk X I w fb lv nd) : ∃ vs, Lec.Own w 0 88 lv vs := by
  obtain ⟨A1, c1, A3, c3, vs, h1, h2, h3, h4, h5, h6, h7⟩ := h.ex
  exact ⟨vs, h6⟩
theorem FileOk.bk {X I : Nat → Prop} {w : World} {fb : Nat} {lv : Value} {nd : Nd} (h : FileOk X I w fb lv nd) : ∃ cs, Bk w fb 63 cs := by
  obtain ⟨A1, c1, A3, c3, vs, h1, h2, h3, h4, h5, h6, h7⟩ := h.ex
  exact ⟨_, h1⟩
/-- What a change of one file's blocks leaves alone. -/
structure OneF (X I : Nat → Prop) (w : World) (fb : Nat) (s : St) (G : Geo) (i : Nat) (Y : Nat → Prop) : Prop where
  fb : ¬ Y fb
  dm : ¬ Y G.dm
  sm : ¬ Y G.sm
  mv : ∀ g, G.mv.ownBlock = some g → ¬ Y g
  fid : ∀ j, alive s j → j ≠ i → ¬ Y (G.fid j)
  lv : ∀ j g, alive s j → j ≠ i → (G.lv j).ownBlock = some g → ¬ Y g
  im : ∀ b, I b → ¬ Y b
theorem FsG.one {X I : Nat → Prop} {w : World} {fb : Nat} {s : St} {G : Geo} {i : Nat} (h : FsG X I w fb s G) (hi : alive s i) : OneF X I w fb s G i (fun b => b = G.fid i ∨ (G.lv i).ownBlock = some b) := by
  have hf := h.files i hi
  obtain ⟨vs, hO⟩ := hf.own
  obtain ⟨cs, hB⟩ := hf.bk
  refine ⟨?_, ?_, ?_, ?_, ?_, ?_, ?_⟩
  · rintro (e | e)
    · exact bk_ne h.bk hB (by decide) e
    · exact own_bkK hO h.bk (by decide) e
  · rintro (e | e)
    · exact bk_map hB h.dmap e.symm
    · exact own_map hO h.dmap e
  · rintro (e | e)
    · exact bk_map hB h.smap e.symm
    · exact own_map hO h.smap e
  · rintro g hg (e | e)
    · exact own_bkK h.mvs hB (by decide) (by rw [← e]; exact hg)
    · exact own_own h.mvs hO (by decide) g hg e
  · rintro j hj hji (e | e)
    · exact hji (h.inj j i hj hi e)
    · obtain ⟨cs2, hB2⟩ := (h.files j hj).bk
      exact own_bkK hO hB2 (by decide) e
  · rintro j g hj hji hg (e | e)
    · obtain ⟨vs2, hO2⟩ := (h.files j hj).own
      exact own_bkK hO2 hB (by decide) (by rw [← e]; exact hg)
    · exact hji (h.injl j i g hj hi hg e)
  · rintro b hb (e | e)
    · exact h.xi b hb (e ▸ hf.xf)
    · exact h.xi b hb (hf.xl b e)
/-- A file has changed: the file system has. -/
theorem fs_setNdG {X I : Nat → Prop} {w w' : World} {fb : Nat} {s : St} {G : Geo} {i : Nat} {nd : Nd} {lv' : Value} (h : FsG X I w fb s G) (hi : alive s i) (hlen : i < s.nodes.length)
    (hf : FileOk (fun b => X b ∨ lv'.ownBlock = some b) (fun b => I b ∨ (w.heap.size ≤ b ∧ b < w'.heap.size ∧ lv'.ownBlock ≠ some b)) w' (G.fid i) lv' nd)
    (hat : lv'.ownBlock = (G.lv i).ownBlock ∨ ∀ g, lv'.ownBlock = some g → w.heap.size ≤ g) (hk : KbP (fun b => b = G.fid i ∨ (G.lv i).ownBlock = some b) w w') :
    ∃ X' I' lv, FsG X' I' w' fb (setNd s i nd) { G with lv := lv } ∧ Grow X I w X' I' w' := by
  have h1 := h.one hi
  have hl : ∀ g, lv'.ownBlock = some g → X g ∨ w.heap.size ≤ g := fun g hg => by
    rcases hat with e | e
    · exact .inl ((h.files i hi).xl g (e ▸ hg))
    · exact .inr (e g hg)
  refine ⟨fun b => X b ∨ lv'.ownBlock = some b, fun b => I b ∨ (w.heap.size ≤ b ∧ b < w'.heap.size ∧ lv'.ownBlock ≠ some b), fun j => if j = i then lv' else G.lv j, ?_, ⟨fun b hb => hb.elim .inl (hl b), fun b hb => hb.imp_right (fun e => e.1), hk.more (fun b hb => hb.elim (fun e => e ▸ (h.files i hi).xf) (fun e => (h.files i hi).xl b e))⟩⟩
  have hnew : ∀ j g, alive s j → j ≠ i → (G.lv j).ownBlock = some g → lv'.ownBlock ≠ some g := fun j g hj hji hg e => by
    rcases hat with e' | e'
    · exact hji (h.injl j i g hj hi hg (e' ▸ e))
    · have := e' g e
      obtain ⟨vs2, hO2⟩ := (h.files j hj).own
      have := (World.ownsRow.lt hO2 g hg).2
      omega
  refine ⟨h.bk.kbP hk h1.fb, (h.rk.kbP hk h1.im).more (fun b => .inl), (h.rf.kbP hk h1.im).more (fun b => .inl), (h.ru.kbP hk h1.im).more (fun b => .inl), h.nk, h.nf, h.nu, ownsMap_kbP h.dmap hk h1.dm, ownsMap_kbP h.smap hk h1.sm, h.rep1, h.rep2,
    OwnK.kbP h.mvs hk h1.mv, ?_, h.inj, ?_, h.ne, .inl h.xfb, .inl h.xdm, .inl h.xsm, fun g hg => .inl (h.xmv g hg), ?_, ?_⟩
  · intro j hj
    by_cases hji : j = i
    · subst hji
      show FileOk _ _ w' (G.fid j) (if j = j then lv' else G.lv j) (ndAt (s.nodes.set j nd) j)
      rw [if_pos rfl, ndAt_set hlen]
      exact hf
    · show FileOk _ _ w' (G.fid j) (if j = i then lv' else G.lv j) (ndAt (s.nodes.set i nd) j)
      rw [if_neg hji, ndAt_other (Ne.symm hji)]
      exact ((h.files j hj).kbP hk (h1.fid j hj hji) (fun g hg => h1.lv j g hj hji hg) h1.im).more (fun b => .inl) (fun b => .inl)
  · intro j k g hj hk' hgj hgk
    change (if j = i then lv' else G.lv j).ownBlock = some g at hgj
    change (if k = i then lv' else G.lv k).ownBlock = some g at hgk
    by_cases hji : j = i
    · by_cases hki : k = i
      · rw [hji, hki]
      · rw [if_pos hji] at hgj; rw [if_neg hki] at hgk
        exact absurd hgj (hnew k g hk' hki hgk)
    · by_cases hki : k = i
      · rw [if_neg hji] at hgj; rw [if_pos hki] at hgk
        exact absurd hgk (hnew j g hj hji hgj)
      · rw [if_neg hji] at hgj; rw [if_neg hki] at hgk
        exact h.injl j k g hj hk' hgj hgk
  · rintro b (hb | hb) (hx | hx)
    · exact h.xi b hb hx
    · rcases hl b hx with e | e
      · exact h.xi b hb e
      · have := h.lt b (.inr hb); omega
    · have := h.lt b (.inl hx); omega
    · exact hb.2.2 hx
  · rintro b ((hb | hb) | (hb | hb))
    · exact Nat.lt_of_lt_of_le (h.lt b (.inl hb)) hk.size
    · obtain ⟨vs2, hO2⟩ := hf.own
      exact (World.ownsRow.lt hO2 b hb).2
    · exact Nat.lt_of_lt_of_le (h.lt b (.inr hb)) hk.size
    · exact hb.2.1
theorem fs_setNd {X I : Nat → Prop} {w w' : World} {fb : Nat} {s : St} {G : Geo} {i : Nat} {nd : Nd} {lv' : Value} (h : FsG X I w fb s G) (hi : alive s i) (hlen : i < s.nodes.length)
    (hf : FileOk (fun b => X b ∨ lv'.ownBlock = some b) (fun b => I b ∨ (w.heap.size ≤ b ∧ b < w'.heap.size ∧ lv'.ownBlock ≠ some b)) w' (G.fid i) lv' nd)
    (hat : lv'.ownBlock = (G.lv i).ownBlock ∨ ∀ g, lv'.ownBlock = some g → w.heap.size ≤ g) (hk : KbP (fun b => b = G.fid i ∨ (G.lv i).ownBlock = some b) w w') :
    ∃ X' I', FsP X' I' w' fb (setNd s i nd) ∧ Grow X I w X' I' w' := by
  obtain ⟨X', I', lv, hG, hg⟩ := fs_setNdG h hi hlen hf hat hk
  exact ⟨X', I', ⟨_, hG⟩, hg⟩
end Go.Proofs.Ytaanmnplfppdeaa
