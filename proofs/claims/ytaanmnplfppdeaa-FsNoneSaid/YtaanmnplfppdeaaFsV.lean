/- Layer 1: a move is done: what holds of the whole. -/
import Derived.Test.YtaanmnplfppdeaaFsU
namespace Go.Fsy
theorem moved_mem {l : Dir} {m : Mv} {n : Bs} {i : Nat} (h : (n, i) ∈ moved l m) : (n, i) ∈ l ∨ m.nd = some i := by
  cases m with
  | made b k =>
    rcases List.mem_append.1 h with ha | ha
    · exact .inl ((without_sub _ _).subset ha)
    · rw [List.mem_singleton] at ha; cases ha; exact .inr rfl
  | ren b c k =>
    rcases List.mem_append.1 h with ha | ha
    · exact .inl ((without_sub _ _).subset ((without_sub _ _).subset ha))
    · rw [List.mem_singleton] at ha; cases ha; exact .inr rfl
  | rem b => exact .inl ((without_sub _ _).subset h)
theorem alive_step {s : St} {m : Mv} {i : Nat} (h : alive (step s m) i) : alive s i ∨ m.nd = some i := by
  rcases h with ⟨n, h⟩ | ⟨n, h⟩ | ⟨m', h, hd⟩
  · exact (moved_mem h).imp_left (fun h => .inl ⟨n, h⟩)
  · exact .inl (.inr (.inl ⟨n, h⟩))
  · rcases List.mem_append.1 h with h | h
    · exact .inl (.inr (.inr ⟨m', h, hd⟩))
    · rw [List.mem_singleton] at h; subst h; exact .inr hd
end Go.Fsy
namespace Go.Proofs.Ytaanmnplfppdeaa
open Go.RowKit Go.Lec Go.Fsy Go.Op Go.Maps
theorem FsG.stepped {X I : Nat → Prop} {w w' : World} {fb : Nat} {s : St} {G : Geo} {m : Mv} {e : Ending} (h : FsG X I w fb s G) (hnd : ∀ i, m.nd = some i → alive s i) (hS : StepP w fb s G m e w') : ∃ X', FsP X' I w' fb (Fsy.step s m) ∧ Grow X I w X' I w' := by
  obtain ⟨_, D, mv, hB, hm, hr, ho, hat, hk⟩ := hS
  have hal : ∀ i, alive (Fsy.step s m) i → alive s i := fun i hi => (alive_step hi).elim id (hnd i)
  have hYX : ∀ b, (b = fb ∨ b = G.dm ∨ G.mv.ownBlock = some b) → X b := by
    rintro b (rfl | rfl | hb)
    · exact h.xfb
    · exact h.xdm
    · exact h.xmv b hb
  have hI : ∀ b, I b → ¬ (b = fb ∨ b = G.dm ∨ G.mv.ownBlock = some b) := fun b hb e => h.xi b hb (hYX b e)
  have hmv : ∀ b, mv.ownBlock = some b → X b ∨ w.heap.size ≤ b := fun b hb => by
    rcases hat with e | ⟨g, e, hg⟩
    · exact .inl (h.xmv b (e ▸ hb))
    · rw [e] at hb; cases hb; exact .inr hg
  refine ⟨fun b => X b ∨ mv.ownBlock = some b, ⟨{ G with D1 := D, mv := mv }, ⟨hB, h.rk.kbP hk hI, h.rf.kbP hk hI, h.ru.kbP hk hI, h.nk, h.nf, h.nu, hm, ownsMap_kbP h.smap hk ?_, hr, h.rep2, ?_, fun i hi => ?_, fun i j hi hj => h.inj i j (hal i hi) (hal j hj), fun i j g hi hj => h.injl i j g (hal i hi) (hal j hj), h.ne, .inl h.xfb, .inl h.xdm, .inl h.xsm, fun g hg => .inr hg, ?_, ?_⟩⟩, ⟨fun b hb => hb.elim .inl (hmv b), fun b hb => .inl hb, hk.more hYX⟩⟩
  · rintro (e | e | e)
    · exact bk_map h.bk h.smap e.symm
    · exact h.ne e.symm
    · exact own_map h.mvs h.smap e
  · have hl : (Fsy.step s m).mvs.length = s.mvs.length + 1 := by simp [Fsy.step]
    rw [hl]; exact ho
  · have hf := h.files i (hal i hi)
    obtain ⟨vs, hO⟩ := hf.own
    obtain ⟨cs, hBf⟩ := hf.bk
    refine (hf.kbP hk ?_ ?_ hI).more (fun b => .inl) (fun b hb => hb)
    · rintro (e | e | e)
      · exact bk_ne h.bk hBf (by decide) e.symm
      · exact bk_map hBf h.dmap e
      · exact own_bkK h.mvs hBf (by decide) e
    · rintro g hg (e | e | e)
      · exact own_bkK hO h.bk (by decide) (e ▸ hg)
      · exact own_map hO h.dmap (e ▸ hg)
      · exact own_own h.mvs hO (by decide) g e hg
  · rintro b hb (hx | hx)
    · exact h.xi b hb hx
    · rcases hmv b hx with e | e
      · exact h.xi b hb e
      · have := h.lt b (.inr hb); omega
  · rintro b ((hb | hb) | hb)
    · exact Nat.lt_of_lt_of_le (h.lt b (.inl hb)) hk.size
    · exact (World.ownsRow.lt ho b hb).2
    · exact Nat.lt_of_lt_of_le (h.lt b (.inr hb)) hk.size
end Go.Proofs.Ytaanmnplfppdeaa
