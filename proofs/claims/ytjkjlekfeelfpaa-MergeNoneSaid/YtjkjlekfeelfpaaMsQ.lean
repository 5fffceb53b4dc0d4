/- Layer 23: a head moves. -/
import Derived.Test.YtjkjlekfeelfpaaMsP
namespace Go.Proofs.Ytjkjlekfeelfpaa
open Go.RowKit Go.Lec Go.Op
/-- A head has moved to a place. -/
structure HdTo (h h' : Hd) (q : Nat) : Prop where
  k : h'.k = h.k
  at_ : h'.at_ = (q : Int)
  le : q ≤ h.s.n
  is : h'.is = decide (q < h.s.n)
  p : ∀ p, h.s.L[q]? = some p → h'.p.pl = p.pl
def MvTo (D : Nat → Prop) (w : World) (sb : Nat) (s : Sl Pr) (q : Nat) (e : Ending) (w' : World) : Prop :=
  e = .returned (.bool (decide (q < s.n))) ∧ Kb [sb] w w' ∧ LsM D w' sb s (q : Int)
def MvP (D : Nat → Prop) (w : World) (X : It) (st steps j : Nat) (h : Hd) (q : Nat) (e : Ending) (w' : World) : Prop :=
  e = .returned (.tuple #[]) ∧ ∃ D' h', ItM D' w' { X with Hs := X.Hs.set j h' } st (steps + 1) ∧ HdTo h h' q ∧ Grows D w D' w' ∧ Kb [X.ib, h.hb, h.sb] w w'
set_option maxRecDepth 100000 in
set_option maxHeartbeats 1600000 in
theorem c_moveFirst (w : World) {D : Nat → Prop} {X : It} {st steps j q : Nat} {h : Hd} (hI : ItM D w X st steps) (hj : X.Hs[j]? = some h) (hq : q ≤ h.s.n) (hst : steps ≤ 4611686018427387904)
    (HF : ∀ W, Kb [X.ib] w W → Calls Try.prog 91 #[.pointer (some ⟨h.sb, 0, none⟩)] W (MvTo D W h.sb h.s q)) :
    Calls Try.prog 38 #[.pointer (some ⟨X.ib, 0, none⟩), .pointer (some ⟨h.hb, 0, none⟩), .func (.method "First") #[.iface 74 (.pointer (some ⟨h.sb, 0, none⟩))] #[]] w (MvP D w X st steps j h q) := by
  have hmem : h ∈ X.Hs := List.mem_of_getElem? hj
  have hne := hI.ne hmem
  have hho := hI.hds h hmem
  have hctl : ∀ b ∈ [X.ib, h.hb, h.sb], b ∈ X.ctl := fun b hb => by
    simp only [List.mem_cons, List.not_mem_nil, or_false] at hb
    rcases hb with rfl | rfl | rfl
    · exact ctl_mem.2 (.inl rfl)
    · exact ctl_mem.2 (.inr ⟨h, hmem, .inl rfl⟩)
    · exact ctl_mem.2 (.inr ⟨h, hmem, .inr rfl⟩)
  have hDi : ∀ b, D b → b ≠ X.ib := fun b hb e => hI.nD b (hctl b (by simp [e])) hb
  have hDh : ∀ b, D b → b ≠ h.hb := fun b hb e => hI.nD b (hctl b (by simp [e])) hb
  have hDs : ∀ b, D b → b ≠ h.sb := fun b hb e => hI.nD b (hctl b (by simp [e])) hb
  have q3 := hI.bk.cell 3
  have z3 := hI.bk.frz 3
  have hw : IntKind.i64.wrap ((steps : Int) + 1) = ((steps + 1 : Nat) : Int) := by rw [IntWalk.i64_in _ (by omega)]; omega
  have HB := hI.bk.set_ 3 (.int .i64 ((steps + 1 : Nat) : Int))
  have hk1 : Kb [X.ib] w (w.setCell ⟨X.ib, 3, none⟩ (.int .i64 ((steps + 1 : Nat) : Int))) := (Kb.refl _ _).setCell (.inl (by simp)) _
  have HH := hho.bk.kb hk1 (by simpa using hne.1.symm)
  have HF := HF _ hk1
  unfold MvTo at HF
  have HF := Lib.hid HF
  have Hk1 := Lib.hid hk1
  have HI := Lib.hid hI
  have Hho := Lib.hid hho
  have HBh := Lib.hid HB
  have Hj := Lib.hid hj
  clear hI hho hk1 hj HB
  by_cases hqn : q < h.s.n
  · rw [decide_eq_true hqn] at HF
    go_enter Try.func38, Try.ntmps38
    go_wp2_with fail
    refine HF.out.mono ?_
    rintro e w2 ⟨rfl, hk2, hl2⟩
    have HH2 := HH.kb hk2 (by simpa using hne.2.2)
    have HB2 := HBh.out.kb hk2 (by simpa using hne.2.1)
    have HH3 := HH2.set_ 3 (.bool true)
    have hk3 : Kb [h.hb] w2 (w2.setCell ⟨h.hb, 3, none⟩ (.bool true)) := (Kb.refl _ _).setCell (.inl (by simp)) _
    have hl3 := hl2.kb hk3 (by simpa using hne.2.2.symm) (fun b hb => by simpa using hDh b hb)
    obtain ⟨p, hp⟩ : ∃ p, h.s.L[q]? = some p := ⟨_, List.getElem?_eq_getElem (by rw [Hho.out.ls.len]; exact hqn)⟩
    have HC := c_lPair _ hl3 hp
    unfold PairP at HC
    have HC := Lib.hid HC
    have HB3 := HB2.kb hk3 (by simpa using hne.1)
    have z := HH2.frz 3
    have v3 := HH3.cell 3
    have v0 := HH3.cell 0
    have v1 := HH3.cell 1
    have v2 := HH3.cell 2
    have x3 := HH2.cell 3
    have HHh := Lib.hid HH3
    have HBh3 := Lib.hid HB3
    have HP := Lib.hid hp
    have Hk2 := Lib.hid hk2
    have Hk3 := Lib.hid hk3
    have Hl3 := Lib.hid hl3
    have hp := Lib.hid hqn
    clear HH HH2 HB2 HBh HF hk2 hl2 hl3 HH3 HB3 hk3 q3 z3 hqn hw
    go_wp2_with fail
    refine HC.out.mono ?_
    rintro e w4 ⟨m, rfl, hm1, hm2, hm3, hb4⟩
    have HH4 := HHh.out.below hb4 HHh.out.lt
    have HB4 := HBh3.out.below hb4 HBh3.out.lt
    have hl4 := Hl3.out.kb (Kb.of_below hb4) (S := []) (by simp) (by simp)
    have y1 := HH4.frz 1
    have y2 := HH4.frz 2
    have y3 := HH4.frz 3
    have u1 := HH4.cell 1
    have u2 := HH4.cell 2
    have u3 := HH4.cell 3
    have HH7 := Lib.hid (((HH4.set_ 1 (.slice m.A1 m.n1 m.c1)).set_ 2 (.slice m.A2 m.n2 m.c2)).set_ 3 (.bool true))
    have Hb4 := Lib.hid hb4
    have Hm := Lib.hid (And.intro hm1 (And.intro hm2 hm3))
    have HB4h := Lib.hid HB4
    have Hl4 := Lib.hid hl4
    clear HH4 HB4 hl4 hm1 hm2 hm3 hb4 HC v0 v1 v2 v3 x3 z
    go_wp2
    go_end0
    have hb4 := Hb4.out
    obtain ⟨hm1, hm2, hm3⟩ := Hm.out
    obtain ⟨w7, hw7⟩ : ∃ W, W = ((w4.setCell ⟨h.hb, 1, none⟩ (.slice m.A1 m.n1 m.c1)).setCell ⟨h.hb, 2, none⟩ (.slice m.A2 m.n2 m.c2)).setCell ⟨h.hb, 3, none⟩ (.bool true) := ⟨_, rfl⟩
    have hk7 : Kb [h.hb] w4 w7 := by rw [hw7]; exact (((Kb.refl _ _).setCell (.inl (by simp)) _).setCell (.inl (by simp)) _).setCell (.inl (by simp)) _
    have hH7 := HH7.out
    rw [← hw7] at hH7 ⊢
    have hz3 : w.heap.size ≤ (w2.setCell ⟨h.hb, 3, none⟩ (.bool true)).heap.size := by rw [World.size_setCell]; exact Nat.le_trans Hk1.out.size Hk2.out.size
    have hkT : Kb [X.ib, h.hb, h.sb] w w7 := by
      refine ((((Hk1.out.more ?_).trans Hk2.out ?_).trans Hk3.out ?_).then_ hb4 hz3).trans hk7 ?_ <;> intro b hb <;> simp only [List.mem_cons, List.not_mem_nil, or_false] at hb ⊢ <;> simp [hb]
    have hgr := Grows.all D hkT.size
    have hlt : h.hb < w.heap.size := HI.out.lt _ (hctl _ (by simp))
    refine ⟨rfl, _, { h with at_ := (q : Int), is := true, p := m }, HI.out.upd Hj.out hkT hgr rfl (HB4h.out.kb hk7 (by simpa using hne.1)) ⟨hH7, ?_, ?_, ?_⟩, ⟨rfl, rfl, hq, (decide_eq_true hp.out).symm, fun p' hp' => ?_⟩, hgr, hkT⟩
    · exact (Hl4.out.kb hk7 (by simpa using hne.2.2.symm) (fun b hb => by simpa using hDh b hb)).imp hgr.old
    · exact pr_ok ((encPr_ok hm1).kb (encPr_hi hm2) hk7 (fun b hb => by have hb : _ ≤ b := hb; simp only [List.mem_singleton]; omega))
    · exact ((encPr_hi hm2).and (encPr_ok hm1).lt).imp fun b hb => .inr ⟨Nat.le_trans hz3 hb.1, Nat.lt_of_lt_of_le hb.2 hk7.size⟩
    · rw [HP.out] at hp'; cases hp'; exact hm3
  · rw [decide_eq_false hqn] at HF
    go_enter Try.func38, Try.ntmps38
    go_wp2_with fail
    refine HF.out.mono ?_
    rintro e w2 ⟨rfl, hk2, hl2⟩
    have HH2 := HH.kb hk2 (by simpa using hne.2.2)
    have HB2 := HBh.out.kb hk2 (by simpa using hne.2.1)
    have HH3 := HH2.set_ 3 (.bool false)
    have hk3 : Kb [h.hb] w2 (w2.setCell ⟨h.hb, 3, none⟩ (.bool false)) := (Kb.refl _ _).setCell (.inl (by simp)) _
    have hl3 := hl2.kb hk3 (by simpa using hne.2.2.symm) (fun b hb => by simpa using hDh b hb)
    have HB3 := HB2.kb hk3 (by simpa using hne.1)
    have z := HH2.frz 3
    have v3 := HH3.cell 3
    have x3 := HH2.cell 3
    have HHh := Lib.hid HH3
    have HBh3 := Lib.hid HB3
    have Hk2 := Lib.hid hk2
    have Hk3 := Lib.hid hk3
    have Hl3 := Lib.hid hl3
    have Hqn := Lib.hid hqn
    clear HH HH2 HB2 HBh HF hk2 hl2 hl3 HH3 HB3 hk3 q3 z3 hqn hw
    go_wp2
    go_end0
    have hkT : Kb [X.ib, h.hb, h.sb] w (w2.setCell ⟨h.hb, 3, none⟩ (.bool false)) := by
      refine ((Hk1.out.more ?_).trans Hk2.out ?_).trans Hk3.out ?_ <;> intro b hb <;> simp only [List.mem_cons, List.not_mem_nil, or_false] at hb ⊢ <;> simp [hb]
    have hgr : Grows D w D (w2.setCell ⟨h.hb, 3, none⟩ (.bool false)) := Grows.same hkT.size
    refine ⟨rfl, D, { h with at_ := (q : Int), is := false }, HI.out.upd Hj.out hkT hgr rfl HBh3.out ⟨HHh.out, Hl3.out, ?_, Hho.out.plie⟩, ⟨rfl, rfl, hq, (decide_eq_false Hqn.out).symm, fun p' hp' => ?_⟩, hgr, hkT⟩
    · exact pr_ok ((encPr_ok Hho.out.pok).kb Hho.out.plie hkT (fun b hb hm => HI.out.nD b (hctl b hm) hb))
    · have h1 := (List.getElem?_eq_some_iff.1 hp').1
      rw [Hho.out.ls.len] at h1
      exact absurd h1 Hqn.out
set_option maxRecDepth 100000 in
set_option maxHeartbeats 1600000 in
theorem c_moveNext (w : World) {D : Nat → Prop} {X : It} {st steps j q : Nat} {h : Hd} (hI : ItM D w X st steps) (hj : X.Hs[j]? = some h) (hq : q ≤ h.s.n) (hst : steps ≤ 4611686018427387904)
    (HF : ∀ W, Kb [X.ib] w W → Calls Try.prog 92 #[.pointer (some ⟨h.sb, 0, none⟩)] W (MvTo D W h.sb h.s q)) :
    Calls Try.prog 38 #[.pointer (some ⟨X.ib, 0, none⟩), .pointer (some ⟨h.hb, 0, none⟩), .func (.method "Next") #[.iface 74 (.pointer (some ⟨h.sb, 0, none⟩))] #[]] w (MvP D w X st steps j h q) := by
  have hmem : h ∈ X.Hs := List.mem_of_getElem? hj
  have hne := hI.ne hmem
  have hho := hI.hds h hmem
  have hctl : ∀ b ∈ [X.ib, h.hb, h.sb], b ∈ X.ctl := fun b hb => by
    simp only [List.mem_cons, List.not_mem_nil, or_false] at hb
    rcases hb with rfl | rfl | rfl
    · exact ctl_mem.2 (.inl rfl)
    · exact ctl_mem.2 (.inr ⟨h, hmem, .inl rfl⟩)
    · exact ctl_mem.2 (.inr ⟨h, hmem, .inr rfl⟩)
  have hDi : ∀ b, D b → b ≠ X.ib := fun b hb e => hI.nD b (hctl b (by simp [e])) hb
  have hDh : ∀ b, D b → b ≠ h.hb := fun b hb e => hI.nD b (hctl b (by simp [e])) hb
  have hDs : ∀ b, D b → b ≠ h.sb := fun b hb e => hI.nD b (hctl b (by simp [e])) hb
  have q3 := hI.bk.cell 3
  have z3 := hI.bk.frz 3
  have hw : IntKind.i64.wrap ((steps : Int) + 1) = ((steps + 1 : Nat) : Int) := by rw [IntWalk.i64_in _ (by omega)]; omega
  have HB := hI.bk.set_ 3 (.int .i64 ((steps + 1 : Nat) : Int))
  have hk1 : Kb [X.ib] w (w.setCell ⟨X.ib, 3, none⟩ (.int .i64 ((steps + 1 : Nat) : Int))) := (Kb.refl _ _).setCell (.inl (by simp)) _
  have HH := hho.bk.kb hk1 (by simpa using hne.1.symm)
  have HF := HF _ hk1
  unfold MvTo at HF
  have HF := Lib.hid HF
  have Hk1 := Lib.hid hk1
  have HI := Lib.hid hI
  have Hho := Lib.hid hho
  have HBh := Lib.hid HB
  have Hj := Lib.hid hj
  clear hI hho hk1 hj HB
  by_cases hqn : q < h.s.n
  · rw [decide_eq_true hqn] at HF
    go_enter Try.func38, Try.ntmps38
    go_wp2_with fail
    refine HF.out.mono ?_
    rintro e w2 ⟨rfl, hk2, hl2⟩
    have HH2 := HH.kb hk2 (by simpa using hne.2.2)
    have HB2 := HBh.out.kb hk2 (by simpa using hne.2.1)
    have HH3 := HH2.set_ 3 (.bool true)
    have hk3 : Kb [h.hb] w2 (w2.setCell ⟨h.hb, 3, none⟩ (.bool true)) := (Kb.refl _ _).setCell (.inl (by simp)) _
    have hl3 := hl2.kb hk3 (by simpa using hne.2.2.symm) (fun b hb => by simpa using hDh b hb)
    obtain ⟨p, hp⟩ : ∃ p, h.s.L[q]? = some p := ⟨_, List.getElem?_eq_getElem (by rw [Hho.out.ls.len]; exact hqn)⟩
    have HC := c_lPair _ hl3 hp
    unfold PairP at HC
    have HC := Lib.hid HC
    have HB3 := HB2.kb hk3 (by simpa using hne.1)
    have z := HH2.frz 3
    have v3 := HH3.cell 3
    have v0 := HH3.cell 0
    have v1 := HH3.cell 1
    have v2 := HH3.cell 2
    have x3 := HH2.cell 3
    have HHh := Lib.hid HH3
    have HBh3 := Lib.hid HB3
    have HP := Lib.hid hp
    have Hk2 := Lib.hid hk2
    have Hk3 := Lib.hid hk3
    have Hl3 := Lib.hid hl3
    have hp := Lib.hid hqn
    clear HH HH2 HB2 HBh HF hk2 hl2 hl3 HH3 HB3 hk3 q3 z3 hqn hw
    go_wp2_with fail
    refine HC.out.mono ?_
    rintro e w4 ⟨m, rfl, hm1, hm2, hm3, hb4⟩
    have HH4 := HHh.out.below hb4 HHh.out.lt
    have HB4 := HBh3.out.below hb4 HBh3.out.lt
    have hl4 := Hl3.out.kb (Kb.of_below hb4) (S := []) (by simp) (by simp)
    have y1 := HH4.frz 1
    have y2 := HH4.frz 2
    have y3 := HH4.frz 3
    have u1 := HH4.cell 1
    have u2 := HH4.cell 2
    have u3 := HH4.cell 3
    have HH7 := Lib.hid (((HH4.set_ 1 (.slice m.A1 m.n1 m.c1)).set_ 2 (.slice m.A2 m.n2 m.c2)).set_ 3 (.bool true))
    have Hb4 := Lib.hid hb4
    have Hm := Lib.hid (And.intro hm1 (And.intro hm2 hm3))
    have HB4h := Lib.hid HB4
    have Hl4 := Lib.hid hl4
    clear HH4 HB4 hl4 hm1 hm2 hm3 hb4 HC v0 v1 v2 v3 x3 z
    go_wp2
    go_end0
    have hb4 := Hb4.out
    obtain ⟨hm1, hm2, hm3⟩ := Hm.out
    obtain ⟨w7, hw7⟩ : ∃ W, W = ((w4.setCell ⟨h.hb, 1, none⟩ (.slice m.A1 m.n1 m.c1)).setCell ⟨h.hb, 2, none⟩ (.slice m.A2 m.n2 m.c2)).setCell ⟨h.hb, 3, none⟩ (.bool true) := ⟨_, rfl⟩
    have hk7 : Kb [h.hb] w4 w7 := by rw [hw7]; exact (((Kb.refl _ _).setCell (.inl (by simp)) _).setCell (.inl (by simp)) _).setCell (.inl (by simp)) _
    have hH7 := HH7.out
    rw [← hw7] at hH7 ⊢
    have hz3 : w.heap.size ≤ (w2.setCell ⟨h.hb, 3, none⟩ (.bool true)).heap.size := by rw [World.size_setCell]; exact Nat.le_trans Hk1.out.size Hk2.out.size
    have hkT : Kb [X.ib, h.hb, h.sb] w w7 := by
      refine ((((Hk1.out.more ?_).trans Hk2.out ?_).trans Hk3.out ?_).then_ hb4 hz3).trans hk7 ?_ <;> intro b hb <;> simp only [List.mem_cons, List.not_mem_nil, or_false] at hb ⊢ <;> simp [hb]
    have hgr := Grows.all D hkT.size
    have hlt : h.hb < w.heap.size := HI.out.lt _ (hctl _ (by simp))
    refine ⟨rfl, _, { h with at_ := (q : Int), is := true, p := m }, HI.out.upd Hj.out hkT hgr rfl (HB4h.out.kb hk7 (by simpa using hne.1)) ⟨hH7, ?_, ?_, ?_⟩, ⟨rfl, rfl, hq, (decide_eq_true hp.out).symm, fun p' hp' => ?_⟩, hgr, hkT⟩
    · exact (Hl4.out.kb hk7 (by simpa using hne.2.2.symm) (fun b hb => by simpa using hDh b hb)).imp hgr.old
    · exact pr_ok ((encPr_ok hm1).kb (encPr_hi hm2) hk7 (fun b hb => by have hb : _ ≤ b := hb; simp only [List.mem_singleton]; omega))
    · exact ((encPr_hi hm2).and (encPr_ok hm1).lt).imp fun b hb => .inr ⟨Nat.le_trans hz3 hb.1, Nat.lt_of_lt_of_le hb.2 hk7.size⟩
    · rw [HP.out] at hp'; cases hp'; exact hm3
  · rw [decide_eq_false hqn] at HF
    go_enter Try.func38, Try.ntmps38
    go_wp2_with fail
    refine HF.out.mono ?_
    rintro e w2 ⟨rfl, hk2, hl2⟩
    have HH2 := HH.kb hk2 (by simpa using hne.2.2)
    have HB2 := HBh.out.kb hk2 (by simpa using hne.2.1)
    have HH3 := HH2.set_ 3 (.bool false)
    have hk3 : Kb [h.hb] w2 (w2.setCell ⟨h.hb, 3, none⟩ (.bool false)) := (Kb.refl _ _).setCell (.inl (by simp)) _
    have hl3 := hl2.kb hk3 (by simpa using hne.2.2.symm) (fun b hb => by simpa using hDh b hb)
    have HB3 := HB2.kb hk3 (by simpa using hne.1)
    have z := HH2.frz 3
    have v3 := HH3.cell 3
    have x3 := HH2.cell 3
    have HHh := Lib.hid HH3
    have HBh3 := Lib.hid HB3
    have Hk2 := Lib.hid hk2
    have Hk3 := Lib.hid hk3
    have Hl3 := Lib.hid hl3
    have Hqn := Lib.hid hqn
    clear HH HH2 HB2 HBh HF hk2 hl2 hl3 HH3 HB3 hk3 q3 z3 hqn hw
    go_wp2
    go_end0
    have hkT : Kb [X.ib, h.hb, h.sb] w (w2.setCell ⟨h.hb, 3, none⟩ (.bool false)) := by
      refine ((Hk1.out.more ?_).trans Hk2.out ?_).trans Hk3.out ?_ <;> intro b hb <;> simp only [List.mem_cons, List.not_mem_nil, or_false] at hb ⊢ <;> simp [hb]
    have hgr : Grows D w D (w2.setCell ⟨h.hb, 3, none⟩ (.bool false)) := Grows.same hkT.size
    refine ⟨rfl, D, { h with at_ := (q : Int), is := false }, HI.out.upd Hj.out hkT hgr rfl HBh3.out ⟨HHh.out, Hl3.out, ?_, Hho.out.plie⟩, ⟨rfl, rfl, hq, (decide_eq_false Hqn.out).symm, fun p' hp' => ?_⟩, hgr, hkT⟩
    · exact pr_ok ((encPr_ok Hho.out.pok).kb Hho.out.plie hkT (fun b hb hm => HI.out.nD b (hctl b hm) hb))
    · have h1 := (List.getElem?_eq_some_iff.1 hp').1
      rw [Hho.out.ls.len] at h1
      exact absurd h1 Hqn.out
set_option maxRecDepth 100000 in
set_option maxHeartbeats 1600000 in
theorem c_moveSeek (w : World) {D : Nat → Prop} {X : It} {st steps j q : Nat} {h : Hd} {hv kv : Addr}(hI : ItM D w X st steps) (hj : X.Hs[j]? = some h) (hq : q ≤ h.s.n) (hst : steps ≤ 4611686018427387904)
    (HF : ∀ W, Kb [X.ib] w W → Calls Try.prog 40 #[.pointer (some hv), .pointer (some kv)] W (MvTo D W h.sb h.s q)) :
    Calls Try.prog 38 #[.pointer (some ⟨X.ib, 0, none⟩), .pointer (some ⟨h.hb, 0, none⟩), .func (.func 40) #[] #[.pointer (some hv), .pointer (some kv)]] w (MvP D w X st steps j h q) := by
  have hmem : h ∈ X.Hs := List.mem_of_getElem? hj
  have hne := hI.ne hmem
  have hho := hI.hds h hmem
  have hctl : ∀ b ∈ [X.ib, h.hb, h.sb], b ∈ X.ctl := fun b hb => by
    simp only [List.mem_cons, List.not_mem_nil, or_false] at hb
    rcases hb with rfl | rfl | rfl
    · exact ctl_mem.2 (.inl rfl)
    · exact ctl_mem.2 (.inr ⟨h, hmem, .inl rfl⟩)
    · exact ctl_mem.2 (.inr ⟨h, hmem, .inr rfl⟩)
  have hDi : ∀ b, D b → b ≠ X.ib := fun b hb e => hI.nD b (hctl b (by simp [e])) hb
  have hDh : ∀ b, D b → b ≠ h.hb := fun b hb e => hI.nD b (hctl b (by simp [e])) hb
  have hDs : ∀ b, D b → b ≠ h.sb := fun b hb e => hI.nD b (hctl b (by simp [e])) hb
  have q3 := hI.bk.cell 3
  have z3 := hI.bk.frz 3
  have hw : IntKind.i64.wrap ((steps : Int) + 1) = ((steps + 1 : Nat) : Int) := by rw [IntWalk.i64_in _ (by omega)]; omega
  have HB := hI.bk.set_ 3 (.int .i64 ((steps + 1 : Nat) : Int))
  have hk1 : Kb [X.ib] w (w.setCell ⟨X.ib, 3, none⟩ (.int .i64 ((steps + 1 : Nat) : Int))) := (Kb.refl _ _).setCell (.inl (by simp)) _
  have HH := hho.bk.kb hk1 (by simpa using hne.1.symm)
  have HF := HF _ hk1
  unfold MvTo at HF
  have HF := Lib.hid HF
  have Hk1 := Lib.hid hk1
  have HI := Lib.hid hI
  have Hho := Lib.hid hho
  have HBh := Lib.hid HB
  have Hj := Lib.hid hj
  clear hI hho hk1 hj HB
  by_cases hqn : q < h.s.n
  · rw [decide_eq_true hqn] at HF
    go_enter Try.func38, Try.ntmps38
    go_wp2_with fail
    refine HF.out.mono ?_
    rintro e w2 ⟨rfl, hk2, hl2⟩
    have HH2 := HH.kb hk2 (by simpa using hne.2.2)
    have HB2 := HBh.out.kb hk2 (by simpa using hne.2.1)
    have HH3 := HH2.set_ 3 (.bool true)
    have hk3 : Kb [h.hb] w2 (w2.setCell ⟨h.hb, 3, none⟩ (.bool true)) := (Kb.refl _ _).setCell (.inl (by simp)) _
    have hl3 := hl2.kb hk3 (by simpa using hne.2.2.symm) (fun b hb => by simpa using hDh b hb)
    obtain ⟨p, hp⟩ : ∃ p, h.s.L[q]? = some p := ⟨_, List.getElem?_eq_getElem (by rw [Hho.out.ls.len]; exact hqn)⟩
    have HC := c_lPair _ hl3 hp
    unfold PairP at HC
    have HC := Lib.hid HC
    have HB3 := HB2.kb hk3 (by simpa using hne.1)
    have z := HH2.frz 3
    have v3 := HH3.cell 3
    have v0 := HH3.cell 0
    have v1 := HH3.cell 1
    have v2 := HH3.cell 2
    have x3 := HH2.cell 3
    have HHh := Lib.hid HH3
    have HBh3 := Lib.hid HB3
    have HP := Lib.hid hp
    have Hk2 := Lib.hid hk2
    have Hk3 := Lib.hid hk3
    have Hl3 := Lib.hid hl3
    have hp := Lib.hid hqn
    clear HH HH2 HB2 HBh HF hk2 hl2 hl3 HH3 HB3 hk3 q3 z3 hqn hw
    go_wp2_with fail
    refine HC.out.mono ?_
    rintro e w4 ⟨m, rfl, hm1, hm2, hm3, hb4⟩
    have HH4 := HHh.out.below hb4 HHh.out.lt
    have HB4 := HBh3.out.below hb4 HBh3.out.lt
    have hl4 := Hl3.out.kb (Kb.of_below hb4) (S := []) (by simp) (by simp)
    have y1 := HH4.frz 1
    have y2 := HH4.frz 2
    have y3 := HH4.frz 3
    have u1 := HH4.cell 1
    have u2 := HH4.cell 2
    have u3 := HH4.cell 3
    have HH7 := Lib.hid (((HH4.set_ 1 (.slice m.A1 m.n1 m.c1)).set_ 2 (.slice m.A2 m.n2 m.c2)).set_ 3 (.bool true))
    have Hb4 := Lib.hid hb4
    have Hm := Lib.hid (And.intro hm1 (And.intro hm2 hm3))
    have HB4h := Lib.hid HB4
    have Hl4 := Lib.hid hl4
    clear HH4 HB4 hl4 hm1 hm2 hm3 hb4 HC v0 v1 v2 v3 x3 z
    go_wp2
    go_end0
    have hb4 := Hb4.out
    obtain ⟨hm1, hm2, hm3⟩ := Hm.out
    obtain ⟨w7, hw7⟩ : ∃ W, W = ((w4.setCell ⟨h.hb, 1, none⟩ (.slice m.A1 m.n1 m.c1)).setCell ⟨h.hb, 2, none⟩ (.slice m.A2 m.n2 m.c2)).setCell ⟨h.hb, 3, none⟩ (.bool true) := ⟨_, rfl⟩
    have hk7 : Kb [h.hb] w4 w7 := by rw [hw7]; exact (((Kb.refl _ _).setCell (.inl (by simp)) _).setCell (.inl (by simp)) _).setCell (.inl (by simp)) _
    have hH7 := HH7.out
    rw [← hw7] at hH7 ⊢
    have hz3 : w.heap.size ≤ (w2.setCell ⟨h.hb, 3, none⟩ (.bool true)).heap.size := by rw [World.size_setCell]; exact Nat.le_trans Hk1.out.size Hk2.out.size
    have hkT : Kb [X.ib, h.hb, h.sb] w w7 := by
      refine ((((Hk1.out.more ?_).trans Hk2.out ?_).trans Hk3.out ?_).then_ hb4 hz3).trans hk7 ?_ <;> intro b hb <;> simp only [List.mem_cons, List.not_mem_nil, or_false] at hb ⊢ <;> simp [hb]
    have hgr := Grows.all D hkT.size
    have hlt : h.hb < w.heap.size := HI.out.lt _ (hctl _ (by simp))
    refine ⟨rfl, _, { h with at_ := (q : Int), is := true, p := m }, HI.out.upd Hj.out hkT hgr rfl (HB4h.out.kb hk7 (by simpa using hne.1)) ⟨hH7, ?_, ?_, ?_⟩, ⟨rfl, rfl, hq, (decide_eq_true hp.out).symm, fun p' hp' => ?_⟩, hgr, hkT⟩
    · exact (Hl4.out.kb hk7 (by simpa using hne.2.2.symm) (fun b hb => by simpa using hDh b hb)).imp hgr.old
    · exact pr_ok ((encPr_ok hm1).kb (encPr_hi hm2) hk7 (fun b hb => by have hb : _ ≤ b := hb; simp only [List.mem_singleton]; omega))
    · exact ((encPr_hi hm2).and (encPr_ok hm1).lt).imp fun b hb => .inr ⟨Nat.le_trans hz3 hb.1, Nat.lt_of_lt_of_le hb.2 hk7.size⟩
    · rw [HP.out] at hp'; cases hp'; exact hm3
  · rw [decide_eq_false hqn] at HF
    go_enter Try.func38, Try.ntmps38
    go_wp2_with fail
    refine HF.out.mono ?_
    rintro e w2 ⟨rfl, hk2, hl2⟩
    have HH2 := HH.kb hk2 (by simpa using hne.2.2)
    have HB2 := HBh.out.kb hk2 (by simpa using hne.2.1)
    have HH3 := HH2.set_ 3 (.bool false)
    have hk3 : Kb [h.hb] w2 (w2.setCell ⟨h.hb, 3, none⟩ (.bool false)) := (Kb.refl _ _).setCell (.inl (by simp)) _
    have hl3 := hl2.kb hk3 (by simpa using hne.2.2.symm) (fun b hb => by simpa using hDh b hb)
    have HB3 := HB2.kb hk3 (by simpa using hne.1)
    have z := HH2.frz 3
    have v3 := HH3.cell 3
    have x3 := HH2.cell 3
    have HHh := Lib.hid HH3
    have HBh3 := Lib.hid HB3
    have Hk2 := Lib.hid hk2
    have Hk3 := Lib.hid hk3
    have Hl3 := Lib.hid hl3
    have Hqn := Lib.hid hqn
    clear HH HH2 HB2 HBh HF hk2 hl2 hl3 HH3 HB3 hk3 q3 z3 hqn hw
    go_wp2
    go_end0
    have hkT : Kb [X.ib, h.hb, h.sb] w (w2.setCell ⟨h.hb, 3, none⟩ (.bool false)) := by
      refine ((Hk1.out.more ?_).trans Hk2.out ?_).trans Hk3.out ?_ <;> intro b hb <;> simp only [List.mem_cons, List.not_mem_nil, or_false] at hb ⊢ <;> simp [hb]
    have hgr : Grows D w D (w2.setCell ⟨h.hb, 3, none⟩ (.bool false)) := Grows.same hkT.size
    refine ⟨rfl, D, { h with at_ := (q : Int), is := false }, HI.out.upd Hj.out hkT hgr rfl HBh3.out ⟨HHh.out, Hl3.out, ?_, Hho.out.plie⟩, ⟨rfl, rfl, hq, (decide_eq_false Hqn.out).symm, fun p' hp' => ?_⟩, hgr, hkT⟩
    · exact pr_ok ((encPr_ok Hho.out.pok).kb Hho.out.plie hkT (fun b hb hm => HI.out.nD b (hctl b hm) hb))
    · have h1 := (List.getElem?_eq_some_iff.1 hp').1
      rw [Hho.out.ls.len] at h1
      exact absurd h1 Hqn.out
end Go.Proofs.Ytjkjlekfeelfpaa
