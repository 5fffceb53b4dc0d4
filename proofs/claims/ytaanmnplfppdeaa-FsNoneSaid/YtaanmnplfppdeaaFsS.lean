/- Layer 1: a move is done and noted: the walk of step. -/
import Derived.Test.YtaanmnplfppdeaaFsR
namespace Go.Lec
open Go.RowKit
section
variable {P : Program} {w : World} {ops : Array Oper} {o : Oper} {a : Act} {Q : Exit → Act → World → Prop} {K : Act → World → Prop} {E : Prop}
/-- append of elements of several cells, at a step of a region that draws its order. -/
theorem step_appK {t e : TypeId} {z : Value} {by_ k : Nat} (hgd : o.guard = none) (s x : Operand)
    (ho : o.op = .call { callee := .builtin .append, args := #[s, x], argTypes := #[t, t] }) (hT : SlK P t e z by_ k) (hby : by_ ≤ 1024)
    {base : Nat} {v : Value} {n : Nat} {xs news : List Value} {m c b of : Nat} (hs : a.eval s = v) (hown : OwnK w base e k v n xs) (hbase : base ≤ w.heap.size) (hx : a.eval x = .slice (some ⟨b, of, none⟩) m c) (hm : news.length = m * k)
    (hc : ∀ (j : Nat) (u : Value), news[j]? = some u → w.cell? ⟨b, of + j, none⟩ = some u) (h1 : ∀ u ∈ news, u.oneCell' = true) (hlen : n + m ≤ 137438953472)
    (h : ∀ v' w', OwnK w' base e k v' (n + m) (xs ++ news) → Below base w w' → w.grownBy w' v.ownBlock → (v'.ownBlock = v.ownBlock ∨ ∃ g, v'.ownBlock = some g ∧ w.heap.size ≤ g) → K (a.put o.dst v') w') :
    if Region.wanted o (yielded ops a.tmps) = true then Oper.wp P o a w K Q else E := by
  have hw : Region.wanted o (yielded ops a.tmps) = true := by simp [Region.wanted, hgd]
  rw [if_pos hw]
  obtain ⟨i, hi, hz, hsz, hbb'⟩ := hT.info
  have hbb : (n + m) * by_ ≤ 140737488355328 := Nat.le_trans (Nat.mul_le_mul hlen hby) (by decide)
  obtain ⟨v', w', hrun, h2, h3, h4, h5⟩ := run_append_own_at (P := P) w base t o.type e i z k by_ hT.ut hi hz hsz hbb' hT.zc hT.pos v n xs hown ⟨b, of, none⟩ m c news hm (fun j u hu => by rw [Addr.add_lit]; exact hc j u hu) h1 (by unfold maxLen; omega) hbb hbase
  unfold Oper.wp execOp
  simp only [ho, resolve, invoke, builtin, Sem.run_bind, Sem.run_pure, Result.andThen_ok, List.map_toArray, List.map_cons, List.map_nil, hs, hx, hrun]
  exact h v' w' h2 ((Below.refl base w).grown h3 hbase fun k hk => (World.ownsRow.lt hown k hk).1) h3 (h5.imp_right fun e => ⟨_, e, Nat.le_refl _⟩)
end
end Go.Lec
namespace Go.Proofs.Ytaanmnplfppdeaa
open Go.RowKit Go.Lec Go.Fsy Go.Op Go.Maps
/-- What step leaves. -/
def StepP (w : World) (fb : Nat) (s : St) (G : Geo) (m : Mv) (e : Ending) (w' : World) : Prop :=
  e = .returned (.tuple #[]) ∧ ∃ D mv, Bk w' fb 38 (fsCs (Fsy.step s m) { G with D1 := D, mv := mv }) ∧ w'.ownsMap Try.prog 9 ptrR G.dm (moved s.dir m).length D ∧ Rep G.fid D (moved s.dir m) ∧
    OwnK w' 0 70 3 mv (s.mvs.length + 1) ((s.mvs ++ [m]).flatMap (mvCs G.fid)) ∧ (mv.ownBlock = G.mv.ownBlock ∨ ∃ g, mv.ownBlock = some g ∧ w.heap.size ≤ g) ∧ KbP (fun b => b = fb ∨ b = G.dm ∨ G.mv.ownBlock = some b) w w'
set_option maxRecDepth 100000 in
set_option maxHeartbeats 1600000 in
theorem c_step (w : World) {fb N : Nat} {s : St} {G : Geo} {m : Mv} (hB : Bk w fb 38 (fsCs s G)) (hm : w.ownsMap Try.prog 9 ptrR G.dm s.dir.length G.D1) (hr : Rep G.fid G.D1 s.dir) (hl : (s.dir.map (·.1)).Nodup) (hmv : OwnK w 0 70 3 G.mv s.mvs.length (s.mvs.flatMap (mvCs G.fid)))
    (ho : m.okIn N) (hs : m.short) (hn : s.dir.length ≤ 1099511627776) (hn2 : s.mvs.length ≤ 1073741824) :
    Calls Try.prog 27 #[ptrV fb, .agg (mvCs G.fid m).toArray] w (StepP w fb s G m) := by
  obtain ⟨Am, cm, hmvE, hcm⟩ := hmv.shape
  obtain ⟨x0, x1, x2, hu⟩ : ∃ (x0 x1 : ByteArray) (x2 : Option Addr), mvCs G.fid m = [.string x0, .string x1, .pointer x2] := by cases m <;> exact ⟨_, _, _, rfl⟩
  obtain ⟨pb, hpb⟩ : ∃ x, x = w.heap.size := ⟨_, rfl⟩
  have hP := Bk.new_ w 70 #[.string x0, .string x1, .pointer x2]
  have hB1 := hB.alloc (.cells #[.string x0, .string x1, .pointer x2] 70)
  have hb1 := (Below.refl w.heap.size w).alloc (Nat.le_refl _) (.cells #[.string x0, .string x1, .pointer x2] 70)
  have hm1 := (hm.alloc (.cells #[.string x0, .string x1, .pointer x2] 70)).drew
  have HL := Lib.hid (c_mvLay _ m hm1 hr hl ho hs hn)
  rw [hu] at HL
  have lfb := hB.lt
  have hdmf : G.dm ≠ fb := fun e => bk_map hB hm e.symm
  have hz1 : (w.alloc (.cells #[.string x0, .string x1, .pointer x2] 70)).heap.size = pb + 1 := by simp [hpb]
  have hk1 : KbP (fun b => b = fb ∨ b = G.dm ∨ G.mv.ownBlock = some b) w (w.alloc (.cells #[.string x0, .string x1, .pointer x2] 70)).drew := ((KbP.refl _ _).alloc _).drew
  have hml := hm.lt
  have hmvl : ∀ g, G.mv.ownBlock = some g → g < w.heap.size := fun g hg => (World.ownsRow.lt hmv g hg).2
  rw [← hpb] at hP
  obtain ⟨W1, hW1⟩ : ∃ x, x = w.alloc (.cells #[.string x0, .string x1, .pointer x2] 70) := ⟨_, rfl⟩
  rw [← hW1] at hP hB1 HL hz1 hk1
  have hmvd : ∀ g, G.mv.ownBlock = some g → g ≠ G.dm := fun g hg e => own_map hmv hm (e ▸ hg)
  have hmv1 : OwnK W1 0 70 3 G.mv s.mvs.length (s.mvs.flatMap (mvCs G.fid)) := by rw [hW1]; exact OwnK.kbP hmv (KbP.of_below hb1 : KbP (fun _ => False) _ _) (fun _ _ h => h)
  have c8 : W1.cell? ⟨fb, 8, none⟩ = some (.map (some G.dm)) := hB1.cell 8
  have p0 := hP.cell 0
  have p1 := hP.cell 1
  have p2 := hP.cell 2
  have hpd : G.dm ≠ pb := by omega
  have hpf : fb ≠ pb := by omega
  have lf1 : fb < W1.heap.size := hB1.lt
  have lp1 : pb < W1.heap.size := hP.lt
  have Hu := Lib.hid hu
  have HW1 := Lib.hid hW1
  have Hpb := Lib.hid hpb
  rw [hu]
  clear hm hm1 hr hb1 hW1 hu hpb
  unfold ptrV at *
  go_enter Try.func27, Try.ntmps27
  go_wp2
  rw [← Hpb.out, ← HW1.out]
  go_region_held3 (fun W => W.cell? ⟨fb, 8, none⟩ = some (.map (some G.dm)) ∧ W.cell? ⟨pb, 0, none⟩ = some (.string x0) ∧ W.cell? ⟨pb, 1, none⟩ = some (.string x1) ∧ W.cell? ⟨pb, 2, none⟩ = some (.pointer x2))
    (first | (refine ⟨?_, ?_, ?_, ?_⟩ <;> assumption) | go_keep)
    (first | (go_at_call 40; refine HL.out.mono ?_; rintro e w5 ⟨rfl, ⟨D5, hm5, hr5⟩, hk5⟩; have f1 := (hk5.cell (p := ⟨fb, 8, none⟩) (by simp; omega) (Ne.symm hdmf)).trans c8; have f3 := (hk5.cell (p := ⟨pb, 0, none⟩) (by simp; omega) (Ne.symm hpd)).trans p0; have f4 := (hk5.cell (p := ⟨pb, 1, none⟩) (by simp; omega) (Ne.symm hpd)).trans p1; have f5 := (hk5.cell (p := ⟨pb, 2, none⟩) (by simp; omega) (Ne.symm hpd)).trans p2))
  all_goals
    have hB5 := hB1.drew.kbP hk5 (Ne.symm hdmf)
    have hP5 := hP.drew.kbP hk5 (Ne.symm hpd)
    have hmv5 : OwnK w5 0 70 3 (.slice Am s.mvs.length cm) s.mvs.length (s.mvs.flatMap (mvCs G.fid)) := by
      rw [← hmvE]
      exact OwnK.kbP hmv1 (KbP.trans (X := fun b => b = G.dm) (KbP.refl _ W1).drew hk5 (fun b e => .inl e)) (fun g hg e => hmvd g hg e)
    have q5 := hB5.cell
    have z5 := hB5.frz
    have qp := hP5.cell
    have c10 : w5.cell? ⟨fb, 10, none⟩ = some (.slice Am s.mvs.length cm) := by rw [← hmvE]; exact hB5.cell 10
    go_wp2
    have hHeld : (fun W : World => W.cell? ⟨fb, 10, none⟩ = some (.slice Am s.mvs.length cm) ∧ W.cell? ⟨pb, 0, none⟩ = some (.string x0) ∧ W.cell? ⟨pb, 1, none⟩ = some (.string x1) ∧ W.cell? ⟨pb, 2, none⟩ = some (.pointer x2)) w5.drew := ⟨c10, hP5.cell 0, hP5.cell 1, hP5.cell 2⟩
    refine wp_region_T (S := fun W : World => W.cell? ⟨fb, 10, none⟩ = some (.slice Am s.mvs.length cm) ∧ W.cell? ⟨pb, 0, none⟩ = some (.string x0) ∧ W.cell? ⟨pb, 1, none⟩ = some (.string x1) ∧ W.cell? ⟨pb, 2, none⟩ = some (.pointer x2)) (m := 8) (by kernel_rfl) ?_
    simp only [List.size_toArray, List.length_cons, List.length_nil, Nat.reduceAdd]
    refine tTake (i := 0) (v := ?_) rfl (by kernel_rfl) (by kernel_rfl) (by kernel_rfl) (by kernel_rfl) (fun _ _ _ h => h) hHeld (by rfl) ?_ ?_
    rotate_left
    · (intro w hSw; (try dsimp only at hSw); go_simp; try with_reducible rfl)
    try simp only [Act.put, List.setIfInBounds_toArray, List.set_cons_zero, List.set_cons_succ]
    refine tTake (i := 1) (v := ?_) rfl (by kernel_rfl) (by kernel_rfl) (by kernel_rfl) (by kernel_rfl) (fun _ _ _ h => h) hHeld (by rfl) ?_ ?_
    rotate_left
    · (intro w hSw; (try dsimp only at hSw); go_simp; try with_reducible rfl)
    try simp only [Act.put, List.setIfInBounds_toArray, List.set_cons_zero, List.set_cons_succ]
    refine tTake (i := 2) (v := ?_) rfl (by kernel_rfl) (by kernel_rfl) (by kernel_rfl) (by kernel_rfl) (fun _ _ _ h => h) hHeld (by rfl) ?_ ?_
    rotate_left
    · (intro w hSw; (try dsimp only at hSw); go_simp; try with_reducible rfl)
    try simp only [Act.put, List.setIfInBounds_toArray, List.set_cons_zero, List.set_cons_succ]
    refine tTake (i := 3) (v := ?_) rfl (by kernel_rfl) (by kernel_rfl) (by kernel_rfl) (by kernel_rfl) (fun _ _ _ h => h) hHeld (by rfl) ?_ ?_
    rotate_left
    · (intro w hSw; (try dsimp only at hSw); go_simp; try with_reducible rfl)
    try simp only [Act.put, List.setIfInBounds_toArray, List.set_cons_zero, List.set_cons_succ]
    refine tTake (i := 4) (v := ?_) rfl (by kernel_rfl) (by kernel_rfl) (by kernel_rfl) (by kernel_rfl) (fun _ _ _ h => h) hHeld (by rfl) ?_ ?_
    rotate_left
    · (intro w hSw; (try dsimp only at hSw); go_simp; try with_reducible rfl)
    try simp only [Act.put, List.setIfInBounds_toArray, List.set_cons_zero, List.set_cons_succ]
    refine tTake (i := 5) (v := ?_) rfl (by kernel_rfl) (by kernel_rfl) (by kernel_rfl) (by kernel_rfl) (fun _ _ _ h => h) hHeld (by rfl) ?_ ?_
    rotate_left
    · (intro w hSw; (try dsimp only at hSw); go_simp; try with_reducible rfl)
    try simp only [Act.put, List.setIfInBounds_toArray, List.set_cons_zero, List.set_cons_succ]
    refine tStep (i := 6) rfl (by kernel_rfl) (fun K hK => ?_)
    go_simp
    have hB6 := (hB5.alloc (.cells #[.string x0, .string x1, .pointer x2] 70)).drew
    have hP6 := (hP5.alloc (.cells #[.string x0, .string x1, .pointer x2] 70)).drew
    have hN6 := (Bk.new_ w5 70 #[.string x0, .string x1, .pointer x2]).drew
    have hmv6 : OwnK ((w5.alloc (.cells #[.string x0, .string x1, .pointer x2] 70)).drew) 0 70 3 (.slice Am s.mvs.length cm) s.mvs.length (s.mvs.flatMap (mvCs G.fid)) := OwnK.kbP hmv5 (X := fun _ => False) ((KbP.refl _ w5).alloc _).drew (fun _ _ h => h)
    have hHeld6 : (fun W : World => W.cell? ⟨fb, 10, none⟩ = some (.slice Am s.mvs.length cm) ∧ W.cell? ⟨pb, 0, none⟩ = some (.string x0) ∧ W.cell? ⟨pb, 1, none⟩ = some (.string x1) ∧ W.cell? ⟨pb, 2, none⟩ = some (.pointer x2)) ((w5.alloc (.cells #[.string x0, .string x1, .pointer x2] 70)).drew) := ⟨(hB6.cell 10).trans ((hB5.cell 10).symm.trans c10), hP6.cell 0, hP6.cell 1, hP6.cell 2⟩
    refine hK.out _ _ (fun _ => hHeld6) ?_
    clear hK K hHeld
    have hHeld := hHeld6
    clear hHeld6
    try simp only [Act.put, List.setIfInBounds_toArray, List.set_cons_zero, List.set_cons_succ]
    refine tStep (i := 7) rfl (by kernel_rfl) (fun K hK => ?_)
    refine at_app (.tmp 14) (.tmp 16) ?_
    refine step_appK rfl (.tmp 14) (.tmp 16) rfl slm (by decide) rfl hmv6 (Nat.zero_le _) rfl (news := [.string x0, .string x1, .pointer x2]) rfl (fun j u hu => by rw [Nat.zero_add]; exact (hN6.cell j).trans (by simpa using hu)) (by intro u hu; simp only [List.mem_cons, List.not_mem_nil, or_false] at hu; rcases hu with rfl | rfl | rfl <;> rfl) (by omega) ?_
    intro v8 w8 ho8 hb8 hg8 hat8
    obtain ⟨A8, c8, rfl, hc8⟩ := ho8.shape
    have hB8 := bkGrown hB6 hg8 (own_bkK hmv6 hB6 (by decide))
    have hP8 := bkGrown hP6 hg8 (fun e => by have := hmvl _ (hmvE ▸ e); rw [← Hpb.out] at this; exact absurd this (Nat.lt_irrefl _))
    have hHeld8 : (fun W : World => W.cell? ⟨fb, 10, none⟩ = some (.slice Am s.mvs.length cm) ∧ W.cell? ⟨pb, 0, none⟩ = some (.string x0) ∧ W.cell? ⟨pb, 1, none⟩ = some (.string x1) ∧ W.cell? ⟨pb, 2, none⟩ = some (.pointer x2)) w8 := ⟨(hB8.cell 10).trans ((hB5.cell 10).symm.trans c10), hP8.cell 0, hP8.cell 1, hP8.cell 2⟩
    refine hK.out _ _ (fun _ => hHeld8) ?_
    clear hK K hHeld hHeld8
    try simp only [Act.put, List.setIfInBounds_toArray, List.set_cons_zero, List.set_cons_succ]
    refine tStep (i := 8) rfl (by kernel_rfl) (fun K hK => ?_)
    go_simp
    refine hK.out _ _ (fun h => absurd h (by decide)) ?_
    clear hK K
    try simp only [Act.put, List.setIfInBounds_toArray, List.set_cons_zero, List.set_cons_succ]
    refine tStep (i := 9) rfl (by kernel_rfl) (fun K hK => ?_)
    go_simp
    refine hK.out _ _ (fun h => absurd h (by decide)) ?_
    clear hK K
    try simp only [Act.put, List.setIfInBounds_toArray, List.set_cons_zero, List.set_cons_succ]
    have q := hB8.cell
    have z := hB8.frz
    refine tStep (i := 10) rfl (by kernel_rfl) (fun K hK => ?_)
    go_simp
    refine hK.out _ _ (fun h => absurd h (by decide)) ?_
    clear hK K q z
    try simp only [Act.put, List.setIfInBounds_toArray, List.set_cons_zero, List.set_cons_succ]
    refine tDone (by kernel_rfl) ?_ _
    have hk58 : KbP (fun b => (Value.slice Am s.mvs.length cm).ownBlock = some b) w5 w8 := KbP.grown (((KbP.refl _ w5).alloc (.cells #[.string x0, .string x1, .pointer x2] 70)).drew) hg8 (fun g e => .inl e)
    have hk89 : KbP (fun b => b = fb) w8 (w8.setCell ⟨fb, 10, none⟩ (.slice A8 (s.mvs.length + 1) c8)) := (KbP.refl (fun b => b = fb) w8).setCell (p := ⟨fb, 10, none⟩) (.inl rfl) _
    have hown9 := OwnK.far (p := ⟨fb, 10, none⟩) ho8 (own_bkK ho8 hB8 (by decide)) (.slice A8 (s.mvs.length + 1) c8)
    have hs15 := hk5.size
    have hs01 : w.heap.size ≤ w5.heap.size := by have h1 := Hpb.out; have h2 : W1.drew.heap.size = W1.heap.size := rfl; omega
    go_end0
    refine ⟨rfl, D5, .slice A8 (s.mvs.length + 1) c8, hB8.set_ 10 _, ownsMap_kbP (ownsMap_kbP hm5 hk58 (fun e => hmvd _ (hmvE ▸ e) rfl)) hk89 hdmf, hr5, ?_, ?_, ?_⟩
    · rw [List.flatMap_append, show [m].flatMap (mvCs G.fid) = [.string x0, .string x1, .pointer x2] from by rw [← Hu.out]; simp]; exact hown9
    · rw [hmvE]; exact hat8.imp_right (fun ⟨g, e, hg⟩ => ⟨g, e, by simp at hg; omega⟩)
    · exact ((hk1.trans hk5 (fun b e => .inl (.inr (.inl e)))).trans hk58 (fun b e => .inl (.inr (.inr (hmvE ▸ e))))).trans hk89 (fun b e => .inl (.inl e))
end Go.Proofs.Ytaanmnplfppdeaa
