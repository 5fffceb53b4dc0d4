/- Layer 1: which names may be: the walk of may. -/
import Derived.Test.YtgilnjngphhhlaaGreatFsQ
namespace Go.Proofs.YtgilnjngphhhlaaGreat
open Go.RowKit Go.Lec Go.Fsy Go.Op Go.Maps
set_option maxRecDepth 40000 in
set_option maxHeartbeats 800000 in
theorem c_may (w : World) (n : Bs) (hn : n.length ≤ 4294967296) :
    Calls Tryz.prog 41 #[.string ⟨n.toArray⟩] w fun e w' => e = .returned (.bool (may n)) ∧ w' = w := by
  obtain ⟨v, hv⟩ : ∃ v, v = may n := ⟨_, rfl⟩
  have hvE : v = (decide (1 ≤ n.length) && decide (n.length ≤ 32) && n.all mayC) := hv
  rw [← hv]
  clear hv
  have hsz : (⟨n.toArray⟩ : ByteArray).size = n.length := by simp [ByteArray.size]
  have Hv := Lib.hid hvE
  clear hvE
  by_cases h1 : n.length < 1
  · have h1' : ((n.length : Int) < 1) := by omega
    go_enter Tryz.func41, Tryz.ntmps41
    go_wp2
    go_ret
    exact ⟨by rw [Hv.out]; simp [show ¬ 1 ≤ n.length by omega], rfl⟩
  · have h1' : ¬ ((n.length : Int) < 1) := by omega
    by_cases h2 : 32 < n.length
    · have h2' : (32 : Int) < (n.length : Int) := by omega
      go_enter Tryz.func41, Tryz.ntmps41
      go_wp2
      go_ret
      exact ⟨by rw [Hv.out]; simp [show ¬ n.length ≤ 32 by omega], rfl⟩
    · have h2' : ¬ (32 : Int) < (n.length : Int) := by omega
      go_enter Tryz.func41, Tryz.ntmps41
      go_wp2
      go_loopw [14] (fun i wr => ∃ k : Nat, k ≤ n.length ∧ i = .int .i64 (k : Int) ∧ (n.take k).all mayC = true ∧ wr = w) (fun i _ => n.length - (intOf i).toNat)
      case atStart => exact ⟨0, Nat.zero_le _, rfl, rfl, rfl⟩
      case round =>
        obtain ⟨k, hk, rfl, hall, rfl⟩ := hrel
        by_cases hlt : k < n.length
        · have hki : (k : Int) < (n.length : Int) := by omega
          obtain ⟨z, hz⟩ : ∃ z, ((⟨n.toArray⟩ : ByteArray)[k]'(by rw [hsz]; exact hlt)).toNat = z := ⟨_, rfl⟩
          have hzc : n[k].toNat = z := hz
          have hmz : mayC n[k] = !(decide (z < 33) || decide (126 < z) || z == 47) := by unfold mayC; rw [hzc]
          have hHall := Lib.hid hall
          clear hall
          have hno : mayC n[k] = false → Ending.returned (.bool false) = Ending.returned (.bool v) := fun hm => by
            have : n.all mayC = false := by
              rw [Bool.eq_false_iff]
              intro h
              have := List.all_eq_true.1 h n[k] (List.getElem_mem hlt)
              rw [hm] at this; cases this
            rw [Hv.out, this, Bool.and_false]
          have Hno := Lib.hid hno
          have Hmz := Lib.hid hmz
          clear hno hmz hzc
          by_cases z1 : z < 33
          · have z1' : (z : Int) < 33 := by omega
            go_wp2
            go_ret
            exact ⟨Hno.out (by rw [Hmz.out]; simp [z1]), rfl⟩
          · have z1' : ¬ (z : Int) < 33 := by omega
            by_cases z2 : 126 < z
            · have z2' : (126 : Int) < (z : Int) := by omega
              go_wp2
              go_ret
              exact ⟨Hno.out (by rw [Hmz.out]; simp [z2]), rfl⟩
            · have z2' : ¬ (126 : Int) < (z : Int) := by omega
              by_cases z3 : z = 47
              · subst z3
                go_wp2
                go_ret
                exact ⟨Hno.out (by rw [Hmz.out]; simp), rfl⟩
              · have z3' : ((z : Int) == 47) = false := by rw [beq_eq_false_iff_ne]; omega
                go_wp2
                go_roundw
                case rel =>
                  refine ⟨k + 1, by omega, by go_num, ?_, by trivial⟩
                  rw [List.take_succ_eq_append_getElem hlt, List.all_append, hHall.out, List.all_cons, Hmz.out]
                  simp [z1, z2, z3]
                case measure => simp [intOf]; omega
        · obtain rfl : k = n.length := by omega
          rw [List.take_length] at hall
          go_wp2
          go_ret
          exact ⟨by rw [Hv.out, hall]; simp; omega, rfl⟩
end Go.Proofs.YtgilnjngphhhlaaGreat
/- Layer 1: a move is done and noted: the walk of step. -/
namespace Go.Lec
open Go.RowKit
section
variable {P : Program} {w : World} {ops : Array Oper} {o : Oper} {a : Act} {Q : Exit → Act → World → Prop} {K : Act → World → Prop} {E : Prop}
/-- append of elements of several cells, at a step of a region that draws its order. -/
theorem step_appK {t e : TypeId} {z : Value} {by_ k : Nat} (hgd : o.guard = none) (s x : Operand)
    (ho : o.op = .call { callee := .builtin .append, args := #[s, x], argTypes := #[t, t] }) (hT : SlK P t e z by_ k) (hby : by_ ≤ 1024)
    {base : Nat} {v : Value} {n : Nat} {xs news : List Value} {m c b of : Nat} (hs : a.eval s = v) (hown : OwnK w base e k v n xs) (hbase : base ≤ w.heap.size) (hx : a.eval x = .slice (some ⟨b, of, none⟩) m c) (hm : news.length = m * k)
    (hc : ∀ (j : Nat) (u : Value), news[j]? = some u → w.cell? ⟨b, of + j, none⟩ = some u) (h1 : ∀ u ∈ news, u.oneCell' = true) (hlen : n + m ≤ 137438953472)
    (h : ∀ v' w', OwnK w' base e k v' (n + m) (xs ++ news) → Below base w w' → w.grownBy w' v.ownBlock → (v'.ownBlock = v.ownBlock ∨ ∃ g, v'.ownBlock = some g ∧ w.heap.size ≤ g) → K (a.put o.dst v') w') :
    if Region.wanted o (yielded ops a.tmps) = true then Oper.wp P o a w K Q else E := by
  have hw : Region.wanted o (yielded ops a.tmps) = true := by simp [Region.wanted, hgd]
  rw [if_pos hw]
  obtain ⟨i, hi, hz, hsz, hbb'⟩ := hT.info
  have hbb : (n + m) * by_ ≤ 140737488355328 := Nat.le_trans (Nat.mul_le_mul hlen hby) (by decide)
  obtain ⟨v', w', hrun, h2, h3, h4, h5⟩ := run_append_own_at (P := P) w base t o.type e i z k by_ hT.ut hi hz hsz hbb' hT.zc hT.pos v n xs hown ⟨b, of, none⟩ m c news hm (fun j u hu => by rw [Addr.add_lit]; exact hc j u hu) h1 (by unfold maxLen; omega) hbb hbase
  unfold Oper.wp execOp
  simp only [ho, resolve, invoke, builtin, Sem.run_bind, Sem.run_pure, Result.andThen_ok, List.map_toArray, List.map_cons, List.map_nil, hs, hx, hrun]
  exact h v' w' h2 ((Below.refl base w).grown h3 hbase fun k hk => (World.ownsRow.lt hown k hk).1) h3 (h5.imp_right fun e => ⟨_, e, Nat.le_refl _⟩)
end
end Go.Lec
namespace Go.Proofs.YtgilnjngphhhlaaGreat
open Go.RowKit Go.Lec Go.Fsy Go.Op Go.Maps
/-- What step leaves. -/
def StepP (w : World) (fb : Nat) (s : St) (G : Geo) (m : Mv) (e : Ending) (w' : World) : Prop :=
  e = .returned (.tuple #[]) ∧ ∃ D mv, Bk w' fb 74 (fsCs (Fsy.step s m) { G with D1 := D, mv := mv }) ∧ w'.ownsMap Tryz.prog 9 ptrR G.dm (moved s.dir m).length D ∧ Rep G.fid D (moved s.dir m) ∧
    OwnK w' 0 99 3 mv (s.mvs.length + 1) ((s.mvs ++ [m]).flatMap (mvCs G.fid)) ∧ (mv.ownBlock = G.mv.ownBlock ∨ ∃ g, mv.ownBlock = some g ∧ w.heap.size ≤ g) ∧ KbP (fun b => b = fb ∨ b = G.dm ∨ G.mv.ownBlock = some b) w w'
set_option maxRecDepth 100000 in
set_option maxHeartbeats 1600000 in
theorem c_step (w : World) {fb N : Nat} {s : St} {G : Geo} {m : Mv} (hB : Bk w fb 74 (fsCs s G)) (hm : w.ownsMap Tryz.prog 9 ptrR G.dm s.dir.length G.D1) (hr : Rep G.fid G.D1 s.dir) (hl : (s.dir.map (·.1)).Nodup) (hmv : OwnK w 0 99 3 G.mv s.mvs.length (s.mvs.flatMap (mvCs G.fid)))
    (ho : m.okIn N) (hs : m.short) (hn : s.dir.length ≤ 1099511627776) (hn2 : s.mvs.length ≤ 1073741824) :
    Calls Tryz.prog 42 #[ptrV fb, .agg (mvCs G.fid m).toArray] w (StepP w fb s G m) := by
  obtain ⟨Am, cm, hmvE, hcm⟩ := hmv.shape
  obtain ⟨x0, x1, x2, hu⟩ : ∃ (x0 x1 : ByteArray) (x2 : Option Addr), mvCs G.fid m = [.string x0, .string x1, .pointer x2] := by cases m <;> exact ⟨_, _, _, rfl⟩
  obtain ⟨pb, hpb⟩ : ∃ x, x = w.heap.size := ⟨_, rfl⟩
  have hP := Bk.new_ w 99 #[.string x0, .string x1, .pointer x2]
  have hB1 := hB.alloc (.cells #[.string x0, .string x1, .pointer x2] 99)
  have hb1 := (Below.refl w.heap.size w).alloc (Nat.le_refl _) (.cells #[.string x0, .string x1, .pointer x2] 99)
  have hm1 := (hm.alloc (.cells #[.string x0, .string x1, .pointer x2] 99)).drew
  have HL := Lib.hid (c_mvLay _ m hm1 hr hl ho hs hn)
  rw [hu] at HL
  have lfb := hB.lt
  have hdmf : G.dm ≠ fb := fun e => bk_map hB hm e.symm
  have hz1 : (w.alloc (.cells #[.string x0, .string x1, .pointer x2] 99)).heap.size = pb + 1 := by simp [hpb]
  have hk1 : KbP (fun b => b = fb ∨ b = G.dm ∨ G.mv.ownBlock = some b) w (w.alloc (.cells #[.string x0, .string x1, .pointer x2] 99)).drew := ((KbP.refl _ _).alloc _).drew
  have hml := hm.lt
  have hmvl : ∀ g, G.mv.ownBlock = some g → g < w.heap.size := fun g hg => (World.ownsRow.lt hmv g hg).2
  rw [← hpb] at hP
  obtain ⟨W1, hW1⟩ : ∃ x, x = w.alloc (.cells #[.string x0, .string x1, .pointer x2] 99) := ⟨_, rfl⟩
  rw [← hW1] at hP hB1 HL hz1 hk1
  have hmvd : ∀ g, G.mv.ownBlock = some g → g ≠ G.dm := fun g hg e => own_map hmv hm (e ▸ hg)
  have hmv1 : OwnK W1 0 99 3 G.mv s.mvs.length (s.mvs.flatMap (mvCs G.fid)) := by rw [hW1]; exact OwnK.kbP hmv (KbP.of_below hb1 : KbP (fun _ => False) _ _) (fun _ _ h => h)
  have c8 : W1.cell? ⟨fb, 8, none⟩ = some (.map (some G.dm)) := hB1.cell 8
  have p0 := hP.cell 0
  have p1 := hP.cell 1
  have p2 := hP.cell 2
  have hpd : G.dm ≠ pb := by omega
  have hpf : fb ≠ pb := by omega
  have lf1 : fb < W1.heap.size := hB1.lt
  have lp1 : pb < W1.heap.size := hP.lt
  have Hu := Lib.hid hu
  have HW1 := Lib.hid hW1
  have Hpb := Lib.hid hpb
  rw [hu]
  clear hm hm1 hr hb1 hW1 hu hpb
  unfold ptrV at *
  go_enter Tryz.func42, Tryz.ntmps42
  go_wp2
  rw [← Hpb.out, ← HW1.out]
  go_region_held3 (fun W => W.cell? ⟨fb, 8, none⟩ = some (.map (some G.dm)) ∧ W.cell? ⟨pb, 0, none⟩ = some (.string x0) ∧ W.cell? ⟨pb, 1, none⟩ = some (.string x1) ∧ W.cell? ⟨pb, 2, none⟩ = some (.pointer x2))
    (first | (refine ⟨?_, ?_, ?_, ?_⟩ <;> assumption) | go_keep)
    (first | (go_at_call 47; refine HL.out.mono ?_; rintro e w5 ⟨rfl, ⟨D5, hm5, hr5⟩, hk5⟩; have f1 := (hk5.cell (p := ⟨fb, 8, none⟩) (by simp; omega) (Ne.symm hdmf)).trans c8; have f3 := (hk5.cell (p := ⟨pb, 0, none⟩) (by simp; omega) (Ne.symm hpd)).trans p0; have f4 := (hk5.cell (p := ⟨pb, 1, none⟩) (by simp; omega) (Ne.symm hpd)).trans p1; have f5 := (hk5.cell (p := ⟨pb, 2, none⟩) (by simp; omega) (Ne.symm hpd)).trans p2))
  all_goals
    have hB5 := hB1.drew.kbP hk5 (Ne.symm hdmf)
    have hP5 := hP.drew.kbP hk5 (Ne.symm hpd)
    have hmv5 : OwnK w5 0 99 3 (.slice Am s.mvs.length cm) s.mvs.length (s.mvs.flatMap (mvCs G.fid)) := by
      rw [← hmvE]
      exact OwnK.kbP hmv1 (KbP.trans (X := fun b => b = G.dm) (KbP.refl _ W1).drew hk5 (fun b e => .inl e)) (fun g hg e => hmvd g hg e)
    have q5 := hB5.cell
    have z5 := hB5.frz
    have qp := hP5.cell
    have c10 : w5.cell? ⟨fb, 10, none⟩ = some (.slice Am s.mvs.length cm) := by rw [← hmvE]; exact hB5.cell 10
    go_wp2
    have hHeld : (fun W : World => W.cell? ⟨fb, 10, none⟩ = some (.slice Am s.mvs.length cm) ∧ W.cell? ⟨pb, 0, none⟩ = some (.string x0) ∧ W.cell? ⟨pb, 1, none⟩ = some (.string x1) ∧ W.cell? ⟨pb, 2, none⟩ = some (.pointer x2)) w5.drew := ⟨c10, hP5.cell 0, hP5.cell 1, hP5.cell 2⟩
    refine wp_region_T (S := fun W : World => W.cell? ⟨fb, 10, none⟩ = some (.slice Am s.mvs.length cm) ∧ W.cell? ⟨pb, 0, none⟩ = some (.string x0) ∧ W.cell? ⟨pb, 1, none⟩ = some (.string x1) ∧ W.cell? ⟨pb, 2, none⟩ = some (.pointer x2)) (m := 8) (by kernel_rfl) ?_
    simp only [List.size_toArray, List.length_cons, List.length_nil, Nat.reduceAdd]
    refine tTake (i := 0) (v := ?_) rfl (by kernel_rfl) (by kernel_rfl) (by kernel_rfl) (by kernel_rfl) (fun _ _ _ h => h) hHeld (by rfl) ?_ ?_
    rotate_left
    · (intro w hSw; (try dsimp only at hSw); go_simp; try with_reducible rfl)
    try simp only [Act.put, List.setIfInBounds_toArray, List.set_cons_zero, List.set_cons_succ]
    refine tTake (i := 1) (v := ?_) rfl (by kernel_rfl) (by kernel_rfl) (by kernel_rfl) (by kernel_rfl) (fun _ _ _ h => h) hHeld (by rfl) ?_ ?_
    rotate_left
    · (intro w hSw; (try dsimp only at hSw); go_simp; try with_reducible rfl)
    try simp only [Act.put, List.setIfInBounds_toArray, List.set_cons_zero, List.set_cons_succ]
    refine tTake (i := 2) (v := ?_) rfl (by kernel_rfl) (by kernel_rfl) (by kernel_rfl) (by kernel_rfl) (fun _ _ _ h => h) hHeld (by rfl) ?_ ?_
    rotate_left
    · (intro w hSw; (try dsimp only at hSw); go_simp; try with_reducible rfl)
    try simp only [Act.put, List.setIfInBounds_toArray, List.set_cons_zero, List.set_cons_succ]
    refine tTake (i := 3) (v := ?_) rfl (by kernel_rfl) (by kernel_rfl) (by kernel_rfl) (by kernel_rfl) (fun _ _ _ h => h) hHeld (by rfl) ?_ ?_
    rotate_left
    · (intro w hSw; (try dsimp only at hSw); go_simp; try with_reducible rfl)
    try simp only [Act.put, List.setIfInBounds_toArray, List.set_cons_zero, List.set_cons_succ]
    refine tTake (i := 4) (v := ?_) rfl (by kernel_rfl) (by kernel_rfl) (by kernel_rfl) (by kernel_rfl) (fun _ _ _ h => h) hHeld (by rfl) ?_ ?_
    rotate_left
    · (intro w hSw; (try dsimp only at hSw); go_simp; try with_reducible rfl)
    try simp only [Act.put, List.setIfInBounds_toArray, List.set_cons_zero, List.set_cons_succ]
    refine tTake (i := 5) (v := ?_) rfl (by kernel_rfl) (by kernel_rfl) (by kernel_rfl) (by kernel_rfl) (fun _ _ _ h => h) hHeld (by rfl) ?_ ?_
    rotate_left
    · (intro w hSw; (try dsimp only at hSw); go_simp; try with_reducible rfl)
    try simp only [Act.put, List.setIfInBounds_toArray, List.set_cons_zero, List.set_cons_succ]
    refine tStep (i := 6) rfl (by kernel_rfl) (fun K hK => ?_)
    go_simp
    have hB6 := (hB5.alloc (.cells #[.string x0, .string x1, .pointer x2] 99)).drew
    have hP6 := (hP5.alloc (.cells #[.string x0, .string x1, .pointer x2] 99)).drew
    have hN6 := (Bk.new_ w5 99 #[.string x0, .string x1, .pointer x2]).drew
    have hmv6 : OwnK ((w5.alloc (.cells #[.string x0, .string x1, .pointer x2] 99)).drew) 0 99 3 (.slice Am s.mvs.length cm) s.mvs.length (s.mvs.flatMap (mvCs G.fid)) := OwnK.kbP hmv5 (X := fun _ => False) ((KbP.refl _ w5).alloc _).drew (fun _ _ h => h)
    have hHeld6 : (fun W : World => W.cell? ⟨fb, 10, none⟩ = some (.slice Am s.mvs.length cm) ∧ W.cell? ⟨pb, 0, none⟩ = some (.string x0) ∧ W.cell? ⟨pb, 1, none⟩ = some (.string x1) ∧ W.cell? ⟨pb, 2, none⟩ = some (.pointer x2)) ((w5.alloc (.cells #[.string x0, .string x1, .pointer x2] 99)).drew) := ⟨(hB6.cell 10).trans ((hB5.cell 10).symm.trans c10), hP6.cell 0, hP6.cell 1, hP6.cell 2⟩
    refine hK.out _ _ (fun _ => hHeld6) ?_
    clear hK K hHeld
    have hHeld := hHeld6
    clear hHeld6
    try simp only [Act.put, List.setIfInBounds_toArray, List.set_cons_zero, List.set_cons_succ]
    refine tStep (i := 7) rfl (by kernel_rfl) (fun K hK => ?_)
    refine at_app (.tmp 14) (.tmp 16) ?_
    refine step_appK rfl (.tmp 14) (.tmp 16) rfl slm (by decide) rfl hmv6 (Nat.zero_le _) rfl (news := [.string x0, .string x1, .pointer x2]) rfl (fun j u hu => by rw [Nat.zero_add]; exact (hN6.cell j).trans (by simpa using hu)) (by intro u hu; simp only [List.mem_cons, List.not_mem_nil, or_false] at hu; rcases hu with rfl | rfl | rfl <;> rfl) (by omega) ?_
    intro v8 w8 ho8 hb8 hg8 hat8
    obtain ⟨A8, c8, rfl, hc8⟩ := ho8.shape
    have hB8 := bkGrown hB6 hg8 (own_bkK hmv6 hB6 (by decide))
    have hP8 := bkGrown hP6 hg8 (fun e => by have := hmvl _ (hmvE ▸ e); rw [← Hpb.out] at this; exact absurd this (Nat.lt_irrefl _))
    have hHeld8 : (fun W : World => W.cell? ⟨fb, 10, none⟩ = some (.slice Am s.mvs.length cm) ∧ W.cell? ⟨pb, 0, none⟩ = some (.string x0) ∧ W.cell? ⟨pb, 1, none⟩ = some (.string x1) ∧ W.cell? ⟨pb, 2, none⟩ = some (.pointer x2)) w8 := ⟨(hB8.cell 10).trans ((hB5.cell 10).symm.trans c10), hP8.cell 0, hP8.cell 1, hP8.cell 2⟩
    refine hK.out _ _ (fun _ => hHeld8) ?_
    clear hK K hHeld hHeld8
    try simp only [Act.put, List.setIfInBounds_toArray, List.set_cons_zero, List.set_cons_succ]
    refine tStep (i := 8) rfl (by kernel_rfl) (fun K hK => ?_)
    go_simp
    refine hK.out _ _ (fun h => absurd h (by decide)) ?_
    clear hK K
    try simp only [Act.put, List.setIfInBounds_toArray, List.set_cons_zero, List.set_cons_succ]
    refine tStep (i := 9) rfl (by kernel_rfl) (fun K hK => ?_)
    go_simp
    refine hK.out _ _ (fun h => absurd h (by decide)) ?_
    clear hK K
    try simp only [Act.put, List.setIfInBounds_toArray, List.set_cons_zero, List.set_cons_succ]
    have q := hB8.cell
    have z := hB8.frz
    refine tStep (i := 10) rfl (by kernel_rfl) (fun K hK => ?_)
    go_simp
    refine hK.out _ _ (fun h => absurd h (by decide)) ?_
    clear hK K q z
    try simp only [Act.put]
    refine tDone (by kernel_rfl) ?_ _
    have hk58 : KbP (fun b => (Value.slice Am s.mvs.length cm).ownBlock = some b) w5 w8 := KbP.grown (((KbP.refl _ w5).alloc (.cells #[.string x0, .string x1, .pointer x2] 99)).drew) hg8 (fun g e => .inl e)
    have hk89 : KbP (fun b => b = fb) w8 (w8.setCell ⟨fb, 10, none⟩ (.slice A8 (s.mvs.length + 1) c8)) := (KbP.refl (fun b => b = fb) w8).setCell (p := ⟨fb, 10, none⟩) (.inl rfl) _
    have hown9 := OwnK.far (p := ⟨fb, 10, none⟩) ho8 (own_bkK ho8 hB8 (by decide)) (.slice A8 (s.mvs.length + 1) c8)
    have hs15 := hk5.size
    have hs01 : w.heap.size ≤ w5.heap.size := by have h1 := Hpb.out; have h2 : W1.drew.heap.size = W1.heap.size := rfl; omega
    go_end0
    refine ⟨rfl, D5, .slice A8 (s.mvs.length + 1) c8, hB8.set_ 10 _, ownsMap_kbP (ownsMap_kbP hm5 hk58 (fun e => hmvd _ (hmvE ▸ e) rfl)) hk89 hdmf, hr5, ?_, ?_, ?_⟩
    · rw [List.flatMap_append, show [m].flatMap (mvCs G.fid) = [.string x0, .string x1, .pointer x2] from by rw [← Hu.out]; simp]; exact hown9
    · rw [hmvE]; exact hat8.imp_right (fun ⟨g, e, hg⟩ => ⟨g, e, by simp at hg; omega⟩)
    · exact ((hk1.trans hk5 (fun b e => .inl (.inr (.inl e)))).trans hk58 (fun b e => .inl (.inr (.inr (hmvE ▸ e))))).trans hk89 (fun b e => .inl (.inl e))
end Go.Proofs.YtgilnjngphhhlaaGreat
/- Layer 1: the directory is made safe: the walk of SyncDir. -/
namespace Go.Proofs.YtgilnjngphhhlaaGreat
open Go.RowKit Go.Lec Go.Fsy Go.Op Go.Maps
section
variable {X I : Nat → Prop} {w w1 w' : World} {fb : Nat} {s : St} {G : Geo}
/-- What an operation that answers a code alone leaves. -/
def UpdP (X I : Nat → Prop) (w : World) (fb : Nat) (r : St × Int) (e : Ending) (w' : World) : Prop := e = .returned (.int .i64 r.2) ∧ ∃ X' I', FsP X' I' w' fb r.1 ∧ Grow X I w X' I' w'
/-- The safe directory is made anew out of the directory. -/
theorem FsG.settled {sm' : Nat} (h : FsG X I w fb s G) (hb1 : Below w.heap.size w w1) (hm : w1.ownsMap Tryz.prog 9 ptrR sm' s.dir.length G.D1) (hd : w.heap.size ≤ sm') (hk : KbP (fun b => b = fb) w1 w') (hb : Bk w' fb 74 (fsCs s { G with sm := sm', D2 := G.D1, mv := .slice none 0 0 })) :
    FsG (fun b => X b ∨ b = sm') I w' fb (Fsy.settle s) { G with sm := sm', D2 := G.D1, mv := .slice none 0 0 } := by
  have h1 := h.below hb1
  have hI : ∀ b, I b → ¬ b = fb := fun b hb e => h.xi b hb (e ▸ h.xfb)
  have hal : ∀ i, alive (Fsy.settle s) i → alive s i := fun i hi => by
    rcases hi with ⟨n, hn⟩ | ⟨n, hn⟩ | ⟨m, hm, _⟩
    · exact .inl ⟨n, hn⟩
    · exact .inl ⟨n, hn⟩
    · cases hm
  have hsmlt := h.dmap.lt
  have hfl := h.bk.lt
  refine ⟨hb, h1.rk.kbP hk hI, h1.rf.kbP hk hI, h1.ru.kbP hk hI, h.nk, h.nf, h.nu, ownsMap_kbP h1.dmap hk (fun e => bk_map h.bk h.dmap e.symm), ownsMap_kbP hm hk (fun e => by change sm' = fb at e; omega), h.rep1, h.rep1,
    ⟨rfl, .inl ⟨rfl, rfl⟩⟩, fun i hi => ?_, fun i j hi hj => h.inj i j (hal i hi) (hal j hj), fun i j g hi hj => h.injl i j g (hal i hi) (hal j hj), (fun e => by change G.dm = sm' at e; omega), .inl h.xfb, .inl h.xdm, .inr rfl, (fun g hg => by cases hg), fun b hb hx => ?_, fun b hb' => ?_⟩
  · have hf := h1.files i (hal i hi)
    obtain ⟨vs, hO⟩ := hf.own
    obtain ⟨cs, hB⟩ := hf.bk
    exact (hf.kbP hk (fun e => bk_ne h1.bk hB (by decide) e.symm) (fun g hg e => own_bkK hO h1.bk (by decide) (e ▸ hg)) hI).more (fun b => .inl) (fun b hb => hb)
  · rcases hx with hx | hx
    · exact h.xi b hb hx
    · have := h.lt b (.inr hb); omega
  · have h2 := hb1.size
    have h3 := hk.size
    rcases hb' with (hb' | hb') | hb'
    · have := h.lt b (.inl hb'); omega
    · have := hm.lt; omega
    · have := h.lt b (.inr hb'); omega
end
set_option maxRecDepth 100000 in
set_option maxHeartbeats 1600000 in
theorem c_SyncDir (w : World) {X I : Nat → Prop} {fb N : Nat} {s : St} (h : FsP X I w fb s) (hi : Fsy.Inv s N) (hN : N ≤ 1048575) (hp : s.pl.ok) :
    Calls Tryz.prog 28 #[ptrV fb] w (UpdP X I w fb (Fsy.syncDir s)) := by
  have HO := Lib.hid (c_op w h hi hN hp)
  unfold OpP at HO
  have hbi := hi.begin
  have hpl : (Fsy.begin s).1.pl = s.pl := by
    unfold Fsy.begin
    split
    · rfl
    · split
      · rfl
      · split <;> rfl
  obtain ⟨b, hb⟩ : ∃ x, x = Fsy.begin s := ⟨_, rfl⟩
  have hsd : Fsy.syncDir s = if b.2 ≠ 0 then b else if Fsy.full b.1 then (b.1, 11) else (Fsy.settle b.1, 0) := by rw [hb]; rfl
  rw [← hb] at HO hbi hpl
  have hp1 : b.1.pl.ok := by rw [hpl]; exact hp
  rw [hsd]
  clear hsd hb h hi hpl hp
  unfold ptrV at *
  by_cases hc : b.2 = 0
  · rw [if_neg (by simpa using hc)]
    rw [hc] at HO
    obtain ⟨fl, hfl⟩ : ∃ x, x = Fsy.full b.1 := ⟨_, rfl⟩
    have hno : noRoom b.1 0 = fl := by rw [hfl]; simp [noRoom]
    rw [← hfl]
    clear hfl hc
    cases fl with
    | true =>
      rw [if_pos rfl]
      go_enter Tryz.func28, Tryz.ntmps28
      go_wp2_with (first | (go_at_call 38; refine HO.out.mono ?_; rintro e w1 ⟨n, rfl, hn, X1, I1, hP1, hg1⟩; have hn := hn rfl; subst hn; have HF := Lib.hid (c_full w1 hP1 hbi (by omega) hp1 0 (by omega)); rw [hno] at HF) | (go_at_call 40; refine HF.out.mono ?_; rintro e w2 ⟨rfl, hb2⟩))
      go_ret
      exact ⟨rfl, X1, I1, hP1.below hb2, hg1.trans (Grow.of_kb (KbP.of_below hb2))⟩
    | false =>
      rw [if_neg Bool.false_ne_true]
      go_enter Tryz.func28, Tryz.ntmps28
      go_wp2_with (first | (go_at_call 38; refine HO.out.mono ?_; rintro e w1 ⟨n, rfl, hn, X1, I1, hP1, hg1⟩; have hn := hn rfl; subst hn; have HF := Lib.hid (c_full w1 hP1 hbi (by omega) hp1 0 (by omega)); rw [hno] at HF) | (go_at_call 40; refine HF.out.mono ?_; rintro e w2 ⟨rfl, hb2⟩; obtain ⟨G, hG⟩ := hP1.below hb2; have c8 : w2.cell? ⟨fb, 8, none⟩ = some (.map (some G.dm)) := hG.bk.cell 8; have HC := Lib.hid (c_mapClone w2 hG.dmap)) | (go_at_call 43; refine HC.out.mono ?_; rintro e w3 ⟨rfl, hm3, hb3⟩; have hB3 := hG.bk.below hb3 hG.bk.lt; have q3 := hB3.cell; have z3 := hB3.frz))
      go_ret
      have hk8 : KbP (fun b => b = fb) w3 ((w3.setCell ⟨fb, 9, none⟩ (.map (some w2.heap.size))).setCell ⟨fb, 10, none⟩ (.slice none 0 0)) := ((KbP.refl (fun b => b = fb) w3).setCell (p := ⟨fb, 9, none⟩) (.inl rfl) _).setCell (p := ⟨fb, 10, none⟩) (.inl rfl) _
      have hT := FsG.settled (sm' := w2.heap.size) hG hb3 hm3 (Nat.le_refl _) hk8 ((hB3.set_ 9 (.map (some w2.heap.size))).set_ 10 (.slice none 0 0))
      refine ⟨rfl, _, I1, ⟨_, hT⟩, (hg1.trans (Grow.of_kb (KbP.of_below hb2))).trans ⟨fun b hb => hb.imp_right (fun e => by rw [e]; exact Nat.le_refl _), fun b hb => .inl hb, ((KbP.of_below hb3 : KbP X1 w2 w3)).trans hk8 (fun b e => .inl (e ▸ hG.xfb))⟩⟩
  · rw [if_pos hc]
    obtain ⟨st, cd⟩ := b
    simp only at hc HO
    go_enter Tryz.func28, Tryz.ntmps28
    have hcd : (cd == 0) = false := by rw [beq_eq_false_iff_ne]; exact hc
    go_wp2_with (first | (go_at_call 38; refine HO.out.mono ?_; rintro e w1 ⟨n, rfl, hn, X1, I1, hP1, hg1⟩))
    go_ret
    exact ⟨rfl, X1, I1, hP1, hg1⟩
end Go.Proofs.YtgilnjngphhhlaaGreat
/- Layer 1: a file is made safe: the walk of Sync. -/
namespace Go.Proofs.YtgilnjngphhhlaaGreat
open Go.RowKit Go.Lec Go.Fsy Go.Op Go.Maps
theorem begin_pl (s : St) : (Fsy.begin s).1.pl = s.pl := by
  unfold Fsy.begin
  split
  · rfl
  · split
    · rfl
    · split <;> rfl
/-- A file that was made safe. -/
theorem fileSync {X I : Nat → Prop} {w w4 : World} {fi c1 c3 c4 : Nat} {A1 A3 A4 : Option Addr} {lv : Value} {nd : Nd} (hx : X fi) (hxi : ∀ b, I b → ¬ X b) (hB : Bk w fi 89 #[.slice A1 nd.safe.length c1, lv, .slice A3 nd.data.length c3]) (hR3 : RdP I w A3 nd.data.length (bcs nd.data)) (hc3 : nd.data.length ≤ c3)
    (hR4 : RdP (fun b => w.heap.size ≤ b) w4 A4 nd.data.length (bcs nd.data)) (hc4 : nd.data.length ≤ c4) (hb4 : Below w.heap.size w w4) :
    FileOk X (fun q => I q ∨ (w.heap.size ≤ q ∧ q < ((w4.setCell ⟨fi, 0, none⟩ (.slice A4 nd.data.length c4)).setCell ⟨fi, 1, none⟩ (.slice none 0 0)).heap.size)) ((w4.setCell ⟨fi, 0, none⟩ (.slice A4 nd.data.length c4)).setCell ⟨fi, 1, none⟩ (.slice none 0 0)) fi (.slice none 0 0) ⟨nd.data, []⟩ ∧
      KbP (fun q => q = fi) w ((w4.setCell ⟨fi, 0, none⟩ (.slice A4 nd.data.length c4)).setCell ⟨fi, 1, none⟩ (.slice none 0 0)) := by
  have hfl := hB.lt
  have s4 := hb4.size
  have hB4 := hB.below hb4 hfl
  have hk4 : KbP (fun q => q = fi) w4 ((w4.setCell ⟨fi, 0, none⟩ (.slice A4 nd.data.length c4)).setCell ⟨fi, 1, none⟩ (.slice none 0 0)) := ((KbP.refl (fun q => q = fi) w4).setCell (p := ⟨fi, 0, none⟩) (.inl rfl) _).setCell (p := ⟨fi, 1, none⟩) (.inl rfl) _
  have r4 := hR4.kbP hk4 (fun b hb e => by omega)
  have r3 := (hR3.kbP (KbP.of_below hb4 : KbP (fun _ => False) w w4) (fun _ _ h => h)).kbP hk4 (fun b hb e => hxi b hb (e ▸ hx))
  exact ⟨⟨⟨A4, c4, A3, c3, [], (hB4.set_ 0 _).set_ 1 _, ⟨r4.rd, fun h p hp => .inr ⟨r4.lie h p hp, r4.lt h p hp⟩⟩, hc4, r3.more (fun b => .inl), hc3, OwnK.nil_ _ _ _ _, rfl, fun k v c h => by simp at h⟩, hx, fun g hg => by cases hg⟩, ((KbP.refl (fun q => q = fi) w).after hb4).trans hk4 (fun b e => .inl e)⟩
set_option maxRecDepth 100000 in
set_option maxHeartbeats 1600000 in
theorem c_Sync (w : World) {X I : Nat → Prop} {fb N : Nat} {s : St} {name : Bs} (h : FsP X I w fb s) (hi : Fsy.Inv s N) (hN : N ≤ 1048575) (hp : s.pl.ok) (hn : name.length ≤ 4294967296) :
    Calls Tryz.prog 24 #[ptrV fb, .string ⟨name.toArray⟩] w (UpdP X I w fb (Fsy.sync s name)) := by
  have HO := Lib.hid (c_op w h hi hN hp)
  unfold OpP at HO
  have hbi := hi.begin
  obtain ⟨b, hb⟩ : ∃ x, x = Fsy.begin s := ⟨_, rfl⟩
  have hsd : Fsy.sync s name = if b.2 ≠ 0 then b else match node b.1.dir name with | none => (b.1, 14) | some i => (setNd b.1 i ⟨(ndAt b.1.nodes i).data, []⟩, 0) := by rw [hb]; rfl
  rw [← hb] at HO hbi
  rw [hsd]
  clear hsd hb h hi hp
  unfold ptrV at *
  by_cases hc : b.2 = 0
  · rw [if_neg (by simpa using hc)]
    rw [hc] at HO
    have HLK := Lib.hid (fun (W : World) (X1 I1 : Nat → Prop) (G : Geo) (hG : FsG X1 I1 W fb b.1 G) => look_ok hG.dmap hG.rep1 hn)
    cases hnd : node b.1.dir name with
    | none =>
      rw [hnd] at HLK
      clear hc
      go_enter Tryz.func24, Tryz.ntmps24
      go_wp2_with (first | (go_at_call 38; refine HO.out.mono ?_; rintro e w1 ⟨n, rfl, hn1, X1, I1, ⟨G, hG⟩, hg1⟩; have c8 : w1.cell? ⟨fb, 8, none⟩ = some (.map (some G.dm)) := hG.bk.cell 8; have hlk := HLK.out w1 X1 I1 G hG))
      go_ret
      exact ⟨rfl, X1, I1, ⟨G, hG⟩, hg1⟩
    | some i =>
      rw [hnd] at HLK
      have hal : alive b.1 i := .inl ⟨_, node_some hnd⟩
      have hil := (hbi.dir.2 _ (node_some hnd)).2.2
      have hsz := hbi.size i
      clear hc
      unfold ptrV at *
      go_enter Tryz.func24, Tryz.ntmps24
      go_wp2_with (first | (go_at_call 38; refine HO.out.mono ?_; rintro e w1 ⟨n, rfl, hn1, X1, I1, ⟨G, hG⟩, hg1⟩; have c8 : w1.cell? ⟨fb, 8, none⟩ = some (.map (some G.dm)) := hG.bk.cell 8; have hlk := HLK.out w1 X1 I1 G hG; obtain ⟨A1, c1, A3, c3, vs, hB, hR1, hc1, hR3, hc3, _⟩ := (hG.files i hal).ex; have qf := hB.cell; have HC := Lib.hid (c_CloneB w1 (c := c3) hR3.rd (Nat.le_refl _) (by unfold sizeAt at hsz; omega))) | (go_at_call 25; refine HC.out.mono ?_; rintro e w4 ⟨A4, c4, rfl, hc4, hR4, hb4⟩; have hB4 := hB.below hb4 hB.lt; have q4 := hB4.cell; have z4 := hB4.frz))
      go_ret
      have hfs := fileSync (hG.files i hal).xf hG.xi hB hR3 hc3 hR4 hc4 hb4
      obtain ⟨X2, I2, hP2, hg2⟩ := fs_setNd (nd := ⟨(ndAt b.1.nodes i).data, []⟩) (lv' := .slice none 0 0) hG hal hil (hfs.1.more (fun q => .inl) (fun q hq => hq.imp_right (fun e => ⟨e.1, e.2, fun e => by cases e⟩))) (.inr (fun g hg => by cases hg)) (hfs.2.more (fun q hq => .inl hq))
      exact ⟨rfl, X2, I2, hP2, hg1.trans hg2⟩
  · rw [if_pos hc]
    obtain ⟨st, cd⟩ := b
    simp only at hc HO
    have hcd : (cd == 0) = false := by rw [beq_eq_false_iff_ne]; exact hc
    go_enter Tryz.func24, Tryz.ntmps24
    go_wp2_with (first | (go_at_call 38; refine HO.out.mono ?_; rintro e w1 ⟨n, rfl, hn1, X1, I1, hP1, hg1⟩))
    go_ret
    exact ⟨rfl, X1, I1, hP1, hg1⟩
end Go.Proofs.YtgilnjngphhhlaaGreat
/- Layer 1: a move is done: what holds of the whole. -/
namespace Go.Fsy
theorem moved_mem {l : Dir} {m : Mv} {n : Bs} {i : Nat} (h : (n, i) ∈ moved l m) : (n, i) ∈ l ∨ m.nd = some i := by
  cases m with
  | made b k =>
    rcases List.mem_append.1 h with ha | ha
    · exact .inl ((without_sub _ _).subset ha)
    · rw [List.mem_singleton] at ha; cases ha; exact .inr rfl
  | ren b c k =>
    rcases List.mem_append.1 h with ha | ha
    · exact .inl ((without_sub _ _).subset ((without_sub _ _).subset ha))
    · rw [List.mem_singleton] at ha; cases ha; exact .inr rfl
  | rem b => exact .inl ((without_sub _ _).subset h)
theorem alive_step {s : St} {m : Mv} {i : Nat} (h : alive (step s m) i) : alive s i ∨ m.nd = some i := by
  rcases h with ⟨n, h⟩ | ⟨n, h⟩ | ⟨m', h, hd⟩
  · exact (moved_mem h).imp_left (fun h => .inl ⟨n, h⟩)
  · exact .inl (.inr (.inl ⟨n, h⟩))
  · rcases List.mem_append.1 h with h | h
    · exact .inl (.inr (.inr ⟨m', h, hd⟩))
    · rw [List.mem_singleton] at h; subst h; exact .inr hd
end Go.Fsy
namespace Go.Proofs.YtgilnjngphhhlaaGreat
open Go.RowKit Go.Lec Go.Fsy Go.Op Go.Maps
theorem FsG.stepped {X I : Nat → Prop} {w w' : World} {fb : Nat} {s : St} {G : Geo} {m : Mv} {e : Ending} (h : FsG X I w fb s G) (hnd : ∀ i, m.nd = some i → alive s i) (hS : StepP w fb s G m e w') : ∃ X', FsP X' I w' fb (Fsy.step s m) ∧ Grow X I w X' I w' := by
  obtain ⟨_, D, mv, hB, hm, hr, ho, hat, hk⟩ := hS
  have hal : ∀ i, alive (Fsy.step s m) i → alive s i := fun i hi => (alive_step hi).elim id (hnd i)
  have hYX : ∀ b, (b = fb ∨ b = G.dm ∨ G.mv.ownBlock = some b) → X b := by
    rintro b (rfl | rfl | hb)
    · exact h.xfb
    · exact h.xdm
    · exact h.xmv b hb
  have hI : ∀ b, I b → ¬ (b = fb ∨ b = G.dm ∨ G.mv.ownBlock = some b) := fun b hb e => h.xi b hb (hYX b e)
  have hmv : ∀ b, mv.ownBlock = some b → X b ∨ w.heap.size ≤ b := fun b hb => by
    rcases hat with e | ⟨g, e, hg⟩
    · exact .inl (h.xmv b (e ▸ hb))
    · rw [e] at hb; cases hb; exact .inr hg
  refine ⟨fun b => X b ∨ mv.ownBlock = some b, ⟨{ G with D1 := D, mv := mv }, ⟨hB, h.rk.kbP hk hI, h.rf.kbP hk hI, h.ru.kbP hk hI, h.nk, h.nf, h.nu, hm, ownsMap_kbP h.smap hk ?_, hr, h.rep2, ?_, fun i hi => ?_, fun i j hi hj => h.inj i j (hal i hi) (hal j hj), fun i j g hi hj => h.injl i j g (hal i hi) (hal j hj), h.ne, .inl h.xfb, .inl h.xdm, .inl h.xsm, fun g hg => .inr hg, ?_, ?_⟩⟩, ⟨fun b hb => hb.elim .inl (hmv b), fun b hb => .inl hb, hk.more hYX⟩⟩
  · rintro (e | e | e)
    · exact bk_map h.bk h.smap e.symm
    · exact h.ne e.symm
    · exact own_map h.mvs h.smap e
  · have hl : (Fsy.step s m).mvs.length = s.mvs.length + 1 := by simp [Fsy.step]
    rw [hl]; exact ho
  · have hf := h.files i (hal i hi)
    obtain ⟨vs, hO⟩ := hf.own
    obtain ⟨cs, hBf⟩ := hf.bk
    refine (hf.kbP hk ?_ ?_ hI).more (fun b => .inl) (fun b hb => hb)
    · rintro (e | e | e)
      · exact bk_ne h.bk hBf (by decide) e.symm
      · exact bk_map hBf h.dmap e
      · exact own_bkK h.mvs hBf (by decide) e
    · rintro g hg (e | e | e)
      · exact own_bkK hO h.bk (by decide) (e ▸ hg)
      · exact own_map hO h.dmap (e ▸ hg)
      · exact own_own h.mvs hO (by decide) g e hg
  · rintro b hb (hx | hx)
    · exact h.xi b hb hx
    · rcases hmv b hx with e | e
      · exact h.xi b hb e
      · have := h.lt b (.inr hb); omega
  · rintro b ((hb | hb) | hb)
    · exact Nat.lt_of_lt_of_le (h.lt b (.inl hb)) hk.size
    · exact (World.ownsRow.lt ho b hb).2
    · exact Nat.lt_of_lt_of_le (h.lt b (.inr hb)) hk.size
end Go.Proofs.YtgilnjngphhhlaaGreat
/- Layer 1: a file is removed: the walk of Remove. -/
namespace Go.Proofs.YtgilnjngphhhlaaGreat
open Go.RowKit Go.Lec Go.Fsy Go.Op Go.Maps
end Go.Proofs.YtgilnjngphhhlaaGreat
