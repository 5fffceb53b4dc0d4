/- Layer 2: the reader takes bytes: the walk. -/
import Derived.Test.YtjcifmbbdofjiaaCdI
namespace Go.Proofs.Ytjcifmbbdofjiaa
open Go.RowKit Go.Lec
/-- A taking's end: bytes of the call's own, or nothing and an error that stays. -/
def TkEnd (w : World) (R B : Nat) (A : Option Addr) (n c : Nat) (l : List UInt8) (at_ m : Nat) (e : Ending) (w' : World) : Prop :=
  (m ≤ (l.drop at_).length ∧ ∃ v, e = .returned v ∧ Rdr w' R B A n c l (at_ + m) 0 ∧ Lec.Own w' w.heap.size 5 v (bcs ((l.drop at_).take m)) ∧ Kb [R] w w') ∨ ((l.drop at_).length < m ∧ e = .returned (.slice none 0 0) ∧ Rdr w' R B A n c l at_ 20 ∧ Kb [R] w w')

set_option maxRecDepth 40000 in
set_option maxHeartbeats 1600000 in
theorem c_onB (w : World) (bm : Nat) {R B : Nat} {A : Option Addr} {n c : Nat} {l : List UInt8} {at_ m : Nat} (h : Rdr w R B A n c l at_ 0) (hn : n ≤ 1099511627776) (hm' : m ≤ 1099511627776) (hbm : w.cell? ⟨bm, 0, none⟩ = some (.int .i64 (m : Int))) :
    Calls Try.prog 79 #[.pointer (some ⟨R, 0, none⟩), .func (.func 80) #[] #[.pointer (some ⟨bm, 0, none⟩)]] w (TkEnd w R B A n c l at_ m) := by
  have hmf : ∀ (fn : Fn) (first cap : Array Value) (w : World), (Instr.makeFunc fn first cap).run Try.prog w = .ok (.func fn first cap) w := fun _ _ _ _ => rfl
  have lR := h.bk.lt
  have lbm := World.block_lt_of_cell? w _ hbm
  dsimp only at lbm
  have Hbm := Lib.hid hbm
  clear hbm
  go_enter Try.func79, Try.ntmps79
  go_wp2_with fail
  obtain ⟨H0, H1, H2, hsz, hBl⟩ := Bk.new3 w 104 #[.pointer (some ⟨R, 0, none⟩)] 119 #[.func (.func 80) #[] #[.pointer (some ⟨bm, 0, none⟩)]] 25 #[.slice none 0 0]
  generalize (((w.alloc (.cells #[.pointer (some ⟨R, 0, none⟩)] 104)).alloc (.cells #[.func (.func 80) #[] #[.pointer (some ⟨bm, 0, none⟩)]] 119)).alloc (.cells #[.slice none 0 0] 25)) = W3 at *
  obtain ⟨b0, hb0⟩ : ∃ b, b = w.heap.size := ⟨_, rfl⟩
  have hR3 := h.below hBl lR
  have q3 := hR3.bk.cell
  rw [← hb0] at H0 H1 H2 hsz hBl lR lbm ⊢
  have Hb0 := Lib.hid hb0
  have Hsz := Lib.hid hsz
  clear hb0 hsz
  refine (c_Ris W3 hR3).mono ?_
  rintro e w' ⟨rfl, rfl⟩
  have g0 := H0.cell 0
  go_upto_region 5 with fail
  have H3 := Bk.new_ W3 3 #[.int .i64 0]
  have hB4 := hBl.alloc (o := .cells #[.int .i64 0] 3) (by have := Hsz.out; omega)
  have H0' := H0.alloc (.cells #[.int .i64 0] 3)
  have H1' := H1.alloc (.cells #[.int .i64 0] 3)
  have H2' := H2.alloc (.cells #[.int .i64 0] 3)
  rw [Hb0.out] at hB4
  have hR4 := h.below hB4 (by have := Hb0.out; omega)
  rw [Hsz.out] at H3
  have hz4 : (W3.alloc (.cells #[.int .i64 0] 3)).heap.size = b0 + 4 := by rw [World.size_alloc, Hsz.out]
  obtain ⟨W4, hW4⟩ : ∃ W, W = W3.alloc (.cells #[.int .i64 0] 3) := ⟨_, rfl⟩
  rw [← hW4] at H3 H0' H1' H2' hR4 hB4 hz4
  rw [Hsz.out, ← hW4]
  clear hW4 H0 H1 H2 hR3 q3 g0 hBl Hsz
  have Hz4 := Lib.hid hz4
  clear hz4
  have hout : b0 + 1 ∉ [b0 + 1 + 1, b0 + 1 + 1 + 1] ∧ b0 ∉ [b0 + 1 + 1, b0 + 1 + 1 + 1] ∧ R ∉ [b0 + 1 + 1, b0 + 1 + 1 + 1] := by
    refine ⟨?_, ?_, ?_⟩ <;> (simp only [List.mem_cons, List.not_mem_nil, or_false]; omega)
  have HC := Lib.hid (c_onBG W4.drew (b0 + 1) b0 (b0 + 1 + 1) (b0 + 1 + 1 + 1) bm (e := 0) (m := m) ⟨hR4.bk.drew, hR4.rd.drew, hR4.cap, hR4.low, hR4.in_⟩ hn hm' ((hB4.cell (p := ⟨bm, 0, none⟩) (by have := Hb0.out; dsimp only; omega)).trans Hbm.out) (H1'.drew.cell 0) (H0'.drew.cell 0) H2'.drew H3.drew (by omega) hout)
  have HK := Lib.hid (fun (W' : World) (hk : Kb [b0 + 1 + 1, b0 + 1 + 1 + 1, R] W4 W') => (H0'.kb hk (by simp only [List.mem_cons, List.not_mem_nil, or_false]; omega)).cell 0)
  have g0 := H0'.cell 0
  have hkb0 : Kb [R] w W4 := ⟨hB4.os, hB4.tape, hB4.output, hB4.size, fun k hk _ => hB4.block k hk⟩
  have hR2 : R ∉ [b0 + 1 + 1, b0 + 1 + 1 + 1] := hout.2.2
  clear hout
  by_cases hfit : m ≤ (l.drop at_).length
  · have hin := h.in_
    have hk1 : at_ + m ≤ n := by rw [List.length_drop, h.len] at hfit; omega
    have i3 : IntKind.i64.wrap ((at_ : Int) + (m : Int)) = (at_ : Int) + (m : Int) := IntWalk.i64_in _ (by omega)
    have HC2 := Lib.hid (HC.out.mono (R' := fun e w' => ∃ v, e = .returned (.int .i64 0) ∧ Bk w' (b0 + 1 + 1) 25 #[v] ∧ Bk w' (b0 + 1 + 1 + 1) 3 #[.int .i64 (m : Int)] ∧ Lec.Own w' W4.heap.size 5 v (bcs ((l.drop at_).take m)) ∧ Kb [b0 + 1 + 1, b0 + 1 + 1 + 1] W4 w') (by
      rintro e w1 (⟨_, v, rfl, h2, h3, ho, h4⟩ | ⟨h1, _⟩)
      · exact ⟨v, rfl, h2, h3, ho, ⟨h4.os, h4.tape, h4.output, h4.size, h4.block⟩⟩
      · omega))
    have Hfit := Lib.hid hfit
    clear HC hfit
    go_region_held3 (fun W => W.cell? ⟨b0, 0, none⟩ = some (.pointer (some ⟨R, 0, none⟩)))
      ((refine HK.out _ ?_; first | exact (Kb.refl _ _).drew | exact hkm | exact hkm.setCell (.inl (by simp)) _))
      (first | (go_at_call 82; refine HC2.out.mono ?_; rintro e w1 ⟨v, rfl, hv1, hn1, ho, hk⟩; obtain ⟨A1, c1, rfl, hc1⟩ := ho.shape; have HR1 := hR4.bk.kb hk hR2; have r3 := HR1.cell 3; have z3 := HR1.frz 3; have hkm := hk.more (S' := [b0 + 1 + 1, b0 + 1 + 1 + 1, R]) (fun b hb => by simp only [List.mem_cons, List.not_mem_nil, or_false] at hb ⊢; omega)))
    have HR5 := HR1.set_ 3 (.int .i64 0)
    have Hv5 := hv1.far (p := ⟨R, 3, none⟩) (by dsimp only; omega) (.int .i64 0)
    have Hn5 := hn1.far (p := ⟨R, 3, none⟩) (by dsimp only; omega) (.int .i64 0)
    have H05 := (H0'.kb hkm (by simp only [List.mem_cons, List.not_mem_nil, or_false]; omega)).far (p := ⟨R, 3, none⟩) (by dsimp only; omega) (.int .i64 0)
    have c0 := H05.cell 0
    have cv := Hv5.cell 0
    have cn := Hn5.cell 0
    have cR := HR5.cell
    have zR := HR5.frz
    clear r3 z3
    have Hv6 := Hv5.far (p := ⟨R, 2, none⟩) (by dsimp only; omega) (.int .i64 ((at_ : Int) + (m : Int)))
    have cv6 := Hv6.cell 0
    have ho6 := ownsRow_setCell_below (ownsRow_setCell_below ho (a := ⟨R, 3, none⟩) (by have := Hz4.out; dsimp only; omega) (.int .i64 0)) (a := ⟨R, 2, none⟩) (by have := Hz4.out; dsimp only; omega) (.int .i64 ((at_ : Int) + (m : Int)))
    go_wp2
    go_region
    go_wp2
    go_ret
    have hk6 := (((hkm.setCell (p := ⟨R, 3, none⟩) (.inl (by simp)) (.int .i64 0)).setCell (p := ⟨R, 2, none⟩) (.inl (by simp)) (.int .i64 ((at_ : Int) + (m : Int)))).drew)
    have hkf : Kb [R] w _ := hkb0.trans hk6 (fun b hb => by have := Hb0.out; simp only [List.mem_cons, List.not_mem_nil, or_false] at hb ⊢; omega)
    refine .inl ⟨Hfit.out, _, rfl, ⟨?_, ?_, h.cap, h.low, by omega⟩, Lec.Own.mono ho6 (by have := Hz4.out; have := Hb0.out; omega), hkf⟩
    · exact (HR5.set_ 2 _).drew
    · exact h.rd.keep (fun p hp => hkf.cell (by have := Hb0.out; have := h.low; omega) (by simp only [List.mem_cons, List.not_mem_nil, or_false]; have := h.low; omega))
  · have HC2 := Lib.hid (HC.out.mono (R' := fun e w' => e = .returned (.int .i64 20) ∧ Kb [b0 + 1 + 1, b0 + 1 + 1 + 1] W4 w') (by
      rintro e w1 (⟨h1, _⟩ | ⟨_, rfl, h4⟩)
      · omega
      · exact ⟨rfl, ⟨h4.os, h4.tape, h4.output, h4.size, h4.block⟩⟩))
    have Hfit := Lib.hid hfit
    clear HC hfit
    go_region_held3 (fun W => W.cell? ⟨b0, 0, none⟩ = some (.pointer (some ⟨R, 0, none⟩)))
      ((refine HK.out _ ?_; first | exact (Kb.refl _ _).drew | exact hkm | exact hkm.setCell (.inl (by simp)) _))
      (first | (go_at_call 82; refine HC2.out.mono ?_; rintro e w1 ⟨rfl, hk⟩; have HR1 := hR4.bk.kb hk hR2; have r3 := HR1.cell 3; have z3 := HR1.frz 3; have hkm := hk.more (S' := [b0 + 1 + 1, b0 + 1 + 1 + 1, R]) (fun b hb => by simp only [List.mem_cons, List.not_mem_nil, or_false] at hb ⊢; omega)))
    have HR5 := HR1.set_ 3 (.int .i64 20)
    have H05 := (H0'.kb hkm (by simp only [List.mem_cons, List.not_mem_nil, or_false]; omega)).far (p := ⟨R, 3, none⟩) (by dsimp only; omega) (.int .i64 20)
    have c0 := H05.cell 0
    have cR := HR5.cell
    clear r3 z3
    have hk6 := hkm.setCell (p := ⟨R, 3, none⟩) (.inl (by simp)) (.int .i64 20)
    have hkf : Kb [R] w _ := hkb0.trans hk6 (fun b hb => by have := Hb0.out; simp only [List.mem_cons, List.not_mem_nil, or_false] at hb ⊢; omega)
    go_wp2
    go_ret
    refine .inr ⟨by have := Hfit.out; omega, rfl, ⟨HR5, ?_, h.cap, h.low, h.in_⟩, hkf⟩
    exact h.rd.keep (fun p hp => hkf.cell (by have := Hb0.out; have := h.low; omega) (by simp only [List.mem_cons, List.not_mem_nil, or_false]; have := h.low; omega))

set_option maxRecDepth 40000 in
theorem c_RTake (w : World) {R B : Nat} {A : Option Addr} {n c : Nat} {l : List UInt8} {at_ m : Nat} (h : Rdr w R B A n c l at_ 0) (hn : n ≤ 1099511627776) (hm : m ≤ 1099511627776) :
    Calls Try.prog 70 #[.pointer (some ⟨R, 0, none⟩), .int .i64 (m : Int)] w (TkEnd w R B A n c l at_ m) := by
  have hmf : ∀ (fn : Fn) (first cap : Array Value) (w : World), (Instr.makeFunc fn first cap).run Try.prog w = .ok (.func fn first cap) w := fun _ _ _ _ => rfl
  have hb := (Below.refl w.heap.size w).alloc (Nat.le_refl _) (.cells #[.int .i64 (m : Int)] 3)
  have HC := Lib.hid (c_onB (w.alloc (.cells #[.int .i64 (m : Int)] 3)) w.heap.size (m := m) (h.below hb h.bk.lt) hn hm ((Bk.new_ w 3 #[.int .i64 (m : Int)]).cell 0))
  go_enter Try.func70, Try.ntmps70
  go_wp2_with fail
  refine HC.out.mono ?_
  rintro e w' (⟨h1, v, rfl, h2, ho, hk⟩ | ⟨h1, rfl, h2, hk⟩)
  · obtain ⟨A1, c1, rfl, hc1⟩ := ho.shape
    go_wp2
    go_ret
    exact .inl ⟨h1, _, rfl, h2, Lec.Own.mono ho hb.size, (Kb.of_below hb).trans hk (fun b hb => .inl hb)⟩
  · go_wp2
    go_ret
    exact .inr ⟨h1, rfl, h2, (Kb.of_below hb).trans hk (fun b hb => .inl hb)⟩
set_option maxRecDepth 40000 in
theorem c_Uint1 (w : World) {R B : Nat} {A : Option Addr} {n c : Nat} {l : List UInt8} {at_ : Nat} (h : Rdr w R B A n c l at_ 0) (hn : n ≤ 1099511627776) :
    Calls Try.prog 68 #[.pointer (some ⟨R, 0, none⟩)] w (RdEnd w R B A n c l at_ (rdV (l.drop at_)) (.int .u64 0)) := by
  have HC := Lib.hid (c_RUint w h hn)
  go_enter Try.func68, Try.ntmps68
  go_wp2_with fail
  refine HC.out.mono ?_
  rintro e w' (⟨v, k, h1, rfl, h2, hk⟩ | ⟨err, h1, rfl, h2, hk⟩)
  · go_wp2
    go_ret
    exact .inl ⟨v, k, h1, rfl, h2, hk⟩
  · go_wp2
    go_ret
    exact .inr ⟨err, h1, rfl, h2, hk⟩
end Go.Proofs.Ytjcifmbbdofjiaa
