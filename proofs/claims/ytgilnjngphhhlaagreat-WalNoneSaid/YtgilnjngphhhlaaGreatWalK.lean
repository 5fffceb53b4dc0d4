/- Layer 17: bytes are read. -/
import Derived.Test.YtgilnjngphhhlaaGreatWalI
namespace Go.Proofs.YtgilnjngphhhlaaGreat
open Go.RowKit Go.Lec Go.Shelf
attribute [local go_sem] Oper.semAt_some

set_option maxRecDepth 100000 in
set_option maxHeartbeats 2000000 in
theorem c_wReadO (w : World) {B : Nat} {A : Option Addr} {n c : Nat} {L : List UInt8} (hr : Rd w B A n (bcs L)) (hB : B ≤ w.heap.size) (hnc : n ≤ c) (hn : n ≤ 1000000) :
    Calls Tryz.prog 20 #[.slice A n c] w (ReadPostO w (readB L)) := by
  refine (callsIn_wide (n := 5)).1 ?_
  refine callsIn_of_wp_marks Tryz.func20 rfl trivial ?_ rfl
  simp only [Tryz.ntmps20, List.size_toArray, List.length_cons, List.length_nil, Nat.reduceAdd, Nat.reduceSub, Array.replicate_succ, Array.replicate_zero, List.push_toArray, List.append_toArray, List.nil_append, List.cons_append]
  gi_wp2_with (refine ⟨trivial, ?_⟩; gi_at_call 37; refine (callsIn_wide.2 (c_parts _ A n c)).mono ?_; rintro e w1 ⟨rfl, rfl⟩)
  have b1 := ((((Bk.new_ w 26 #[.slice none 0 0]).alloc (.cells #[.int .i64 0] 3)).alloc (.cells #[.slice none 0 0] 22)).alloc (.cells #[.bool false] 4)).alloc (.cells #[.slice A n c] 22)
  have b2 := (((Bk.new_ (w.alloc (.cells #[.slice none 0 0] 26)) 3 #[.int .i64 0]).alloc (.cells #[.slice none 0 0] 22)).alloc (.cells #[.bool false] 4)).alloc (.cells #[.slice A n c] 22)
  have b3 := ((Bk.new_ ((w.alloc (.cells #[.slice none 0 0] 26)).alloc (.cells #[.int .i64 0] 3)) 22 #[.slice none 0 0]).alloc (.cells #[.bool false] 4)).alloc (.cells #[.slice A n c] 22)
  have b4 := (Bk.new_ (((w.alloc (.cells #[.slice none 0 0] 26)).alloc (.cells #[.int .i64 0] 3)).alloc (.cells #[.slice none 0 0] 22)) 4 #[.bool false]).alloc (.cells #[.slice A n c] 22)
  have b5 := Bk.new_ ((((w.alloc (.cells #[.slice none 0 0] 26)).alloc (.cells #[.int .i64 0] 3)).alloc (.cells #[.slice none 0 0] 22)).alloc (.cells #[.bool false] 4)) 22 #[.slice A n c]
  have hbL : Below w.heap.size w (((((w.alloc (.cells #[.slice none 0 0] 26)).alloc (.cells #[.int .i64 0] 3)).alloc (.cells #[.slice none 0 0] 22)).alloc (.cells #[.bool false] 4)).alloc (.cells #[.slice A n c] 22)) := (((((Below.refl _ _).alloc (Nat.le_refl _) _).alloc (by simp) _).alloc (by simp; omega) _).alloc (by simp; omega) _).alloc (by simp; omega) _
  have hzL : (((((w.alloc (.cells #[.slice none 0 0] 26)).alloc (.cells #[.int .i64 0] 3)).alloc (.cells #[.slice none 0 0] 22)).alloc (.cells #[.bool false] 4)).alloc (.cells #[.slice A n c] 22)).heap.size = w.heap.size + 5 := by simp
  simp only [World.size_alloc] at b2 b3 b4 b5
  obtain ⟨wL, hwL⟩ : ∃ W, W = (((((w.alloc (.cells #[.slice none 0 0] 26)).alloc (.cells #[.int .i64 0] 3)).alloc (.cells #[.slice none 0 0] 22)).alloc (.cells #[.bool false] 4)).alloc (.cells #[.slice A n c] 22)) := ⟨_, rfl⟩
  rw [← hwL] at b1 b2 b3 b4 b5 hbL hzL ⊢
  clear hwL
  have hrL : Rd wL w.heap.size A n (bcs L) := (hr.more hB).below hbL (Nat.le_refl _)
  have hRS : RS w wL false [] [] 0 (.slice none 0 0) (.slice none 0 0) [] 0 := ⟨b1, b2, b3, b4, Lec.Own.nil_ _ _ _, BEls.nil _ _, fun e => absurd e (by decide), fun _ => rfl, hbL, by omega, by simp⟩
  refine wpIn_rangeFunc_ownH (n := 5) rfl (by omega) (gf := 53) (lb := #[.pointer (some ⟨w.heap.size + 1 + 1 + 1 + 1, 0, none⟩)]) rfl trivial (enters_of Tryz.func53 (by kernel_rfl) rfl)
    (parts_stops 4 (by omega) (w.heap.size + 1 + 1 + 1 + 1) w.heap.size wL b5 hrL (by omega) hnc hn) (fun h k => Kp.trans h k) (kp_b (by omega) (by omega)) (Below.refl _ _) (fun _ => rfl)
    (fun pre W => RI w (pre.map Pc.pl) W)
    (fun c pre W => c = .exit 0 ∧ ∃ out good, RX w W out good ∧ ∀ rest, readL (pre.map Pc.pl ++ rest) false [] [] 0 = (out, good))
    (fun q X Y row h hg hr => by
      obtain ⟨op, rec, out, good, vo, vr, es, br, h1, h2, h3⟩ := h
      exact ⟨op, rec, out, good, vo, vr, es, br, h1.kept hg (fun r e => ⟨by have := (hr r e).1; omega, (hr r e).2⟩), h2, h3⟩)
    (fun c q X Y row h hg hr => by
      obtain ⟨hc, out, good, h1, h2⟩ := h
      exact ⟨hc, out, good, h1.kept hg (fun r e => ⟨by have := (hr r e).1; omega, (hr r e).2⟩), h2⟩)
    ⟨false, [], [], 0, _, _, _, 0, hRS, Nat.le_refl _, fun _ => rfl⟩
    (fun x a' W => ∃ pb, w.heap.size + 5 ≤ pb ∧ Bk W pb 83 #[.int .u8 (x.k.toNat : Int), .slice x.A x.p.length x.c, .int .i64 (x.e : Int)] ∧
      a' = { tmps := #[.slice A n c, undef, .slice none 0 0, .int .i64 0, .pointer (some ⟨w.heap.size, 0, none⟩), .pointer (some ⟨w.heap.size + 1, 0, none⟩), .pointer (some ⟨w.heap.size + 1 + 1, 0, none⟩), .pointer (some ⟨w.heap.size + 1 + 1 + 1, 0, none⟩), .pointer (some ⟨pb, 0, none⟩), undef, .slice A n c, .func (.func 53) #[] #[.pointer (some ⟨w.heap.size + 1 + 1 + 1 + 1, 0, none⟩)], .agg #[.int .u8 (x.k.toNat : Int), .slice x.A x.p.length x.c, .int .i64 (x.e : Int)], undef, undef, undef, undef, undef, undef, undef, undef, undef, undef, undef, undef, undef, undef, undef, undef, undef, undef, undef, undef, undef, undef, undef, undef, undef, undef, undef, undef, undef, undef, undef, undef, undef, undef, undef, undef, undef, undef], defers := [] })
    (fun x a' q X Y row h hg hr => by
      obtain ⟨pb, h1, h2, h3⟩ := h
      exact ⟨pb, h1, h2.kept hg (fun r e => (hr r e).2), h3⟩) ?assign ?body ?done ?stop
  case assign =>
    intro l pre x W K hI hK
    obtain ⟨op, rec, out, good, vo, vr, es, br, h1, h2, h3⟩ := hI
    have hz := h1.size
    have hfin := hK _ (W.alloc (.cells #[.int .u8 (x.k.toNat : Int), .slice x.A x.p.length x.c, .int .i64 (x.e : Int)] 83)) (keeps_of_below ((Below.refl _ _).alloc (Nat.le_refl _) _) _) (Kp.of_below ((Below.refl _ _).alloc (Nat.le_refl _) _) (by omega)) ⟨op, rec, out, good, vo, vr, es, br, h1.grow ((Below.refl _ _).alloc (Nat.le_refl _) _), h2, h3⟩ ⟨W.heap.size, by omega, Bk.new_ _ _ _, rfl⟩
    clear hK
    dsimp only [Pc.val]
    gi_wp2
    exact hfin
  case body =>
    rintro l' pre x a' W hl' _ ⟨op, rec, out, good, vo, vr, es, br, hS, hlen, hpl⟩ ⟨pb, hpb, hP, rfl⟩ hN
    have hkind := x.kind
    have q1 : W.cell? ⟨w.heap.size, 0, none⟩ = some vo := hS.b1.cell 0
    have q2 : W.cell? ⟨w.heap.size + 1, 0, none⟩ = some (.int .i64 (good : Int)) := hS.b2.cell 0
    have q3 : W.cell? ⟨w.heap.size + 1 + 1, 0, none⟩ = some vr := hS.b3.cell 0
    have q4 : W.cell? ⟨w.heap.size + 1 + 1 + 1, 0, none⟩ = some (.bool op) := hS.b4.cell 0
    have z1 : W.frozen? ⟨w.heap.size, 0, none⟩ = false := hS.b1.frz 0
    have z2 : W.frozen? ⟨w.heap.size + 1, 0, none⟩ = false := hS.b2.frz 0
    have z3 : W.frozen? ⟨w.heap.size + 1 + 1, 0, none⟩ = false := hS.b3.frz 0
    have z4 : W.frozen? ⟨w.heap.size + 1 + 1 + 1, 0, none⟩ = false := hS.b4.frz 0
    obtain ⟨kk, hkk⟩ : ∃ kk : Int, kk = (x.k.toNat : Int) := ⟨_, rfl⟩
    rw [← hkk] at hP
    rw [← hkk]
    have p0 : W.cell? ⟨pb, 0, none⟩ = some (.int .u8 kk) := hP.cell 0
    have p1 : W.cell? ⟨pb, 1, none⟩ = some (.slice x.A x.p.length x.c) := hP.cell 1
    have p2 : W.cell? ⟨pb, 2, none⟩ = some (.int .i64 (x.e : Int)) := hP.cell 2
    have hxk : kk = 1 ∧ x.k = 1 ∨ kk = 2 ∧ x.k = 2 ∨ kk = 3 ∧ x.k = 3 ∨ kk = 4 ∧ x.k = 4 := by
      have e1 : ∀ m : Nat, m < 256 → x.k.toNat = m → x.k = UInt8.ofNat m := fun m hm h => UInt8.toNat_inj.1 (by rw [h, UInt8.toNat_ofNat']; omega)
      have : x.k.toNat = 1 ∨ x.k.toNat = 2 ∨ x.k.toNat = 3 ∨ x.k.toNat = 4 := by omega
      rcases this with h | h | h | h
      · exact .inl ⟨by omega, e1 1 (by omega) h⟩
      · exact .inr (.inl ⟨by omega, e1 2 (by omega) h⟩)
      · exact .inr (.inr (.inl ⟨by omega, e1 3 (by omega) h⟩))
      · exact .inr (.inr (.inr ⟨by omega, e1 4 (by omega) h⟩))
    have HPL := Lib.hid hpl
    have HLen := Lib.hid hlen
    have HN := Lib.hid hN
    have hW0 : Below w.heap.size wL W := below_from hbL hS.below (by have := hS.size; omega)
    have hsz := hS.size
    clear hpl hkk hkind hlen hN
    have HS := Lib.hid hS
    cases op
    · rcases hxk with ⟨rfl, hk⟩ | ⟨rfl, hk⟩ | ⟨rfl, hk⟩ | ⟨rfl, hk⟩
      · skip
        have HK := Lib.hid hk
        clear hk
        have hF := hS.fresh
        have ha3 := hS.b3.alloc (.cells #[] 5)
        have hM2 : Mv w.heap.size (w.heap.size + 1 + 1 + 1 + 1) wL.heap.size W ((W.alloc (.cells #[] 5)).setCell ⟨w.heap.size + 1 + 1, 0, none⟩ (.slice (some ⟨W.heap.size, 0, none⟩) 0 0)) := (Mv.of_below ((Below.refl _ _).alloc (Nat.le_refl _) _) (by omega)).trans (Mv.set ha3 (by decide) (by decide) (by omega) (by omega) _)
        have y3 : (W.alloc (.cells #[] 5)).cell? ⟨w.heap.size + 1 + 1, 0, none⟩ = some vr := ha3.cell 0
        have yz3 : (W.alloc (.cells #[] 5)).frozen? ⟨w.heap.size + 1 + 1, 0, none⟩ = false := ha3.frz 0
        have hP2 := hM2.part pb _ hP
        have hsm : (x.p.length : Int) ≤ 1048576 := by have := x.small; omega
        have hsmd : decide ((1048576 : Int) < (x.p.length : Int)) = false := decide_eq_false (by omega)
        have f3 : ((W.alloc (.cells #[] 5)).setCell ⟨w.heap.size + 1 + 1, 0, none⟩ (.slice (some ⟨W.heap.size, 0, none⟩) 0 0)).cell? ⟨w.heap.size + 1 + 1, 0, none⟩ = some (.slice (some ⟨W.heap.size, 0, none⟩) 0 0) := hF.b3.cell 0
        have fp1 : ((W.alloc (.cells #[] 5)).setCell ⟨w.heap.size + 1 + 1, 0, none⟩ (.slice (some ⟨W.heap.size, 0, none⟩) 0 0)).cell? ⟨pb, 1, none⟩ = some (.slice x.A x.p.length x.c) := hP2.cell 1
        have hpay : Rd ((W.alloc (.cells #[] 5)).setCell ⟨w.heap.size + 1 + 1, 0, none⟩ (.slice (some ⟨W.heap.size, 0, none⟩) 0 0)) w.heap.size x.A x.p.length (bcs x.p) := (x.rd.below (B' := w.heap.size) (hW0.trans hM2.kp.below) (Nat.le_refl _))
        have HF := Lib.hid hF
        have HM2 := Lib.hid hM2
        have HP2 := Lib.hid hP2
        have HPay := Lib.hid hpay
        clear hF hM2 hP2 hpay
        gi_wp2_with (first | (gi_at_builtin; refine listIn_step rfl (by intro c h; cases h) (fun Kx hKx => wpList_app_rd rfl (.tmp 26) (.tmp 28) rfl wslb rfl HF.out.rcd rfl HPay.out bcs_one (by have := x.small; have := HS.out.long; simp only [bcs_length, List.length_nil]; omega) (by decide) HF.out.base.2 (fun v3 w3 ho3 hb3 hg3 => wpList_nil (hKx _ _ ?_))); obtain ⟨A3, c3, rfl, hc3⟩ := ho3.shapeN (n := x.p.length) (by simp [bcs_length]); obtain ⟨hM4, hk3⟩ := HF.out.more hg3 ho3; have hMv3 : Mv w.heap.size (w.heap.size + 1 + 1 + 1 + 1) wL.heap.size ((W.alloc (.cells #[] 5)).setCell ⟨w.heap.size + 1 + 1, 0, none⟩ (.slice (some ⟨W.heap.size, 0, none⟩) 0 0)) w3 := Mv.grown HF.out.rcd hg3 (by have := HF.out.size; omega) (by have := HF.out.base; omega) (by have := HF.out.base; omega) (by decide) (by decide); have hMv4 : Mv w.heap.size (w.heap.size + 1 + 1 + 1 + 1) wL.heap.size W (w3.setCell ⟨w.heap.size + 1 + 1, 0, none⟩ (.slice A3 x.p.length c3)) := (HM2.out.trans hMv3).trans (Mv.set hk3 (by decide) (by decide) (by omega) (by omega) _); have g3 := hk3.cell 0; have gz3 := hk3.frz 0; have g4 := hM4.b3.cell 0; have g5 := hM4.b4.cell 0; have gz5 := hM4.b4.frz 0; have hP4 := hMv4.part pb _ hP; have gp0 := hP4.cell 0; have hM5 := hM4.open_ false; have hMv5 : Mv w.heap.size (w.heap.size + 1 + 1 + 1 + 1) wL.heap.size W ((w3.setCell ⟨w.heap.size + 1 + 1, 0, none⟩ (.slice A3 x.p.length c3)).setCell ⟨w.heap.size + 1 + 1 + 1, 0, none⟩ (.bool false)) := hMv4.trans (Mv.set hM4.b4 (by decide) (by decide) (by omega) (by omega) _); have k1 := hM5.b1.cell 0; have k3 := hM5.b3.cell 0; have k4 := hM5.b4.cell 0; have hP5 := hMv5.part pb _ hP; have hRL : Rd (((w3.setCell ⟨w.heap.size + 1 + 1, 0, none⟩ (.slice A3 x.p.length c3)).setCell ⟨w.heap.size + 1 + 1 + 1, 0, none⟩ (.bool false)).alloc (.cells #[.slice A3 x.p.length c3] 22)) (w3.heap.size + 1) (some ⟨w3.heap.size, 0, none⟩) 1 [.slice A3 x.p.length c3] := (by have h := Rd.lit ((w3.setCell ⟨w.heap.size + 1 + 1, 0, none⟩ (.slice A3 x.p.length c3)).setCell ⟨w.heap.size + 1 + 1 + 1, 0, none⟩ (.bool false)) [.slice A3 x.p.length c3] 22; simp only [World.size_setCell, World.size_alloc, List.length_singleton] at h; exact h); have HRL := Lib.hid hRL; clear hRL; have HM4 := Lib.hid hM4; have HM5 := Lib.hid hM5; have HV4 := Lib.hid hMv4; have HV5 := Lib.hid hMv5; have HP5 := Lib.hid hP5; have HO3 := Lib.hid ho3; clear hM4 hM5 hMv3 hMv4 hMv5 hP4 hP5 hk3 ho3 hb3 hg3) | (gi_at_builtin; (refine listIn_step rfl (by intro c h; cases h) (fun Ky hKy => wpList_app_rd rfl (.tmp 43) (.tmp 45) rfl slr rfl (HM5.out.own.alloc _) rfl HRL.out (by simp [Value.oneCell']) (by have := HM5.out.els.1; have hll := HLen.out; have := HN.out; rw [List.length_map] at hll; omega) (by decide) (Nat.le_trans HM5.out.size (by rw [World.size_alloc]; exact Nat.le_succ _)) (fun v7 w7 ho7 hb7 hg7 => wpList_nil (hKy _ _ ?_))); obtain ⟨A7, c7, rfl, hc7⟩ := ho7.shapeN (n := es.length + 1) (by simp); obtain ⟨hR9, hk1, hk2⟩ := HM5.out.close (e := x.e) hg7 ho7; have hMv7 : Mv w.heap.size (w.heap.size + 1 + 1 + 1 + 1) wL.heap.size W w7 := (HV5.out.trans (Mv.of_below ((Below.refl _ _).alloc (Nat.le_refl _) _) (by have := HM5.out.size; omega))).trans (Mv.grown (HM5.out.own.alloc _) hg7 (Nat.le_trans (Nat.le_trans (Nat.le_add_right _ 5) HM5.out.size) (by rw [World.size_alloc]; exact Nat.le_succ _)) (by omega) (by omega) (by decide) (by decide)); have hMv8 : Mv w.heap.size (w.heap.size + 1 + 1 + 1 + 1) wL.heap.size W (w7.setCell ⟨w.heap.size, 0, none⟩ (.slice A7 (es.length + 1) c7)) := hMv7.trans (Mv.set hk1 (by decide) (by decide) (by omega) (by omega) _); have hMv9 : Mv w.heap.size (w.heap.size + 1 + 1 + 1 + 1) wL.heap.size W ((w7.setCell ⟨w.heap.size, 0, none⟩ (.slice A7 (es.length + 1) c7)).setCell ⟨w.heap.size + 1, 0, none⟩ (.int .i64 (x.e : Int))) := hMv8.trans (Mv.set hk2 (by decide) (by decide) (by omega) (by omega) _); have r1 := hk1.cell 0; have rz1 := hk1.frz 0; have r2 := hk2.cell 0; have rz2 := hk2.frz 0; have r8 := (hMv8.part pb _ hP).cell 2; have HR9 := Lib.hid hR9; have HV9 := Lib.hid hMv9; clear hR9 hMv7 hMv8 hMv9 hk1 hk2 ho7 hb7 hg7)))
        refine ⟨HV9.out.kf, HV9.out.kp, false, [], out ++ [[] ++ x.p], x.e, .slice A7 (es.length + 1) c7, .slice A3 x.p.length c3, es ++ [.slice A3 x.p.length c3], 0, HR9.out, ?_, fun rest => ?_⟩
        · have := HLen.out; simp only [List.length_map, List.length_append, List.length_singleton] at *; omega
        · rw [List.map_append, List.append_assoc, HPL.out]
          exact (by have := HS.out.nor rfl; rw [this]; exact readL_close (by rw [HK.out]; decide) (by have := x.small; simp; omega) (by rw [HK.out]; decide))
      · skip
        have HK := Lib.hid hk
        clear hk
        have hF := hS.fresh
        have ha3 := hS.b3.alloc (.cells #[] 5)
        have hM2 : Mv w.heap.size (w.heap.size + 1 + 1 + 1 + 1) wL.heap.size W ((W.alloc (.cells #[] 5)).setCell ⟨w.heap.size + 1 + 1, 0, none⟩ (.slice (some ⟨W.heap.size, 0, none⟩) 0 0)) := (Mv.of_below ((Below.refl _ _).alloc (Nat.le_refl _) _) (by omega)).trans (Mv.set ha3 (by decide) (by decide) (by omega) (by omega) _)
        have y3 : (W.alloc (.cells #[] 5)).cell? ⟨w.heap.size + 1 + 1, 0, none⟩ = some vr := ha3.cell 0
        have yz3 : (W.alloc (.cells #[] 5)).frozen? ⟨w.heap.size + 1 + 1, 0, none⟩ = false := ha3.frz 0
        have hP2 := hM2.part pb _ hP
        have hsm : (x.p.length : Int) ≤ 1048576 := by have := x.small; omega
        have hsmd : decide ((1048576 : Int) < (x.p.length : Int)) = false := decide_eq_false (by omega)
        have f3 : ((W.alloc (.cells #[] 5)).setCell ⟨w.heap.size + 1 + 1, 0, none⟩ (.slice (some ⟨W.heap.size, 0, none⟩) 0 0)).cell? ⟨w.heap.size + 1 + 1, 0, none⟩ = some (.slice (some ⟨W.heap.size, 0, none⟩) 0 0) := hF.b3.cell 0
        have fp1 : ((W.alloc (.cells #[] 5)).setCell ⟨w.heap.size + 1 + 1, 0, none⟩ (.slice (some ⟨W.heap.size, 0, none⟩) 0 0)).cell? ⟨pb, 1, none⟩ = some (.slice x.A x.p.length x.c) := hP2.cell 1
        have hpay : Rd ((W.alloc (.cells #[] 5)).setCell ⟨w.heap.size + 1 + 1, 0, none⟩ (.slice (some ⟨W.heap.size, 0, none⟩) 0 0)) w.heap.size x.A x.p.length (bcs x.p) := (x.rd.below (B' := w.heap.size) (hW0.trans hM2.kp.below) (Nat.le_refl _))
        have HF := Lib.hid hF
        have HM2 := Lib.hid hM2
        have HP2 := Lib.hid hP2
        have HPay := Lib.hid hpay
        clear hF hM2 hP2 hpay
        gi_wp2_with (gi_at_builtin; refine listIn_step rfl (by intro c h; cases h) (fun Kx hKx => wpList_app_rd rfl (.tmp 26) (.tmp 28) rfl wslb rfl HF.out.rcd rfl HPay.out bcs_one (by have := x.small; have := HS.out.long; simp only [bcs_length, List.length_nil]; omega) (by decide) HF.out.base.2 (fun v3 w3 ho3 hb3 hg3 => wpList_nil (hKx _ _ ?_))); obtain ⟨A3, c3, rfl, hc3⟩ := ho3.shapeN (n := x.p.length) (by simp [bcs_length]); obtain ⟨hM4, hk3⟩ := HF.out.more hg3 ho3; have hMv3 : Mv w.heap.size (w.heap.size + 1 + 1 + 1 + 1) wL.heap.size ((W.alloc (.cells #[] 5)).setCell ⟨w.heap.size + 1 + 1, 0, none⟩ (.slice (some ⟨W.heap.size, 0, none⟩) 0 0)) w3 := Mv.grown HF.out.rcd hg3 (by have := HF.out.size; omega) (by have := HF.out.base; omega) (by have := HF.out.base; omega) (by decide) (by decide); have hMv4 : Mv w.heap.size (w.heap.size + 1 + 1 + 1 + 1) wL.heap.size W (w3.setCell ⟨w.heap.size + 1 + 1, 0, none⟩ (.slice A3 x.p.length c3)) := (HM2.out.trans hMv3).trans (Mv.set hk3 (by decide) (by decide) (by omega) (by omega) _); have g3 := hk3.cell 0; have gz3 := hk3.frz 0; have g4 := hM4.b3.cell 0; have g5 := hM4.b4.cell 0; have gz5 := hM4.b4.frz 0; have hP4 := hMv4.part pb _ hP; have gp0 := hP4.cell 0; have hM5 := hM4.open_ true; have hMv5 : Mv w.heap.size (w.heap.size + 1 + 1 + 1 + 1) wL.heap.size W ((w3.setCell ⟨w.heap.size + 1 + 1, 0, none⟩ (.slice A3 x.p.length c3)).setCell ⟨w.heap.size + 1 + 1 + 1, 0, none⟩ (.bool true)) := hMv4.trans (Mv.set hM4.b4 (by decide) (by decide) (by omega) (by omega) _); have k1 := hM5.b1.cell 0; have k3 := hM5.b3.cell 0; have k4 := hM5.b4.cell 0; have hP5 := hMv5.part pb _ hP; have hRL : Rd (((w3.setCell ⟨w.heap.size + 1 + 1, 0, none⟩ (.slice A3 x.p.length c3)).setCell ⟨w.heap.size + 1 + 1 + 1, 0, none⟩ (.bool true)).alloc (.cells #[.slice A3 x.p.length c3] 22)) (w3.heap.size + 1) (some ⟨w3.heap.size, 0, none⟩) 1 [.slice A3 x.p.length c3] := (by have h := Rd.lit ((w3.setCell ⟨w.heap.size + 1 + 1, 0, none⟩ (.slice A3 x.p.length c3)).setCell ⟨w.heap.size + 1 + 1 + 1, 0, none⟩ (.bool true)) [.slice A3 x.p.length c3] 22; simp only [World.size_setCell, World.size_alloc, List.length_singleton] at h; exact h); have HRL := Lib.hid hRL; clear hRL; have HM4 := Lib.hid hM4; have HM5 := Lib.hid hM5; have HV4 := Lib.hid hMv4; have HV5 := Lib.hid hMv5; have HP5 := Lib.hid hP5; have HO3 := Lib.hid ho3; clear hM4 hM5 hMv3 hMv4 hMv5 hP4 hP5 hk3 ho3 hb3 hg3)
        refine ⟨HV5.out.kf, HV5.out.kp, true, [] ++ x.p, out, good, vo, .slice A3 x.p.length c3, es, W.heap.size, ⟨HM5.out.b1, HM5.out.b2, HM5.out.b3, HM5.out.b4, HM5.out.own, HM5.out.els, fun _ => ⟨HM5.out.rcd, HM5.out.base⟩, (fun e => by cases e), HM5.out.below, HM5.out.size, (by have := x.small; simp; omega)⟩, ?_, fun rest => ?_⟩
        · have := HLen.out; simp only [List.length_map, List.length_append, List.length_singleton] at *; omega
        · rw [List.map_append, List.append_assoc, HPL.out]
          exact (by have := HS.out.nor rfl; rw [this]; exact readL_open (by rw [HK.out]; decide) (by have := x.small; simp; omega) (by rw [HK.out]; decide))
      · have HK := Lib.hid hk
        clear hk
        gi_wp2
        refine ⟨KeepsFrom.refl _ _, rfl, out, good, hS.rx, fun rest => ?_⟩
        rw [List.map_append, List.append_assoc, HPL.out]
        exact readL_break (.inl (by rw [HK.out]; decide))
      · have HK := Lib.hid hk
        clear hk
        gi_wp2
        refine ⟨KeepsFrom.refl _ _, rfl, out, good, hS.rx, fun rest => ?_⟩
        rw [List.map_append, List.append_assoc, HPL.out]
        exact readL_break (.inl (by rw [HK.out]; decide))
    · rcases hxk with ⟨rfl, hk⟩ | ⟨rfl, hk⟩ | ⟨rfl, hk⟩ | ⟨rfl, hk⟩
      · have HK := Lib.hid hk
        clear hk
        gi_wp2
        refine ⟨KeepsFrom.refl _ _, rfl, out, good, hS.rx, fun rest => ?_⟩
        rw [List.map_append, List.append_assoc, HPL.out]
        exact readL_break (.inl (by rw [HK.out]; decide))
      · have HK := Lib.hid hk
        clear hk
        gi_wp2
        refine ⟨KeepsFrom.refl _ _, rfl, out, good, hS.rx, fun rest => ?_⟩
        rw [List.map_append, List.append_assoc, HPL.out]
        exact readL_break (.inl (by rw [HK.out]; decide))
      · skip
        by_cases hlong : 1048576 < rec.length + x.p.length
        · skip
          have HK := Lib.hid hk
          clear hk
          have hF := hS.mid
          have hlr := hS.long
          have hM2 : Mv w.heap.size (w.heap.size + 1 + 1 + 1 + 1) wL.heap.size W W := ⟨Kp.refl _ _ _, KeepsFrom.refl _ _, fun _ _ h => h⟩
          obtain ⟨m, hm⟩ : ∃ m, m = rec.length + x.p.length := ⟨_, rfl⟩
          have HMm := Lib.hid hm
          have hlg : (1048576 : Int) < (m : Int) := by omega
          have hlgd : decide ((1048576 : Int) < (m : Int)) = true := by simpa using hlg
          clear hm hlg
          have hP2 := hM2.part pb _ hP
          have hsm : (x.p.length : Int) ≤ 1048576 := by have := x.small; omega
          have hsmd : decide ((1048576 : Int) < (x.p.length : Int)) = false := decide_eq_false (by omega)
          have f3 : W.cell? ⟨w.heap.size + 1 + 1, 0, none⟩ = some vr := hF.b3.cell 0
          have fp1 : W.cell? ⟨pb, 1, none⟩ = some (.slice x.A x.p.length x.c) := hP2.cell 1
          have hpay : Rd W w.heap.size x.A x.p.length (bcs x.p) := (x.rd.below (B' := w.heap.size) (hW0.trans hM2.kp.below) (Nat.le_refl _))
          have HF := Lib.hid hF
          have HM2 := Lib.hid hM2
          have HP2 := Lib.hid hP2
          have HPay := Lib.hid hpay
          clear hF hM2 hP2 hpay
          gi_wp2_with (gi_at_builtin; refine listIn_step rfl (by intro c h; cases h) (fun Kx hKx => wpList_app_rd rfl (.tmp 26) (.tmp 28) rfl wslb rfl HF.out.rcd rfl HPay.out bcs_one (by have := x.small; have := HS.out.long; simp only [bcs_length, List.length_nil]; omega) (by decide) HF.out.base.2 (fun v3 w3 ho3 hb3 hg3 => wpList_nil (hKx _ _ ?_))); obtain ⟨A3, c3, rfl, hc3⟩ := ho3.shapeN (n := m) (by rw [List.length_append, bcs_length, bcs_length, HMm.out]); obtain ⟨hM4, hk3⟩ := HF.out.more hg3 ho3; have hMv3 : Mv w.heap.size (w.heap.size + 1 + 1 + 1 + 1) wL.heap.size W w3 := Mv.grown HF.out.rcd hg3 (by have := HF.out.size; omega) (by have := HF.out.base; omega) (by have := HF.out.base; omega) (by decide) (by decide); have hMv4 : Mv w.heap.size (w.heap.size + 1 + 1 + 1 + 1) wL.heap.size W (w3.setCell ⟨w.heap.size + 1 + 1, 0, none⟩ (.slice A3 m c3)) := (HM2.out.trans hMv3).trans (Mv.set hk3 (by decide) (by decide) (by omega) (by omega) _); have g3 := hk3.cell 0; have gz3 := hk3.frz 0; have g4 := hM4.b3.cell 0; have g5 := hM4.b4.cell 0; have gz5 := hM4.b4.frz 0; have hP4 := hMv4.part pb _ hP; have gp0 := hP4.cell 0; have hM5 := hM4.open_ true; have hMv5 : Mv w.heap.size (w.heap.size + 1 + 1 + 1 + 1) wL.heap.size W ((w3.setCell ⟨w.heap.size + 1 + 1, 0, none⟩ (.slice A3 m c3)).setCell ⟨w.heap.size + 1 + 1 + 1, 0, none⟩ (.bool true)) := hMv4.trans (Mv.set hM4.b4 (by decide) (by decide) (by omega) (by omega) _); have k1 := hM5.b1.cell 0; have k3 := hM5.b3.cell 0; have k4 := hM5.b4.cell 0; have hP5 := hMv5.part pb _ hP; have hRL : Rd (((w3.setCell ⟨w.heap.size + 1 + 1, 0, none⟩ (.slice A3 m c3)).setCell ⟨w.heap.size + 1 + 1 + 1, 0, none⟩ (.bool true)).alloc (.cells #[.slice A3 m c3] 22)) (w3.heap.size + 1) (some ⟨w3.heap.size, 0, none⟩) 1 [.slice A3 m c3] := (by have h := Rd.lit ((w3.setCell ⟨w.heap.size + 1 + 1, 0, none⟩ (.slice A3 m c3)).setCell ⟨w.heap.size + 1 + 1 + 1, 0, none⟩ (.bool true)) [.slice A3 m c3] 22; simp only [World.size_setCell, World.size_alloc, List.length_singleton] at h; exact h); have HRL := Lib.hid hRL; clear hRL; have HM4 := Lib.hid hM4; have HM5 := Lib.hid hM5; have HV4 := Lib.hid hMv4; have HV5 := Lib.hid hMv5; have HP5 := Lib.hid hP5; have HO3 := Lib.hid ho3; clear hM4 hM5 hMv3 hMv4 hMv5 hP4 hP5 hk3 ho3 hb3 hg3)
          refine ⟨HV4.out.kf, rfl, out, good, ⟨vo, es, HM4.out.b1, HM4.out.b2, HM4.out.own, HM4.out.els.keep (Nat.le_refl _) (fun _ _ _ => rfl) (fun _ hk _ => ⟨hk.1, hk.2.1⟩), HM4.out.below, HM4.out.size⟩, fun rest => ?_⟩
          rw [List.map_append, List.append_assoc, HPL.out]
          exact readL_break (.inr (by rw [← HMm.out]; have := of_decide_eq_true hlgd; omega))
        · skip
          have HK := Lib.hid hk
          clear hk
          have hF := hS.mid
          have hlr := hS.long
          have hM2 : Mv w.heap.size (w.heap.size + 1 + 1 + 1 + 1) wL.heap.size W W := ⟨Kp.refl _ _ _, KeepsFrom.refl _ _, fun _ _ h => h⟩
          obtain ⟨m, hm⟩ : ∃ m, m = rec.length + x.p.length := ⟨_, rfl⟩
          have HMm := Lib.hid hm
          have hlg : ¬ (1048576 : Int) < (m : Int) := by omega
          have hlgd : decide ((1048576 : Int) < (m : Int)) = false := by simpa using hlg
          clear hm hlg
          have hP2 := hM2.part pb _ hP
          have hsm : (x.p.length : Int) ≤ 1048576 := by have := x.small; omega
          have hsmd : decide ((1048576 : Int) < (x.p.length : Int)) = false := decide_eq_false (by omega)
          have f3 : W.cell? ⟨w.heap.size + 1 + 1, 0, none⟩ = some vr := hF.b3.cell 0
          have fp1 : W.cell? ⟨pb, 1, none⟩ = some (.slice x.A x.p.length x.c) := hP2.cell 1
          have hpay : Rd W w.heap.size x.A x.p.length (bcs x.p) := (x.rd.below (B' := w.heap.size) (hW0.trans hM2.kp.below) (Nat.le_refl _))
          have HF := Lib.hid hF
          have HM2 := Lib.hid hM2
          have HP2 := Lib.hid hP2
          have HPay := Lib.hid hpay
          clear hF hM2 hP2 hpay
          gi_wp2_with (gi_at_builtin; refine listIn_step rfl (by intro c h; cases h) (fun Kx hKx => wpList_app_rd rfl (.tmp 26) (.tmp 28) rfl wslb rfl HF.out.rcd rfl HPay.out bcs_one (by have := x.small; have := HS.out.long; simp only [bcs_length, List.length_nil]; omega) (by decide) HF.out.base.2 (fun v3 w3 ho3 hb3 hg3 => wpList_nil (hKx _ _ ?_))); obtain ⟨A3, c3, rfl, hc3⟩ := ho3.shapeN (n := m) (by rw [List.length_append, bcs_length, bcs_length, HMm.out]); obtain ⟨hM4, hk3⟩ := HF.out.more hg3 ho3; have hMv3 : Mv w.heap.size (w.heap.size + 1 + 1 + 1 + 1) wL.heap.size W w3 := Mv.grown HF.out.rcd hg3 (by have := HF.out.size; omega) (by have := HF.out.base; omega) (by have := HF.out.base; omega) (by decide) (by decide); have hMv4 : Mv w.heap.size (w.heap.size + 1 + 1 + 1 + 1) wL.heap.size W (w3.setCell ⟨w.heap.size + 1 + 1, 0, none⟩ (.slice A3 m c3)) := (HM2.out.trans hMv3).trans (Mv.set hk3 (by decide) (by decide) (by omega) (by omega) _); have g3 := hk3.cell 0; have gz3 := hk3.frz 0; have g4 := hM4.b3.cell 0; have g5 := hM4.b4.cell 0; have gz5 := hM4.b4.frz 0; have hP4 := hMv4.part pb _ hP; have gp0 := hP4.cell 0; have hM5 := hM4.open_ true; have hMv5 : Mv w.heap.size (w.heap.size + 1 + 1 + 1 + 1) wL.heap.size W ((w3.setCell ⟨w.heap.size + 1 + 1, 0, none⟩ (.slice A3 m c3)).setCell ⟨w.heap.size + 1 + 1 + 1, 0, none⟩ (.bool true)) := hMv4.trans (Mv.set hM4.b4 (by decide) (by decide) (by omega) (by omega) _); have k1 := hM5.b1.cell 0; have k3 := hM5.b3.cell 0; have k4 := hM5.b4.cell 0; have hP5 := hMv5.part pb _ hP; have hRL : Rd (((w3.setCell ⟨w.heap.size + 1 + 1, 0, none⟩ (.slice A3 m c3)).setCell ⟨w.heap.size + 1 + 1 + 1, 0, none⟩ (.bool true)).alloc (.cells #[.slice A3 m c3] 22)) (w3.heap.size + 1) (some ⟨w3.heap.size, 0, none⟩) 1 [.slice A3 m c3] := (by have h := Rd.lit ((w3.setCell ⟨w.heap.size + 1 + 1, 0, none⟩ (.slice A3 m c3)).setCell ⟨w.heap.size + 1 + 1 + 1, 0, none⟩ (.bool true)) [.slice A3 m c3] 22; simp only [World.size_setCell, World.size_alloc, List.length_singleton] at h; exact h); have HRL := Lib.hid hRL; clear hRL; have HM4 := Lib.hid hM4; have HM5 := Lib.hid hM5; have HV4 := Lib.hid hMv4; have HV5 := Lib.hid hMv5; have HP5 := Lib.hid hP5; have HO3 := Lib.hid ho3; clear hM4 hM5 hMv3 hMv4 hMv5 hP4 hP5 hk3 ho3 hb3 hg3)
          refine ⟨HV5.out.kf, HV5.out.kp, true, rec ++ x.p, out, good, vo, .slice A3 m c3, es, br, ⟨HM5.out.b1, HM5.out.b2, HM5.out.b3, HM5.out.b4, HM5.out.own, HM5.out.els, fun _ => ⟨HM5.out.rcd, HM5.out.base⟩, (fun e => by cases e), HM5.out.below, HM5.out.size, (by rw [List.length_append, ← HMm.out]; have := of_decide_eq_false hlgd; omega)⟩, ?_, fun rest => ?_⟩
          · have := HLen.out; simp only [List.length_map, List.length_append, List.length_singleton] at *; omega
          · rw [List.map_append, List.append_assoc, HPL.out]
            exact readL_open (by rw [HK.out]; decide) (by rw [← HMm.out]; have := of_decide_eq_false hlgd; omega) (by rw [HK.out]; decide)
      · skip
        by_cases hlong : 1048576 < rec.length + x.p.length
        · skip
          have HK := Lib.hid hk
          clear hk
          have hF := hS.mid
          have hlr := hS.long
          have hM2 : Mv w.heap.size (w.heap.size + 1 + 1 + 1 + 1) wL.heap.size W W := ⟨Kp.refl _ _ _, KeepsFrom.refl _ _, fun _ _ h => h⟩
          obtain ⟨m, hm⟩ : ∃ m, m = rec.length + x.p.length := ⟨_, rfl⟩
          have HMm := Lib.hid hm
          have hlg : (1048576 : Int) < (m : Int) := by omega
          have hlgd : decide ((1048576 : Int) < (m : Int)) = true := by simpa using hlg
          clear hm hlg
          have hP2 := hM2.part pb _ hP
          have hsm : (x.p.length : Int) ≤ 1048576 := by have := x.small; omega
          have hsmd : decide ((1048576 : Int) < (x.p.length : Int)) = false := decide_eq_false (by omega)
          have f3 : W.cell? ⟨w.heap.size + 1 + 1, 0, none⟩ = some vr := hF.b3.cell 0
          have fp1 : W.cell? ⟨pb, 1, none⟩ = some (.slice x.A x.p.length x.c) := hP2.cell 1
          have hpay : Rd W w.heap.size x.A x.p.length (bcs x.p) := (x.rd.below (B' := w.heap.size) (hW0.trans hM2.kp.below) (Nat.le_refl _))
          have HF := Lib.hid hF
          have HM2 := Lib.hid hM2
          have HP2 := Lib.hid hP2
          have HPay := Lib.hid hpay
          clear hF hM2 hP2 hpay
          gi_wp2_with (gi_at_builtin; refine listIn_step rfl (by intro c h; cases h) (fun Kx hKx => wpList_app_rd rfl (.tmp 26) (.tmp 28) rfl wslb rfl HF.out.rcd rfl HPay.out bcs_one (by have := x.small; have := HS.out.long; simp only [bcs_length, List.length_nil]; omega) (by decide) HF.out.base.2 (fun v3 w3 ho3 hb3 hg3 => wpList_nil (hKx _ _ ?_))); obtain ⟨A3, c3, rfl, hc3⟩ := ho3.shapeN (n := m) (by rw [List.length_append, bcs_length, bcs_length, HMm.out]); obtain ⟨hM4, hk3⟩ := HF.out.more hg3 ho3; have hMv3 : Mv w.heap.size (w.heap.size + 1 + 1 + 1 + 1) wL.heap.size W w3 := Mv.grown HF.out.rcd hg3 (by have := HF.out.size; omega) (by have := HF.out.base; omega) (by have := HF.out.base; omega) (by decide) (by decide); have hMv4 : Mv w.heap.size (w.heap.size + 1 + 1 + 1 + 1) wL.heap.size W (w3.setCell ⟨w.heap.size + 1 + 1, 0, none⟩ (.slice A3 m c3)) := (HM2.out.trans hMv3).trans (Mv.set hk3 (by decide) (by decide) (by omega) (by omega) _); have g3 := hk3.cell 0; have gz3 := hk3.frz 0; have g4 := hM4.b3.cell 0; have g5 := hM4.b4.cell 0; have gz5 := hM4.b4.frz 0; have hP4 := hMv4.part pb _ hP; have gp0 := hP4.cell 0; have hM5 := hM4.open_ false; have hMv5 : Mv w.heap.size (w.heap.size + 1 + 1 + 1 + 1) wL.heap.size W ((w3.setCell ⟨w.heap.size + 1 + 1, 0, none⟩ (.slice A3 m c3)).setCell ⟨w.heap.size + 1 + 1 + 1, 0, none⟩ (.bool false)) := hMv4.trans (Mv.set hM4.b4 (by decide) (by decide) (by omega) (by omega) _); have k1 := hM5.b1.cell 0; have k3 := hM5.b3.cell 0; have k4 := hM5.b4.cell 0; have hP5 := hMv5.part pb _ hP; have hRL : Rd (((w3.setCell ⟨w.heap.size + 1 + 1, 0, none⟩ (.slice A3 m c3)).setCell ⟨w.heap.size + 1 + 1 + 1, 0, none⟩ (.bool false)).alloc (.cells #[.slice A3 m c3] 22)) (w3.heap.size + 1) (some ⟨w3.heap.size, 0, none⟩) 1 [.slice A3 m c3] := (by have h := Rd.lit ((w3.setCell ⟨w.heap.size + 1 + 1, 0, none⟩ (.slice A3 m c3)).setCell ⟨w.heap.size + 1 + 1 + 1, 0, none⟩ (.bool false)) [.slice A3 m c3] 22; simp only [World.size_setCell, World.size_alloc, List.length_singleton] at h; exact h); have HRL := Lib.hid hRL; clear hRL; have HM4 := Lib.hid hM4; have HM5 := Lib.hid hM5; have HV4 := Lib.hid hMv4; have HV5 := Lib.hid hMv5; have HP5 := Lib.hid hP5; have HO3 := Lib.hid ho3; clear hM4 hM5 hMv3 hMv4 hMv5 hP4 hP5 hk3 ho3 hb3 hg3)
          refine ⟨HV4.out.kf, rfl, out, good, ⟨vo, es, HM4.out.b1, HM4.out.b2, HM4.out.own, HM4.out.els.keep (Nat.le_refl _) (fun _ _ _ => rfl) (fun _ hk _ => ⟨hk.1, hk.2.1⟩), HM4.out.below, HM4.out.size⟩, fun rest => ?_⟩
          rw [List.map_append, List.append_assoc, HPL.out]
          exact readL_break (.inr (by rw [← HMm.out]; have := of_decide_eq_true hlgd; omega))
        · skip
          have HK := Lib.hid hk
          clear hk
          have hF := hS.mid
          have hlr := hS.long
          have hM2 : Mv w.heap.size (w.heap.size + 1 + 1 + 1 + 1) wL.heap.size W W := ⟨Kp.refl _ _ _, KeepsFrom.refl _ _, fun _ _ h => h⟩
          obtain ⟨m, hm⟩ : ∃ m, m = rec.length + x.p.length := ⟨_, rfl⟩
          have HMm := Lib.hid hm
          have hlg : ¬ (1048576 : Int) < (m : Int) := by omega
          have hlgd : decide ((1048576 : Int) < (m : Int)) = false := by simpa using hlg
          clear hm hlg
          have hP2 := hM2.part pb _ hP
          have hsm : (x.p.length : Int) ≤ 1048576 := by have := x.small; omega
          have hsmd : decide ((1048576 : Int) < (x.p.length : Int)) = false := decide_eq_false (by omega)
          have f3 : W.cell? ⟨w.heap.size + 1 + 1, 0, none⟩ = some vr := hF.b3.cell 0
          have fp1 : W.cell? ⟨pb, 1, none⟩ = some (.slice x.A x.p.length x.c) := hP2.cell 1
          have hpay : Rd W w.heap.size x.A x.p.length (bcs x.p) := (x.rd.below (B' := w.heap.size) (hW0.trans hM2.kp.below) (Nat.le_refl _))
          have HF := Lib.hid hF
          have HM2 := Lib.hid hM2
          have HP2 := Lib.hid hP2
          have HPay := Lib.hid hpay
          clear hF hM2 hP2 hpay
          gi_wp2_with (first | (gi_at_builtin; refine listIn_step rfl (by intro c h; cases h) (fun Kx hKx => wpList_app_rd rfl (.tmp 26) (.tmp 28) rfl wslb rfl HF.out.rcd rfl HPay.out bcs_one (by have := x.small; have := HS.out.long; simp only [bcs_length, List.length_nil]; omega) (by decide) HF.out.base.2 (fun v3 w3 ho3 hb3 hg3 => wpList_nil (hKx _ _ ?_))); obtain ⟨A3, c3, rfl, hc3⟩ := ho3.shapeN (n := m) (by rw [List.length_append, bcs_length, bcs_length, HMm.out]); obtain ⟨hM4, hk3⟩ := HF.out.more hg3 ho3; have hMv3 : Mv w.heap.size (w.heap.size + 1 + 1 + 1 + 1) wL.heap.size W w3 := Mv.grown HF.out.rcd hg3 (by have := HF.out.size; omega) (by have := HF.out.base; omega) (by have := HF.out.base; omega) (by decide) (by decide); have hMv4 : Mv w.heap.size (w.heap.size + 1 + 1 + 1 + 1) wL.heap.size W (w3.setCell ⟨w.heap.size + 1 + 1, 0, none⟩ (.slice A3 m c3)) := (HM2.out.trans hMv3).trans (Mv.set hk3 (by decide) (by decide) (by omega) (by omega) _); have g3 := hk3.cell 0; have gz3 := hk3.frz 0; have g4 := hM4.b3.cell 0; have g5 := hM4.b4.cell 0; have gz5 := hM4.b4.frz 0; have hP4 := hMv4.part pb _ hP; have gp0 := hP4.cell 0; have hM5 := hM4.open_ false; have hMv5 : Mv w.heap.size (w.heap.size + 1 + 1 + 1 + 1) wL.heap.size W ((w3.setCell ⟨w.heap.size + 1 + 1, 0, none⟩ (.slice A3 m c3)).setCell ⟨w.heap.size + 1 + 1 + 1, 0, none⟩ (.bool false)) := hMv4.trans (Mv.set hM4.b4 (by decide) (by decide) (by omega) (by omega) _); have k1 := hM5.b1.cell 0; have k3 := hM5.b3.cell 0; have k4 := hM5.b4.cell 0; have hP5 := hMv5.part pb _ hP; have hRL : Rd (((w3.setCell ⟨w.heap.size + 1 + 1, 0, none⟩ (.slice A3 m c3)).setCell ⟨w.heap.size + 1 + 1 + 1, 0, none⟩ (.bool false)).alloc (.cells #[.slice A3 m c3] 22)) (w3.heap.size + 1) (some ⟨w3.heap.size, 0, none⟩) 1 [.slice A3 m c3] := (by have h := Rd.lit ((w3.setCell ⟨w.heap.size + 1 + 1, 0, none⟩ (.slice A3 m c3)).setCell ⟨w.heap.size + 1 + 1 + 1, 0, none⟩ (.bool false)) [.slice A3 m c3] 22; simp only [World.size_setCell, World.size_alloc, List.length_singleton] at h; exact h); have HRL := Lib.hid hRL; clear hRL; have HM4 := Lib.hid hM4; have HM5 := Lib.hid hM5; have HV4 := Lib.hid hMv4; have HV5 := Lib.hid hMv5; have HP5 := Lib.hid hP5; have HO3 := Lib.hid ho3; clear hM4 hM5 hMv3 hMv4 hMv5 hP4 hP5 hk3 ho3 hb3 hg3) | (gi_at_builtin; (refine listIn_step rfl (by intro c h; cases h) (fun Ky hKy => wpList_app_rd rfl (.tmp 43) (.tmp 45) rfl slr rfl (HM5.out.own.alloc _) rfl HRL.out (by simp [Value.oneCell']) (by have := HM5.out.els.1; have hll := HLen.out; have := HN.out; rw [List.length_map] at hll; omega) (by decide) (Nat.le_trans HM5.out.size (by rw [World.size_alloc]; exact Nat.le_succ _)) (fun v7 w7 ho7 hb7 hg7 => wpList_nil (hKy _ _ ?_))); obtain ⟨A7, c7, rfl, hc7⟩ := ho7.shapeN (n := es.length + 1) (by simp); obtain ⟨hR9, hk1, hk2⟩ := HM5.out.close (e := x.e) hg7 ho7; have hMv7 : Mv w.heap.size (w.heap.size + 1 + 1 + 1 + 1) wL.heap.size W w7 := (HV5.out.trans (Mv.of_below ((Below.refl _ _).alloc (Nat.le_refl _) _) (by have := HM5.out.size; omega))).trans (Mv.grown (HM5.out.own.alloc _) hg7 (Nat.le_trans (Nat.le_trans (Nat.le_add_right _ 5) HM5.out.size) (by rw [World.size_alloc]; exact Nat.le_succ _)) (by omega) (by omega) (by decide) (by decide)); have hMv8 : Mv w.heap.size (w.heap.size + 1 + 1 + 1 + 1) wL.heap.size W (w7.setCell ⟨w.heap.size, 0, none⟩ (.slice A7 (es.length + 1) c7)) := hMv7.trans (Mv.set hk1 (by decide) (by decide) (by omega) (by omega) _); have hMv9 : Mv w.heap.size (w.heap.size + 1 + 1 + 1 + 1) wL.heap.size W ((w7.setCell ⟨w.heap.size, 0, none⟩ (.slice A7 (es.length + 1) c7)).setCell ⟨w.heap.size + 1, 0, none⟩ (.int .i64 (x.e : Int))) := hMv8.trans (Mv.set hk2 (by decide) (by decide) (by omega) (by omega) _); have r1 := hk1.cell 0; have rz1 := hk1.frz 0; have r2 := hk2.cell 0; have rz2 := hk2.frz 0; have r8 := (hMv8.part pb _ hP).cell 2; have HR9 := Lib.hid hR9; have HV9 := Lib.hid hMv9; clear hR9 hMv7 hMv8 hMv9 hk1 hk2 ho7 hb7 hg7)))
          refine ⟨HV9.out.kf, HV9.out.kp, false, [], out ++ [rec ++ x.p], x.e, .slice A7 (es.length + 1) c7, .slice A3 m c3, es ++ [.slice A3 m c3], 0, HR9.out, ?_, fun rest => ?_⟩
          · have := HLen.out; simp only [List.length_map, List.length_append, List.length_singleton] at *; omega
          · rw [List.map_append, List.append_assoc, HPL.out]
            exact readL_close (by rw [HK.out]; decide) (by rw [← HMm.out]; have := of_decide_eq_false hlgd; omega) (by rw [HK.out]; decide)
  case done =>
    rintro D xs W hD hxs ⟨op, rec, out, good, vo, vr, es, br, hS, hlen, hpl⟩ hK
    have hrd : readB L = (out, good) := by
      have h := hpl []
      rw [List.append_nil, hxs] at h
      exact h
    have q1 : W.cell? ⟨w.heap.size, 0, none⟩ = some vo := hS.b1.cell 0
    have q2 : W.cell? ⟨w.heap.size + 1, 0, none⟩ = some (.int .i64 (good : Int)) := hS.b2.cell 0
    have hX := hS.rx
    gi_wp2
    refine wpIn_wide.2 ?_
    go_quiet (fail)
    gi_wp2
    refine ⟨by simp, .inl ⟨_, _, rfl, run_takeDeferred (w := W.drewN nq) hK, ?_⟩⟩
    obtain ⟨A', m', c', rfl, hpost⟩ := hX.shut q1 nq D (.deferred none) (by omega) hK
    exact ⟨.tuple #[.slice A' m' c', .int .i64 (good : Int)], by simp [results, Tryz.results20, go_sem], by rw [hrd]; exact hpost⟩
  case stop =>
    rintro D c pre W hD ⟨t, ht⟩ ⟨rfl, out, good, hX, hpl⟩ hK
    have hrd : readB L = (out, good) := by
      have h := hpl t
      rw [ht] at h
      exact h
    obtain ⟨vo, es, h1, h2, _⟩ := id hX
    have q1 : W.cell? ⟨w.heap.size, 0, none⟩ = some vo := h1.cell 0
    have q2 : W.cell? ⟨w.heap.size + 1, 0, none⟩ = some (.int .i64 (good : Int)) := h2.cell 0
    gi_wp2
    refine wpIn_wide.2 ?_
    go_quiet (fail)
    gi_wp2
    refine ⟨by simp, .inl ⟨_, _, rfl, run_takeDeferred (w := W.drewN nq) hK, ?_⟩⟩
    obtain ⟨A', m', c', rfl, hpost⟩ := hX.shut q1 nq D (.deferred none) (by omega) hK
    exact ⟨.tuple #[.slice A' m' c', .int .i64 (good : Int)], by simp [results, Tryz.results20, go_sem], by rw [hrd]; exact hpost⟩
theorem c_wRead (w : World) {B : Nat} {A : Option Addr} {n c : Nat} {L : List UInt8} (hr : Rd w B A n (bcs L)) (hB : B ≤ w.heap.size) (hnc : n ≤ c) (hn : n ≤ 1000000) :
    Calls Tryz.prog 20 #[.slice A n c] w (ReadPost w (readB L)) := (c_wReadO w hr hB hnc hn).mono fun _ _ h => h.post
end Go.Proofs.YtgilnjngphhhlaaGreat
