/- Layer 17: the document's reading. -/
import Derived.Test.YtgilnjngphhhlaaWalL
import Derived.Test.YtgilnjngphhhlaaWalM
namespace Go.Lec
open Go.RowKit
/-- A number's worth. -/
def numI : Value → Nat
  | .int _ x => x.toNat
  | _ => 0
end Go.Lec
namespace Go.Proofs.Ytgilnjngphhhlaa
open Go.RowKit Go.Lec

theorem rows_of {W : World} {B : Nat} {A : Option Addr} {n c : Nat} {X : Nat → Prop} {es : List Value} {out : List (List UInt8)} (h : Lec.Own W B 23 (.slice A n c) es) (he : Els W X es out) : Rws W W.heap.size A n out :=
  ⟨es, h.rd, he.1, fun i u l e1 e2 => by obtain ⟨A', c', e, hc', hr, _⟩ := he.2 i u l e1 e2; exact ⟨A', c', e, hc', hr⟩⟩
theorem own_el' {W : World} {B : Nat} {v : Value} {rec : List UInt8} (h : Lec.Own W B 5 v (bcs rec)) : El W (Xat W B 0 false) v rec := by
  obtain ⟨A, c, rfl, hc⟩ := h.shape
  rw [bcs_length] at hc
  rw [bcs_length] at h ⊢
  refine ⟨A, c, rfl, hc, h.rd, fun hl a e => ?_⟩
  subst e
  rcases h.2 with ⟨h1, _⟩ | ⟨g, cap, cur, h1, hb, hg, _⟩
  · cases h1
  · simp only [Value.slice.injEq, Option.some.injEq] at h1
    rw [h1.1]
    exact ⟨hb, ⟨cur, hg⟩, fun e => by cases e⟩

set_option maxRecDepth 20000 in
set_option maxHeartbeats 4000000 in
theorem c_rRead (w : World) {B : Nat} {A : Option Addr} {N c : Nat} {L : List UInt8} (hr : Rd w B A N (bcs L)) (hB : B ≤ w.heap.size) (hNc : N ≤ c) (hN : N ≤ 1000000) :
    Calls Try.prog 11 #[.slice A N c] w (ReadPost w (readB L)) := by
  have hln := hr.1
  rw [bcs_length] at hln
  have Hln := Lib.hid hln; clear hln
  go_enter Try.func11, Try.ntmps11
  go_wp2
  go_loopw [2, 3, 4, 5, 6, 7, 8] (fun _ _ vo vr vb va vg wr => ∃ (op : Bool) (rec : List UInt8) (out : List (List UInt8)) (s good : Nat) (es : List Value), vb = .bool op ∧ va = .int .i64 (s : Int) ∧ vg = .int .i64 (good : Int) ∧
      Lec.Own wr w.heap.size 23 vo es ∧ Els wr (Xat wr w.heap.size 0 false) es out ∧ Lec.Own wr w.heap.size 5 vr (bcs rec) ∧ Below w.heap.size w wr ∧ s ≤ N ∧ out.length ≤ s ∧ rec.length ≤ 1048576 ∧ Hid (readL (pieces L s) op rec out good = readB L)) (fun _ _ _ _ _ va _ _ => N - numI va)
  case atStart => exact ⟨false, [], [], 0, 0, [], rfl, rfl, rfl, Lec.Own.nil_ _ _ _, Els.nil _ _, Lec.Own.nil_ _ _ _, Below.refl _ _, Nat.zero_le _, Nat.le_refl _, by simp, Lib.hid rfl⟩
  case round =>
    obtain ⟨op, rec, out, s, good, es, rfl, rfl, rfl, ho, he, hrr, hb, hs, hol, hrl, hpl⟩ := hrel
    obtain ⟨Ar, cr, rfl, hcr⟩ := hrr.shapeN (n := rec.length) (bcs_length _)
    have HN := Lib.hid (c_next wr (c := c) (hr.below hb hB) (Nat.le_trans hB hb.size) hNc hN s hs)
    go_wp2_with fail
    go_at_call 16
    refine HN.out.mono ?_
    rintro e w1 ⟨⟨k, p, E, Ap, cp, hpe, rfl, hrp, hpc, hps, hsE, hEL, hk1, hk4⟩ | ⟨hpe, x, rfl⟩, hb1⟩
    · obtain ⟨kk, hkk⟩ : ∃ kk : Int, kk = (k.toNat : Int) := ⟨_, rfl⟩
      rw [← hkk]
      have hxk : kk = 1 ∧ k = 1 ∨ kk = 2 ∧ k = 2 ∨ kk = 3 ∧ k = 3 ∨ kk = 4 ∧ k = 4 := by
        have e1 : ∀ m : Nat, m < 256 → k.toNat = m → k = UInt8.ofNat m := fun m hm h => UInt8.toNat_inj.1 (by rw [h, UInt8.toNat_ofNat']; omega)
        have : k.toNat = 1 ∨ k.toNat = 2 ∨ k.toNat = 3 ∨ k.toNat = 4 := by omega
        rcases this with h | h | h | h
        · exact .inl ⟨by omega, e1 1 (by omega) h⟩
        · exact .inr (.inl ⟨by omega, e1 2 (by omega) h⟩)
        · exact .inr (.inr (.inl ⟨by omega, e1 3 (by omega) h⟩))
        · exact .inr (.inr (.inr ⟨by omega, e1 4 (by omega) h⟩))
      clear hkk hk1 hk4 HN
      cases op
      · rcases hxk with ⟨rfl, hk⟩ | ⟨rfl, hk⟩ | ⟨rfl, hk⟩ | ⟨rfl, hk⟩
        · skip
          by_cases hlong : 1048576 < rec.length + p.length
          · skip
            have HK := Lib.hid hk
            clear hk
            have hlgd : decide ((1048576 : Int) < ((rec.length + p.length : Nat) : Int)) = true := decide_eq_true (by omega)
            have hlgi : (1048576 : Int) < (rec.length : Int) + (p.length : Int) := by omega
            go_wp2
            obtain ⟨A0, c0, rfl, hc0⟩ := ho.shape
            refine bodyPost_ret (v := .tuple #[.slice A0 es.length c0, .int .i64 (good : Int)]) (by simp [results, Try.results11, go_sem]) rfl ?_
            have hrd : readB L = (out, good) := by rw [← hpl.out, hpe, HK.out]; exact readL_break (.inr hlong)
            rw [hrd]
            exact ⟨A0, es.length, c0, rfl, hc0, (rows_of (ho.below hb1 (Nat.le_refl _)) (els_same he hb1.size (fun k _ _ _ hk => hb1.block k hk))), hb.trans (hb1.mono hb.size)⟩
          · skip
            have HK := Lib.hid hk
            clear hk
            have hlgd : decide ((1048576 : Int) < ((rec.length + p.length : Nat) : Int)) = false := decide_eq_false (by omega)
            have hlgi : ¬ (1048576 : Int) < (rec.length : Int) + (p.length : Int) := by omega
            have hB1 : B ≤ w1.heap.size := by have := hb.size; have := hb1.size; omega
            have hrp1 := hrp.below hb1 (Nat.le_trans hB hb.size)
            have hrr1 := hrr.below hb1 (Nat.le_refl _)
            have ho1 := ho.below hb1 (Nat.le_refl _)
            have he1 := els_same he hb1.size (fun k _ _ _ hk => hb1.block k hk)
            have hbw := hb.trans (hb1.mono hb.size)
            have HPE := Lib.hid hpe
            clear hpe hrp hrr ho he hb hlong
            obtain ⟨m, hm⟩ : ∃ m, m = rec.length + p.length := ⟨_, rfl⟩
            have hm6 : m ≤ 1048576 := by omega
            have HMm := Lib.hid hm
            clear hm
            go_wp2_with (first | (at_builtin; (refine wpList_app_sl rfl (.const (.slice none 0 0)) (.tmp 41) rfl slb (by decide) rfl (Lec.Own.nil_ w1 w1.heap.size _) (Below.refl _ _) (Nat.le_refl _) rfl hrr1.rd bcs_one (by simp only [bcs_length, List.length_nil]; omega) ?_); intro v2 w2 ho2 hb2 hs2; rw [List.nil_append] at ho2) | (at_builtin; (refine wpList_app_sl rfl (.tmp 42) (.tmp 43) rfl slb (by decide) rfl ho2 hb2 hs2 rfl (hrp1.below hb2 hB1) bcs_one (by simp only [bcs_length]; omega) ?_); intro v3 w3 ho3 hb3 hs3; obtain ⟨A3, c3, rfl, hc3⟩ := ho3.shapeN (n := m) (by rw [List.length_append, bcs_length, bcs_length, HMm.out])) | (at_builtin; (refine wpList_app_rd rfl (.tmp 54) (.tmp 56) rfl slr rfl (((ho1.below hb3 (Nat.le_refl _)).alloc _)) rfl (Rd.lit w3 [.slice A3 m c3] 23) (by simp [Value.oneCell']) (by have h1 : es.length = out.length := he1.1; omega) (by decide) (Nat.le_trans (Nat.le_trans hbw.size hb3.size) (by rw [World.size_alloc]; exact Nat.le_succ _)) ?_); intro v7 w7 ho7 hb7 hg7; obtain ⟨A7, c7, rfl, hc7⟩ := ho7.shapeN (n := es.length + 1) (by simp)))
            have hb03 := hbw.trans (hb3.mono hbw.size)
            have he3 := els_same he1 hb3.size (fun k _ _ _ hk => hb3.block k hk)
            go_roundw
            case rel =>
              have ho3w := ho3.mono hbw.size
              rw [← bcs_append] at ho3w
              have hel : El w3 (Xat w3 w.heap.size 0 false) (.slice A3 m c3) (rec ++ p) := own_el' ho3w
              have hE4 : Els (w3.alloc (.cells #[.slice A3 m c3] 23)) (Xat (w3.alloc (.cells #[.slice A3 m c3] 23)) w.heap.size 0 false) (es ++ [.slice A3 m c3]) (out ++ [rec ++ p]) := els_same (he3.snoc hel) (by simp) (fun k _ _ _ hk => Below.heap_alloc w3 _ k hk)
              have hE7 : Els w7 (Xat w7 w.heap.size 0 false) (es ++ [.slice A3 m c3]) (out ++ [rec ++ p]) := els_same hE4 hg7.size (fun k _ hx _ hk => hg7.block k hk (fun e => by obtain ⟨cs, hc⟩ := hx; exact own_ne ((ho1.below hb3 (Nat.le_refl _)).alloc _) hc (by decide) e.symm))
              have hbel : Below w.heap.size w w7 := (hb03.alloc hb03.size _).grown hg7 (by have := hb03.size; simp only [World.size_alloc]; omega) (fun k e => (own_base (ho1.below hb3 (Nat.le_refl _)) e).1)
              refine ⟨false, [], out ++ [rec ++ p], E, E, es ++ [.slice A3 m c3], by simp, rfl, rfl, ho7, hE7, Lec.Own.nil_ _ _ _, hbel, by have := Hln.out; omega, by simp only [List.length_append, List.length_singleton]; omega, by simp, Lib.hid ?_⟩
              rw [← hpl.out, HPE.out, HK.out]
              exact (readL_close (by decide) (by rw [← HMm.out]; exact hm6) (by decide)).symm
            case measure => simp only [numI]; have := Hln.out; omega
        · skip
          by_cases hlong : 1048576 < rec.length + p.length
          · skip
            have HK := Lib.hid hk
            clear hk
            have hlgd : decide ((1048576 : Int) < ((rec.length + p.length : Nat) : Int)) = true := decide_eq_true (by omega)
            have hlgi : (1048576 : Int) < (rec.length : Int) + (p.length : Int) := by omega
            go_wp2
            obtain ⟨A0, c0, rfl, hc0⟩ := ho.shape
            refine bodyPost_ret (v := .tuple #[.slice A0 es.length c0, .int .i64 (good : Int)]) (by simp [results, Try.results11, go_sem]) rfl ?_
            have hrd : readB L = (out, good) := by rw [← hpl.out, hpe, HK.out]; exact readL_break (.inr hlong)
            rw [hrd]
            exact ⟨A0, es.length, c0, rfl, hc0, (rows_of (ho.below hb1 (Nat.le_refl _)) (els_same he hb1.size (fun k _ _ _ hk => hb1.block k hk))), hb.trans (hb1.mono hb.size)⟩
          · skip
            have HK := Lib.hid hk
            clear hk
            have hlgd : decide ((1048576 : Int) < ((rec.length + p.length : Nat) : Int)) = false := decide_eq_false (by omega)
            have hlgi : ¬ (1048576 : Int) < (rec.length : Int) + (p.length : Int) := by omega
            have hB1 : B ≤ w1.heap.size := by have := hb.size; have := hb1.size; omega
            have hrp1 := hrp.below hb1 (Nat.le_trans hB hb.size)
            have hrr1 := hrr.below hb1 (Nat.le_refl _)
            have ho1 := ho.below hb1 (Nat.le_refl _)
            have he1 := els_same he hb1.size (fun k _ _ _ hk => hb1.block k hk)
            have hbw := hb.trans (hb1.mono hb.size)
            have HPE := Lib.hid hpe
            clear hpe hrp hrr ho he hb hlong
            obtain ⟨m, hm⟩ : ∃ m, m = rec.length + p.length := ⟨_, rfl⟩
            have hm6 : m ≤ 1048576 := by omega
            have HMm := Lib.hid hm
            clear hm
            go_wp2_with (first | (at_builtin; (refine wpList_app_sl rfl (.const (.slice none 0 0)) (.tmp 41) rfl slb (by decide) rfl (Lec.Own.nil_ w1 w1.heap.size _) (Below.refl _ _) (Nat.le_refl _) rfl hrr1.rd bcs_one (by simp only [bcs_length, List.length_nil]; omega) ?_); intro v2 w2 ho2 hb2 hs2; rw [List.nil_append] at ho2) | (at_builtin; (refine wpList_app_sl rfl (.tmp 42) (.tmp 43) rfl slb (by decide) rfl ho2 hb2 hs2 rfl (hrp1.below hb2 hB1) bcs_one (by simp only [bcs_length]; omega) ?_); intro v3 w3 ho3 hb3 hs3; obtain ⟨A3, c3, rfl, hc3⟩ := ho3.shapeN (n := m) (by rw [List.length_append, bcs_length, bcs_length, HMm.out])))
            have hb03 := hbw.trans (hb3.mono hbw.size)
            have he3 := els_same he1 hb3.size (fun k _ _ _ hk => hb3.block k hk)
            go_roundw
            case rel =>
              have ho3w := ho3.mono hbw.size
              rw [← bcs_append] at ho3w
              refine ⟨true, rec ++ p, out, E, good, es, by simp, rfl, rfl, ho1.below hb3 (Nat.le_refl _), he3, ho3w, hb03, by have := Hln.out; omega, by omega, by rw [List.length_append, ← HMm.out]; exact hm6, Lib.hid ?_⟩
              rw [← hpl.out, HPE.out, HK.out]
              exact (readL_open (by decide) (by rw [← HMm.out]; exact hm6) (by decide)).symm
            case measure => simp only [numI]; have := Hln.out; omega
        · skip
          have HK := Lib.hid hk
          clear hk
          go_wp2
          obtain ⟨A0, c0, rfl, hc0⟩ := ho.shape
          refine bodyPost_ret (v := .tuple #[.slice A0 es.length c0, .int .i64 (good : Int)]) (by simp [results, Try.results11, go_sem]) rfl ?_
          have hrd : readB L = (out, good) := by rw [← hpl.out, hpe, HK.out]; exact readL_break (.inl (by decide))
          rw [hrd]
          exact ⟨A0, es.length, c0, rfl, hc0, (rows_of (ho.below hb1 (Nat.le_refl _)) (els_same he hb1.size (fun k _ _ _ hk => hb1.block k hk))), hb.trans (hb1.mono hb.size)⟩
        · skip
          have HK := Lib.hid hk
          clear hk
          go_wp2
          obtain ⟨A0, c0, rfl, hc0⟩ := ho.shape
          refine bodyPost_ret (v := .tuple #[.slice A0 es.length c0, .int .i64 (good : Int)]) (by simp [results, Try.results11, go_sem]) rfl ?_
          have hrd : readB L = (out, good) := by rw [← hpl.out, hpe, HK.out]; exact readL_break (.inl (by decide))
          rw [hrd]
          exact ⟨A0, es.length, c0, rfl, hc0, (rows_of (ho.below hb1 (Nat.le_refl _)) (els_same he hb1.size (fun k _ _ _ hk => hb1.block k hk))), hb.trans (hb1.mono hb.size)⟩
      · rcases hxk with ⟨rfl, hk⟩ | ⟨rfl, hk⟩ | ⟨rfl, hk⟩ | ⟨rfl, hk⟩
        · skip
          have HK := Lib.hid hk
          clear hk
          go_wp2
          obtain ⟨A0, c0, rfl, hc0⟩ := ho.shape
          refine bodyPost_ret (v := .tuple #[.slice A0 es.length c0, .int .i64 (good : Int)]) (by simp [results, Try.results11, go_sem]) rfl ?_
          have hrd : readB L = (out, good) := by rw [← hpl.out, hpe, HK.out]; exact readL_break (.inl (by decide))
          rw [hrd]
          exact ⟨A0, es.length, c0, rfl, hc0, (rows_of (ho.below hb1 (Nat.le_refl _)) (els_same he hb1.size (fun k _ _ _ hk => hb1.block k hk))), hb.trans (hb1.mono hb.size)⟩
        · skip
          have HK := Lib.hid hk
          clear hk
          go_wp2
          obtain ⟨A0, c0, rfl, hc0⟩ := ho.shape
          refine bodyPost_ret (v := .tuple #[.slice A0 es.length c0, .int .i64 (good : Int)]) (by simp [results, Try.results11, go_sem]) rfl ?_
          have hrd : readB L = (out, good) := by rw [← hpl.out, hpe, HK.out]; exact readL_break (.inl (by decide))
          rw [hrd]
          exact ⟨A0, es.length, c0, rfl, hc0, (rows_of (ho.below hb1 (Nat.le_refl _)) (els_same he hb1.size (fun k _ _ _ hk => hb1.block k hk))), hb.trans (hb1.mono hb.size)⟩
        · skip
          by_cases hlong : 1048576 < rec.length + p.length
          · skip
            have HK := Lib.hid hk
            clear hk
            have hlgd : decide ((1048576 : Int) < ((rec.length + p.length : Nat) : Int)) = true := decide_eq_true (by omega)
            have hlgi : (1048576 : Int) < (rec.length : Int) + (p.length : Int) := by omega
            go_wp2
            obtain ⟨A0, c0, rfl, hc0⟩ := ho.shape
            refine bodyPost_ret (v := .tuple #[.slice A0 es.length c0, .int .i64 (good : Int)]) (by simp [results, Try.results11, go_sem]) rfl ?_
            have hrd : readB L = (out, good) := by rw [← hpl.out, hpe, HK.out]; exact readL_break (.inr hlong)
            rw [hrd]
            exact ⟨A0, es.length, c0, rfl, hc0, (rows_of (ho.below hb1 (Nat.le_refl _)) (els_same he hb1.size (fun k _ _ _ hk => hb1.block k hk))), hb.trans (hb1.mono hb.size)⟩
          · skip
            have HK := Lib.hid hk
            clear hk
            have hlgd : decide ((1048576 : Int) < ((rec.length + p.length : Nat) : Int)) = false := decide_eq_false (by omega)
            have hlgi : ¬ (1048576 : Int) < (rec.length : Int) + (p.length : Int) := by omega
            have hB1 : B ≤ w1.heap.size := by have := hb.size; have := hb1.size; omega
            have hrp1 := hrp.below hb1 (Nat.le_trans hB hb.size)
            have hrr1 := hrr.below hb1 (Nat.le_refl _)
            have ho1 := ho.below hb1 (Nat.le_refl _)
            have he1 := els_same he hb1.size (fun k _ _ _ hk => hb1.block k hk)
            have hbw := hb.trans (hb1.mono hb.size)
            have HPE := Lib.hid hpe
            clear hpe hrp hrr ho he hb hlong
            obtain ⟨m, hm⟩ : ∃ m, m = rec.length + p.length := ⟨_, rfl⟩
            have hm6 : m ≤ 1048576 := by omega
            have HMm := Lib.hid hm
            clear hm
            go_wp2_with (first | (at_builtin; (refine wpList_app_sl rfl (.const (.slice none 0 0)) (.tmp 41) rfl slb (by decide) rfl (Lec.Own.nil_ w1 w1.heap.size _) (Below.refl _ _) (Nat.le_refl _) rfl hrr1.rd bcs_one (by simp only [bcs_length, List.length_nil]; omega) ?_); intro v2 w2 ho2 hb2 hs2; rw [List.nil_append] at ho2) | (at_builtin; (refine wpList_app_sl rfl (.tmp 42) (.tmp 43) rfl slb (by decide) rfl ho2 hb2 hs2 rfl (hrp1.below hb2 hB1) bcs_one (by simp only [bcs_length]; omega) ?_); intro v3 w3 ho3 hb3 hs3; obtain ⟨A3, c3, rfl, hc3⟩ := ho3.shapeN (n := m) (by rw [List.length_append, bcs_length, bcs_length, HMm.out])))
            have hb03 := hbw.trans (hb3.mono hbw.size)
            have he3 := els_same he1 hb3.size (fun k _ _ _ hk => hb3.block k hk)
            go_roundw
            case rel =>
              have ho3w := ho3.mono hbw.size
              rw [← bcs_append] at ho3w
              refine ⟨true, rec ++ p, out, E, good, es, by simp, rfl, rfl, ho1.below hb3 (Nat.le_refl _), he3, ho3w, hb03, by have := Hln.out; omega, by omega, by rw [List.length_append, ← HMm.out]; exact hm6, Lib.hid ?_⟩
              rw [← hpl.out, HPE.out, HK.out]
              exact (readL_open (by decide) (by rw [← HMm.out]; exact hm6) (by decide)).symm
            case measure => simp only [numI]; have := Hln.out; omega
        · skip
          by_cases hlong : 1048576 < rec.length + p.length
          · skip
            have HK := Lib.hid hk
            clear hk
            have hlgd : decide ((1048576 : Int) < ((rec.length + p.length : Nat) : Int)) = true := decide_eq_true (by omega)
            have hlgi : (1048576 : Int) < (rec.length : Int) + (p.length : Int) := by omega
            go_wp2
            obtain ⟨A0, c0, rfl, hc0⟩ := ho.shape
            refine bodyPost_ret (v := .tuple #[.slice A0 es.length c0, .int .i64 (good : Int)]) (by simp [results, Try.results11, go_sem]) rfl ?_
            have hrd : readB L = (out, good) := by rw [← hpl.out, hpe, HK.out]; exact readL_break (.inr hlong)
            rw [hrd]
            exact ⟨A0, es.length, c0, rfl, hc0, (rows_of (ho.below hb1 (Nat.le_refl _)) (els_same he hb1.size (fun k _ _ _ hk => hb1.block k hk))), hb.trans (hb1.mono hb.size)⟩
          · skip
            have HK := Lib.hid hk
            clear hk
            have hlgd : decide ((1048576 : Int) < ((rec.length + p.length : Nat) : Int)) = false := decide_eq_false (by omega)
            have hlgi : ¬ (1048576 : Int) < (rec.length : Int) + (p.length : Int) := by omega
            have hB1 : B ≤ w1.heap.size := by have := hb.size; have := hb1.size; omega
            have hrp1 := hrp.below hb1 (Nat.le_trans hB hb.size)
            have hrr1 := hrr.below hb1 (Nat.le_refl _)
            have ho1 := ho.below hb1 (Nat.le_refl _)
            have he1 := els_same he hb1.size (fun k _ _ _ hk => hb1.block k hk)
            have hbw := hb.trans (hb1.mono hb.size)
            have HPE := Lib.hid hpe
            clear hpe hrp hrr ho he hb hlong
            obtain ⟨m, hm⟩ : ∃ m, m = rec.length + p.length := ⟨_, rfl⟩
            have hm6 : m ≤ 1048576 := by omega
            have HMm := Lib.hid hm
            clear hm
            go_wp2_with (first | (at_builtin; (refine wpList_app_sl rfl (.const (.slice none 0 0)) (.tmp 41) rfl slb (by decide) rfl (Lec.Own.nil_ w1 w1.heap.size _) (Below.refl _ _) (Nat.le_refl _) rfl hrr1.rd bcs_one (by simp only [bcs_length, List.length_nil]; omega) ?_); intro v2 w2 ho2 hb2 hs2; rw [List.nil_append] at ho2) | (at_builtin; (refine wpList_app_sl rfl (.tmp 42) (.tmp 43) rfl slb (by decide) rfl ho2 hb2 hs2 rfl (hrp1.below hb2 hB1) bcs_one (by simp only [bcs_length]; omega) ?_); intro v3 w3 ho3 hb3 hs3; obtain ⟨A3, c3, rfl, hc3⟩ := ho3.shapeN (n := m) (by rw [List.length_append, bcs_length, bcs_length, HMm.out])) | (at_builtin; (refine wpList_app_rd rfl (.tmp 54) (.tmp 56) rfl slr rfl (((ho1.below hb3 (Nat.le_refl _)).alloc _)) rfl (Rd.lit w3 [.slice A3 m c3] 23) (by simp [Value.oneCell']) (by have h1 : es.length = out.length := he1.1; omega) (by decide) (Nat.le_trans (Nat.le_trans hbw.size hb3.size) (by rw [World.size_alloc]; exact Nat.le_succ _)) ?_); intro v7 w7 ho7 hb7 hg7; obtain ⟨A7, c7, rfl, hc7⟩ := ho7.shapeN (n := es.length + 1) (by simp)))
            have hb03 := hbw.trans (hb3.mono hbw.size)
            have he3 := els_same he1 hb3.size (fun k _ _ _ hk => hb3.block k hk)
            go_roundw
            case rel =>
              have ho3w := ho3.mono hbw.size
              rw [← bcs_append] at ho3w
              have hel : El w3 (Xat w3 w.heap.size 0 false) (.slice A3 m c3) (rec ++ p) := own_el' ho3w
              have hE4 : Els (w3.alloc (.cells #[.slice A3 m c3] 23)) (Xat (w3.alloc (.cells #[.slice A3 m c3] 23)) w.heap.size 0 false) (es ++ [.slice A3 m c3]) (out ++ [rec ++ p]) := els_same (he3.snoc hel) (by simp) (fun k _ _ _ hk => Below.heap_alloc w3 _ k hk)
              have hE7 : Els w7 (Xat w7 w.heap.size 0 false) (es ++ [.slice A3 m c3]) (out ++ [rec ++ p]) := els_same hE4 hg7.size (fun k _ hx _ hk => hg7.block k hk (fun e => by obtain ⟨cs, hc⟩ := hx; exact own_ne ((ho1.below hb3 (Nat.le_refl _)).alloc _) hc (by decide) e.symm))
              have hbel : Below w.heap.size w w7 := (hb03.alloc hb03.size _).grown hg7 (by have := hb03.size; simp only [World.size_alloc]; omega) (fun k e => (own_base (ho1.below hb3 (Nat.le_refl _)) e).1)
              refine ⟨false, [], out ++ [rec ++ p], E, E, es ++ [.slice A3 m c3], by simp, rfl, rfl, ho7, hE7, Lec.Own.nil_ _ _ _, hbel, by have := Hln.out; omega, by simp only [List.length_append, List.length_singleton]; omega, by simp, Lib.hid ?_⟩
              rw [← hpl.out, HPE.out, HK.out]
              exact (readL_close (by decide) (by rw [← HMm.out]; exact hm6) (by decide)).symm
            case measure => simp only [numI]; have := Hln.out; omega
    · clear HN
      obtain ⟨A0, c0, rfl, hc0⟩ := ho.shape
      go_wp2
      refine bodyPost_ret (v := .tuple #[.slice A0 es.length c0, .int .i64 (good : Int)]) (by simp [results, Try.results11, go_sem]) rfl ?_
      have hrd : readB L = (out, good) := by rw [← hpl.out, hpe]; rfl
      rw [hrd]
      exact ⟨A0, es.length, c0, rfl, hc0, (rows_of (ho.below hb1 (Nat.le_refl _)) (els_same he hb1.size (fun k _ _ _ hk => hb1.block k hk))), hb.trans (hb1.mono hb.size)⟩
end Go.Proofs.Ytgilnjngphhhlaa
