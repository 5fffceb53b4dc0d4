/- Layer 20: a block is built: the walk of build, where the keys rise. -/
import Derived.Test.YtjcifmbbdofjiaaBlU
import Derived.Test.YtjcifmbbdofjiaaRoundQ
namespace Go.Lec
open Go.RowKit
theorem Rd.kept {w w' : World} {B n : Nat} {A : Option Addr} {xs : List Value} {row : Option Nat} (h : Rd w B A n xs) (hg : w.grownBy w' row) (hr : ∀ r, row = some r → ∃ o : Obj, w.heap[r]? = some o ∧ o.isCells = false) : Rd w' B A n xs :=
  ⟨h.1, fun hn => by obtain ⟨b, o, e, hb, hc⟩ := h.2 hn; exact ⟨b, o, e, hb, fun i u hu => cell_kept (hc i u hu) hg hr⟩⟩
theorem Prs.kept {w w' : World} {B n : Nat} {A : Option Addr} {L : List Pr} {row : Option Nat} (h : Prs w B A n L) (hg : w.grownBy w' row) (hr : ∀ r, row = some r → ∃ o : Obj, w.heap[r]? = some o ∧ o.isCells = false) : Prs w' B A n L :=
  ⟨⟨h.1.1, fun hn => by obtain ⟨b, o, e, hb, hc⟩ := h.1.2 hn; exact ⟨b, o, e, hb, fun i u hu => cell_kept (hc i u hu) hg hr⟩⟩, fun m hm => ⟨(h.2 m hm).1.kept hg hr, (h.2 m hm).2.1.kept hg hr, (h.2 m hm).2.2⟩⟩
theorem Bk.kept {w w' : World} {b : Nat} {t : TypeId} {cs : Array Value} {row : Option Nat} (h : Bk w b t cs) (hg : w.grownBy w' row) (hr : ∀ r, row = some r → ∃ o : Obj, w.heap[r]? = some o ∧ o.isCells = false) : Bk w' b t cs :=
  (grownBy_keeps_cells hg hr h rfl).trans h
theorem keeps_of_below {w w' : World} (h : Below w.heap.size w w') (B : Nat) : Go.KeepsFrom B w w' := ⟨h.size, fun k o _ hk _ => (h.block k (Array.getElem?_eq_some_iff.1 hk).1).trans hk⟩
/-- The keys rise. -/
def risen (l : List (List UInt8 × List UInt8)) : Prop := ∀ i p q, l[i]? = some p → l[i + 1]? = some q → Go.Op.bytesLess p.1 q.1 = true
end Go.Lec
namespace Go.Proofs.Ytjcifmbbdofjiaa
open Go.RowKit Go.Lec Go.Op Go.Shelf
attribute [local go_sem] Oper.semAt_some
set_option maxRecDepth 100000 in
set_option maxHeartbeats 4000000 in
theorem c_build (w : World) {B N c every : Nat} {A : Option Addr} {L : List Pr} (hp : Prs w B A N L) (hB : B ≤ w.heap.size) (he1 : 1 ≤ every) (he2 : every ≤ 1024) (hr : risen (L.map Pr.pl)) (hf : tot (L.map Pr.pl) ≤ 4000) :
    Calls Try.prog 30 #[.slice A N c, .int .i64 (every : Int)] w (RetB 5 w (bld (L.map Pr.pl) every)) := by
  have hN := hp.len
  have hNt := tot_len (L.map Pr.pl)
  rw [List.length_map, hN] at hNt
  have hb0 := (Below.refl w.heap.size w).alloc (Nat.le_refl _) (.cells #[.slice A N c] 22)
  have H0 := Bk.new_ w 22 #[.slice A N c]
  have hz0 : (w.alloc (.cells #[.slice A N c] 22)).heap.size = w.heap.size + 1 := by simp
  obtain ⟨w0, hw0⟩ : ∃ W, W = w.alloc (.cells #[.slice A N c] 22) := ⟨_, rfl⟩
  rw [← hw0] at hb0 H0 hz0
  have q0 := H0.cell 0
  have HW0 := Lib.hid hw0
  clear hw0
  have d1 : decide ((1 : Int) ≤ (every : Int)) = true := decide_eq_true (by omega)
  have d2 : decide ((every : Int) ≤ 1024) = true := decide_eq_true (by omega)
  refine (callsIn_wide (n := 5)).1 ?_
  refine callsIn_of_wp_marks Try.func30 rfl trivial ?_ rfl
  simp only [Try.ntmps30, List.size_toArray, List.length_cons, List.length_nil, Nat.reduceAdd, Nat.reduceSub, Array.replicate_succ, Array.replicate_zero, List.push_toArray, List.append_toArray, List.nil_append, List.cons_append]
  refine wpIn_wide.2 ?_
  go_wp2_with (first | (go_at_call 47; rw [← HW0.out]; refine (c_blMust_ok true 1 w0 rfl).mono ?_; rintro e w1 ⟨rfl, rfl⟩) | (go_at_call 48; refine (c_All _).mono ?_; rintro e w2 ⟨rfl, rfl⟩))
  clear HW0 q0 d1 d2
  have bE := Bk.new_ w0 22 #[.slice A N c]
  have hbL := hb0.alloc (by omega) (.cells #[.slice A N c] 22)
  have H0L := H0.alloc (.cells #[.slice A N c] 22)
  have hzL : (w0.alloc (.cells #[.slice A N c] 22)).heap.size = w.heap.size + 2 := by simp [hz0]
  rw [hz0] at bE
  obtain ⟨wL, hwL⟩ : ∃ W, W = w0.alloc (.cells #[.slice A N c] 22) := ⟨_, rfl⟩
  rw [← hwL] at bE hbL H0L hzL ⊢
  clear hwL H0 hb0 hz0
  have hpL := (hp.below hbL hB).more hB
  refine (wpIn_wide (n := 5)).1 ?_
  refine wpIn_rangeFunc_ownH (n := 5) rfl (by omega) (gf := 62) (lb := #[.pointer (some ⟨w.heap.size + 1, 0, none⟩)]) rfl trivial (enters_of Try.func62 (by kernel_rfl) rfl)
    (all_stops 4 (by omega) (w.heap.size + 1) w.heap.size wL bE hpL (by omega) (by omega)) belowK_t (belowK_b (by omega)) (Below.refl _ _) (fun _ => rfl)
    (fun pre W => Bk W w.heap.size 22 #[.slice A N c] ∧ Below w.heap.size w W)
    (fun c pre W => False)
    (fun q X Y row h hg hr => ⟨h.1.kept hg (fun r e => (hr r e).2), h.2.grown hg h.2.size (fun k e => by have := (hr k e).1; omega)⟩)
    (fun c q X Y row h hg hr => h)
    ⟨H0L, hbL⟩
    (fun x a' W => ∃ pb, w.heap.size ≤ pb ∧ Bk W pb 35 #[.slice x.1.2.A1 x.1.2.n1 x.1.2.c1, .slice x.1.2.A2 x.1.2.n2 x.1.2.c2] ∧
      a' = { tmps := #[.slice A N c, .int .i64 (every : Int), .pointer (some ⟨w.heap.size, 0, none⟩), undef, .slice none 0 0, .slice none 0 0, .slice none 0 0, .int .i64 (x.1.1 : Int), .pointer (some ⟨pb, 0, none⟩), undef, undef, undef, undef, undef, undef, undef, undef, undef,
        .int .i64 (every : Int), .bool true, .bool true, .int .i64 (every : Int), .bool true, .bool true, .tuple #[], .slice A N c, .func (.func 62) #[] #[.pointer (some ⟨w.heap.size + 1, 0, none⟩)],
        .int .i64 (x.1.1 : Int), .agg #[.slice x.1.2.A1 x.1.2.n1 x.1.2.c1, .slice x.1.2.A2 x.1.2.n2 x.1.2.c2], undef, undef, undef, undef, undef, undef, undef, undef, undef, undef, undef, undef, undef, undef, undef, undef, undef, undef, undef, undef, undef, undef, undef, undef, undef, undef, undef, undef, undef, undef, undef, undef, undef, undef, undef, undef, undef, undef, undef, undef, undef, undef, undef, undef, undef, undef, undef, undef, undef, undef, undef, undef, undef, undef, undef, undef, undef, undef, undef, undef, undef, undef, undef, undef, undef, undef, undef, undef, undef, undef, undef, undef, undef, undef, undef, undef, undef, undef, undef, undef, undef, undef, undef, undef, undef, undef, undef, undef, undef, undef, undef, undef, undef, undef, undef, undef, undef, undef, undef], defers := [] })
    (fun x a' q X Y row h hg hr => by
      obtain ⟨pb, h1, h2, h3⟩ := h
      exact ⟨pb, h1, h2.kept hg (fun r e => (hr r e).2), h3⟩) ?assign ?body ?done ?stop
  case assign =>
    intro l pre x W K hI hK
    obtain ⟨h1, h2⟩ := hI
    have hfin := hK _ (W.alloc (.cells #[.slice x.1.2.A1 x.1.2.n1 x.1.2.c1, .slice x.1.2.A2 x.1.2.n2 x.1.2.c2] 35)) (keeps_of_below ((Below.refl _ _).alloc (Nat.le_refl _) _) _) ((Below.refl _ _).alloc h2.size _) ⟨h1.alloc _, h2.alloc h2.size _⟩ ⟨W.heap.size, h2.size, Bk.new_ _ _ _, rfl⟩
    clear hK
    dsimp only [Pr.val]
    gi_wp2
    exact hfin
  case body =>
    rintro l' pre ⟨⟨i, m⟩, hm⟩ a' W hl' _ ⟨h1, hBW⟩ ⟨pb, hpb, hP, rfl⟩ hlen
    dsimp only at hm hP ⊢
    have q0 := h1.cell 0
    have p0 := hP.cell 0
    have p1 := hP.cell 1
    have hKN : ∀ nq, KeepsFrom wL.heap.size W (W.drewN nq) := fun nq => keeps_of_below (belowN (Below.refl _ _) nq) _
    rcases Nat.eq_zero_or_pos i with rfl | hi
    · gi_wp2
      refine wpIn_region_quiet_round (by kernel_rfl) (by kernel_rfl) (by kernel_rfl) ?_
      repeat (go_big_quiet_step ((first | (go_at_call 47; exact Calls.quiet_of_same ((c_blMust_ok true 200 _ rfl).mono (fun e w' h => ⟨h.1, h.2.symm⟩))))))
      refine wpQuiet_nil ?_
      rintro _ ⟨nq, rfl⟩
      exact ⟨hKN nq, belowN (Below.refl _ _) nq, h1.drewN nq, belowN hBW nq⟩
    · obtain ⟨j, rfl⟩ : ∃ j, i = j + 1 := ⟨i - 1, by omega⟩
      have hjN : j < N := by
        have := (List.getElem?_eq_some_iff.1 hm).1
        omega
      obtain ⟨b, o, m0, rfl, hbB, hmk, _, hmok, hcell⟩ := hp.cell2 hjN
      obtain ⟨c0, _⟩ := hcell W (hBW.mono hB)
      have hmok1 : m.ok w B := hp.2 m (List.mem_of_getElem? hm)
      have hlt : bytesLess m0.key m.key = true := hr j m0.pl m.pl (by rw [List.getElem?_map, hmk]; rfl) (by rw [List.getElem?_map, hm]; rfl)
      have hcmp : decide (Lib.compareBytes m0.key m.key < 0) = true := by rw [cmp_neg_decide, hlt]
      have HC := Lib.hid (fun nq : Nat => c_bCompare (W.drewN nq) (c := m0.c1) (c2 := m.c1) ((hmok.1.below (hBW.mono hB) (Nat.le_refl _)).drewN nq) ((hmok1.1.below (hBW.mono hB) (Nat.le_refl _)).drewN nq))
      have hjI : (j : Int) < (N : Int) := by omega
      have hz : (((j : Int) + 1) == 0) = false := by rw [beq_eq_false_iff_ne]; omega
      have lbW : b < W.heap.size := by have := hBW.size; omega
      clear hcell hmk hmok hmok1 hlt
      gi_wp2
      refine wpIn_region_quiet_round (by kernel_rfl) (by kernel_rfl) (by kernel_rfl) ?_
      repeat (go_big_quiet_step ((first | (go_at_call 49; exact Calls.quiet_of_same (HC.out _)) | (go_at_call 47; exact Calls.quiet_of_same ((c_blMust_ok true 200 _ rfl).mono (fun e w' h => ⟨h.1, h.2.symm⟩))))))
      refine wpQuiet_nil ?_
      rintro _ ⟨nq, rfl⟩
      exact ⟨hKN nq, belowN (Below.refl _ _) nq, h1.drewN nq, belowN hBW nq⟩
  case done =>
    rintro D ys W hD _ ⟨h1, hBW⟩ hK
    dsimp only
    have hDW : D < W.heap.size := (Array.getElem?_eq_some_iff.1 hK).1
    obtain ⟨Lp, hLp⟩ : ∃ l, l = L.map Pr.pl := ⟨_, rfl⟩
    rw [← hLp] at hf hNt ⊢
    have hLpl : Lp.length = N := by rw [hLp, List.length_map, hN]
    obtain ⟨B0, hB0⟩ : ∃ x, x = W.heap.size := ⟨_, rfl⟩
    have hpW : Prs W w.heap.size A N L := (hp.below (hBW.mono hB) (Nat.le_refl _)).more hB
    have hwB0 : w.heap.size ≤ B0 := by rw [hB0]; exact hBW.size
    have q0 := h1.cell 0
    have h1l := h1.lt
    have HLp := Lib.hid hLp
    have HLpl := Lib.hid hLpl
    rw [← hB0] at h1l
    have hb00 : Below B0 W W := by rw [hB0]; exact Below.refl _ _
    have hDB : D < B0 := by omega
    have HB0 := Lib.hid hB0
    have hDw : w.heap.size ≤ D := by omega
    clear hLp hLpl hpL bE H0L hbL hzL hr hN hD hB0
    go_wp2
    go_loopw [46, 5, 6] (fun i v u wr => ∃ k : Nat, k ≤ N ∧ i = .int .i64 (k : Int) ∧ Lec.Own wr B0 5 v (bcs (bodyTo Lp every k)) ∧ Lec.Own wr B0 3 u (ncs (plTo Lp every k)) ∧ Below B0 W wr) (fun i _ _ _ => N - (intOf i).toNat)
    case atStart => exact ⟨0, Nat.zero_le _, rfl, Lec.Own.nil_ _ _ _, Lec.Own.nil_ _ _ _, hb00⟩
    case round =>
      obtain ⟨k, hk, rfl, ho, hu, hbe⟩ := hrel
      obtain ⟨W0, hW0⟩ : ∃ x, x = wr := ⟨_, rfl⟩
      subst hW0
      have hzw := hbe.size
      rw [← HB0.out] at hzw
      by_cases hlt : k < N
      · obtain ⟨b, o, m, rfl, hbB, hmk, _, hmok, hcell⟩ := hpW.cell2 hlt
        obtain ⟨c0, c1⟩ := hcell W0 (hbe.mono hwB0)
        have hkl : Lp[k]? = some m.pl := by rw [HLp.out, List.getElem?_map, hmk]; rfl
        have htg := tot_get hkl
        have HMW := Lib.hid hmok
        obtain ⟨e1, e2, ec1, ec2, _, _⟩ := hmok.below (hbe.mono hwB0) (Nat.le_refl _)
        have hl1 : m.key.length = m.n1 := by have := e1.1; rwa [bcs_length] at this
        have hl2 : m.vl.length = m.n2 := by have := e2.1; rwa [bcs_length] at this
        have hm1 : m.n1 ≤ 4000 := by have := htg; simp only [Pr.pl] at this; omega
        have hm2 : m.n2 ≤ 4000 := by have := htg; simp only [Pr.pl] at this; omega
        have hki : (k : Int) < (N : Int) := by omega
        have hPn := Bk.new_ W0 35 #[.slice m.A1 m.n1 m.c1, .slice m.A2 m.n2 m.c2]
        have hbn := hbe.alloc hzw (.cells #[.slice m.A1 m.n1 m.c1, .slice m.A2 m.n2 m.c2] 35)
        have hon := ho.alloc (.cells #[.slice m.A1 m.n1 m.c1, .slice m.A2 m.n2 m.c2] 35)
        have hun := hu.alloc (.cells #[.slice m.A1 m.n1 m.c1, .slice m.A2 m.n2 m.c2] 35)
        clear hcell hmok htg ho hu
        have lbW : b < W0.heap.size := by omega
        go_upto_region 12 with fail
        obtain ⟨nb, hnb⟩ : ∃ x, x = (bodyTo Lp every k).length := ⟨_, rfl⟩
        have hnbs : nb ≤ 24000 := by rw [hnb]; exact bodyTo_small hf (by rw [HLpl.out]; exact hk)
        have hnbs2 : (bodyTo Lp every (k + 1)).length ≤ 24000 := bodyTo_small hf (by rw [HLpl.out]; exact hlt)
        obtain ⟨Av, cv, rfl, hcv⟩ := hon.shapeN (n := nb) (by rw [bcs_length, hnb])
        obtain ⟨pb, hpb⟩ : ∃ x, x = W0.heap.size := ⟨_, rfl⟩
        obtain ⟨W1, hW1⟩ : ∃ x, x = W0.alloc (.cells #[.slice m.A1 m.n1 m.c1, .slice m.A2 m.n2 m.c2] 35) := ⟨_, rfl⟩
        rw [← hW1] at hPn hbn hon hun ⊢
        rw [← hpb] at hPn lbW ⊢
        have hpBl : B0 ≤ pb := by rw [hpb]; exact hzw
        have hkey1 : Rd W1 w.heap.size m.A1 m.n1 (bcs m.key) := by rw [hW1]; exact e1.alloc (by omega) _
        have hkey2 : Rd W1 w.heap.size m.A2 m.n2 (bcs m.vl) := by rw [hW1]; exact e2.alloc (by omega) _
        have g0 := hPn.cell 0
        have g1 := hPn.cell 1
        have hev0 : ((every : Int) == 0) = false := by rw [beq_eq_false_iff_ne]; omega
        have hNA : numsAt Lp every k = [sameAt Lp every k, m.n1 - sameAt Lp every k, m.n2] := by
          simp only [numsAt, getD_of hkl, Pr.pl, hl1, hl2]
        have hEN : bodyTo Lp every (k + 1) = bodyTo Lp every k ++ ((numsAt Lp every k).flatMap uvar ++ (m.key.drop (sameAt Lp every k) ++ m.vl)) := by
          rw [bodyTo, entAt, getD_of hkl]; rfl
        have HEN := Lib.hid hEN
        have Hnb := Lib.hid hnb
        have Hl1 := Lib.hid hl1
        have Hl2 := Lib.hid hl2
        have Hmk := Lib.hid hmk
        have Hkl := Lib.hid hkl
        clear hEN hnb hW1 hpb c0 c1 e1 e2 hl1 hl2 hmk hkl
        by_cases h0 : k % every = 0
        · have hrem : ((k : Int) % (every : Int) == 0) = true := by
            rw [← Int.natCast_emod, h0]; rfl
          have hsm : sameAt Lp every k = 0 := by rw [sameAt, if_pos h0]
          have HPL := Lib.hid (show plTo Lp every (k + 1) = plTo Lp every k ++ [nb] from by rw [plTo, if_pos h0, ← Hnb.out])
          have hpl := plTo_len Lp every k
          rw [hsm] at hNA HEN
          rw [Nat.sub_zero] at hNA
          have HNA := Lib.hid hNA
          clear h0 hsm hNA
          go_wp2_with (at_builtin; (refine wpList_app_new (m := 1) rfl _ _ rfl sln rfl hun rfl (news := [.int .i64 (nb : Int)]) rfl (by intro u hu; rw [List.mem_singleton.1 hu]; rfl) (by rw [ncs_length]; omega) (by decide) (by have := hPn.lt; omega) ?_); intro v5 w5 ho5 hb5 hg5; have hP5 := hPn.grownX hg5 (own_bk hun hPn (by decide)); have t0 := hP5.cell 0; have t1 := hP5.cell 1)
          have hov5 := Lec.Own.grown hon hg5 (fun g hg => own_ne hun hon (by decide) g hg)
          have hbe5 : Below B0 W w5 := hbn.trans hb5
          have hou5 : Lec.Own w5 B0 3 v5 (ncs (plTo Lp every (k + 1))) := by rw [HPL.out, ncs_app]; exact ho5
          have hk15 := hkey1.below (hb5.mono hwB0) (Nat.le_refl _)
          have hk25 := hkey2.below (hb5.mono hwB0) (Nat.le_refl _)
          have hNs : numsAt Lp every k = [0, m.n1, m.n2] := HNA.out
          have hz5 : B0 ≤ (w5).heap.size := by have := hP5.lt; omega
          have HQ := Bk.new_ w5 3 #[.int .i64 0, .int .i64 (m.n1 : Int), .int .i64 (m.n2 : Int)]
          have hbq := hbe5.alloc hz5 (.cells #[.int .i64 0, .int .i64 (m.n1 : Int), .int .i64 (m.n2 : Int)] 3)
          have hoq := hov5.alloc (.cells #[.int .i64 0, .int .i64 (m.n1 : Int), .int .i64 (m.n2 : Int)] 3)
          have huq := hou5.alloc (.cells #[.int .i64 0, .int .i64 (m.n1 : Int), .int .i64 (m.n2 : Int)] 3)
          have hPq := hP5.alloc (.cells #[.int .i64 0, .int .i64 (m.n1 : Int), .int .i64 (m.n2 : Int)] 3)
          have hkq1 := hk15.alloc (by omega) (.cells #[.int .i64 0, .int .i64 (m.n1 : Int), .int .i64 (m.n2 : Int)] 3)
          have hkq2 := hk25.alloc (by omega) (.cells #[.int .i64 0, .int .i64 (m.n1 : Int), .int .i64 (m.n2 : Int)] 3)
          obtain ⟨q, hq⟩ : ∃ x, x = (w5).heap.size := ⟨_, rfl⟩
          obtain ⟨W5, hW5⟩ : ∃ x, x = (w5).alloc (.cells #[.int .i64 0, .int .i64 (m.n1 : Int), .int .i64 (m.n2 : Int)] 3) := ⟨_, rfl⟩
          rw [← hW5] at HQ hbq hoq huq hPq hkq1 hkq2 ⊢
          rw [← hq] at HQ hz5 ⊢
          clear hW5 hq hbe5 hov5 hou5 hP5 hk15 hk25
          have hsn : 0 ≤ 4000 := (Nat.zero_le _)
          have hdn : m.n1 ≤ 4000 := hm1
          go_loopw [80, 5] (fun jj v wr => ∃ i : Nat, i ≤ 3 ∧ jj = .int .i64 (i : Int) ∧ Lec.Own wr B0 5 v (bcs (bodyTo Lp every k ++ ([0, m.n1, m.n2].take i).flatMap uvar)) ∧ Lec.Own wr B0 3 v5 (ncs (plTo Lp every (k + 1))) ∧ Bk wr pb 35 #[.slice m.A1 m.n1 m.c1, .slice m.A2 m.n2 m.c2] ∧ Bk wr q 3 #[.int .i64 0, .int .i64 (m.n1 : Int), .int .i64 (m.n2 : Int)] ∧ Rd wr w.heap.size m.A1 m.n1 (bcs m.key) ∧ Rd wr w.heap.size m.A2 m.n2 (bcs m.vl) ∧ Below B0 W wr) (fun j _ _ => 3 - (intOf j).toNat)
          case atStart => exact ⟨0, by omega, rfl, by simpa using hoq, huq, hPq, HQ, hkq1, hkq2, hbq⟩
          case round =>
            clear hoq huq hPq HQ hkq1 hkq2 hbq
            obtain ⟨i, hi, rfl, hoq, huq, hPq, HQ, hkq1, hkq2, hbq⟩ := hrel
            obtain ⟨W6, hW6⟩ : ∃ x, x = wr := ⟨_, rfl⟩
            subst hW6
            have hz6 : B0 ≤ W6.heap.size := by have := hPq.lt; omega
            by_cases h3 : i < 3
            · obtain ⟨x, hx1, hx2, hx3⟩ := take_three 0 m.n1 m.n2 i h3
              have hc := three_cell HQ rfl hx2
              have hxs : x ≤ 4000 := by rcases hx3 with h | h | h <;> omega
              have hxu := uvar_len2 hxs
              have HNum := Lib.hid (c_num W6 x (by omega))
              have hfl : (([0, m.n1, m.n2].take i).flatMap uvar).length ≤ 6 := by
                have h1 := flat_uvar_len [0, m.n1, m.n2] (by intro y hy; simp only [List.mem_cons, List.not_mem_nil, or_false] at hy; rcases hy with h | h | h <;> omega)
                have h2 := congrArg List.length (show [0, m.n1, m.n2].flatMap uvar = ([0, m.n1, m.n2].take i).flatMap uvar ++ ([0, m.n1, m.n2].drop i).flatMap uvar from by rw [← List.flatMap_append, List.take_append_drop])
                rw [List.length_append] at h2
                simp only [List.length_cons, List.length_nil] at h1
                omega
              have Hx1 := Lib.hid hx1
              clear hx1 hx2 hx3
              go_wp2_with (first | (go_at_call 51; refine HNum.out.mono ?_; rintro e w6 ⟨vx, rfl, hox, hbx⟩; obtain ⟨Ax, cx, rfl, hcx⟩ := hox.shapeN (n := (uvar x).length) (bcs_length _); have ho6 := hoq.below hbx (Nat.le_refl _); have hr6 := Lec.Own.rd hox; have hb6 : Below B0 W w6 := hbq.trans (hbx.mono hz6); have hz7 := hbx.size) | (at_builtin; (refine wpList_app_rd (m := (uvar x).length) rfl _ _ rfl slb rfl ho6 rfl hr6 bcs_one (by have := Hnb.out; rw [bcs_length, List.length_append]; omega) (by decide) (by omega) ?_); intro v7 w7 ho7 hb7 hg7))
              have hu6 := huq.below hbx (Nat.le_refl _)
              have hP6 := hPq.below hbx hPq.lt
              have hQ6 := HQ.below hbx HQ.lt
              go_roundw
              case rel => exact ⟨i + 1, by omega, by go_num, by rw [Hx1.out, bcs_snocU]; exact ho7, Lec.Own.grown hu6 hg7 (fun g hg => own_ne ho6 hu6 (by decide) g hg), hP6.grownX hg7 (own_bk ho6 hP6 (by decide)), hQ6.grownX hg7 (own_bk ho6 hQ6 (by decide)), (hkq1.below hbx (by omega)).below (hb7.mono hwB0) (Nat.le_refl _), (hkq2.below hbx (by omega)).below (hb7.mono hwB0) (Nat.le_refl _), hb6.trans hb7⟩
              case measure => simp [intOf]; omega
            · obtain rfl : i = 3 := by omega
              have hlen := hnbs2
              rw [HEN.out, hNs, List.length_append, List.length_append, List.length_append, List.length_drop, Hl1.out, Hl2.out] at hlen
              have HB9 := Lib.hid (show bcs (bodyTo Lp every (k + 1)) = bcs (bodyTo Lp every k ++ [0, m.n1, m.n2].flatMap uvar) ++ bcs (m.key.drop 0) ++ bcs m.vl from by rw [HEN.out, hNs]; simp only [bcs_append, List.append_assoc])
              obtain ⟨nb2, hnb2⟩ : ∃ x, x = (bodyTo Lp every (k + 1)).length := ⟨_, rfl⟩
              rw [← hnb2] at hnbs2
              have Hnb2 := Lib.hid hnb2
              have hnb2i : decide ((nb2 : Int) ≤ 1048576) = true := decide_eq_true (by omega)
              obtain ⟨Ac, hcut, hrc⟩ := run_cutI (P := Try.prog) slb hkq1 ec1 0 (Nat.zero_le _) .i64 0 rfl
              rw [← bcs_drop] at hrc
              simp only [Nat.sub_zero] at hcut hrc
              have hoq3 : Lec.Own W6 B0 5 u5 (bcs (bodyTo Lp every k ++ [0, m.n1, m.n2].flatMap uvar)) := hoq
              have HK := Lib.hid (fun (W' : World) (h : Bk W' pb 35 #[.slice m.A1 m.n1 m.c1, .slice m.A2 m.n2 m.c2]) => (⟨h.cell 0, h.cell 1⟩ : W'.cell? ⟨pb, 0, none⟩ = some (.slice m.A1 m.n1 m.c1) ∧ W'.cell? ⟨pb, 1, none⟩ = some (.slice m.A2 m.n2 m.c2)))
              have HLn := Lib.hid hlen
              clear hnb2 hlen hNs hoq
              go_wp2
              go_region_held3 (fun W' => W'.cell? ⟨pb, 0, none⟩ = some (.slice m.A1 m.n1 m.c1) ∧ W'.cell? ⟨pb, 1, none⟩ = some (.slice m.A2 m.n2 m.c2))
                ((refine HK.out _ ?_; first | exact hPq.drew | exact hP8 | exact hP9))
                (first
                  | (refine at_app (.tmp 89) (.tmp 93) ?_; go_loud (refine step_app_rd (m := m.n1) rfl (.tmp 89) (.tmp 93) rfl slb (by decide) rfl hoq3.drew hbq.drew hz6 rfl ((hrc.more (show w.heap.size ≤ W6.drew.heap.size from Nat.le_trans hwB0 hz6)).drew) bcs_one (by have := HLn.out; rw [bcs_length, List.length_append]; omega) ?_); intro v8 w8 ho8 hb8 hg8 hs8; have hP8 := hPq.drew.grownX hg8 (own_bk hoq3.drew hPq.drew (by decide)); have hu8 := Lec.Own.grown huq.drew hg8 (fun g hg => own_ne hoq3.drew huq.drew (by decide) g hg))
                  | (refine at_app (.tmp 94) (.tmp 96) ?_; refine step_app_rd (m := m.n2) rfl (.tmp 94) (.tmp 96) rfl slb (by decide) rfl ho8 hb8 hs8 rfl ((HMW.out.2.1.below (hb8.mono hwB0) (Nat.le_refl _)).more (by omega)) bcs_one (by have := HLn.out; have := Hl1.out; rw [List.length_append, bcs_length, bcs_length, List.length_append, List.length_drop]; omega) ?_; intro v9 w9 ho9 hb9 hg9 hs9; have hP9 := hP8.grownX hg9 (own_bk ho8 hP8 (by decide)); have hu9 := Lec.Own.grown hu8 hg9 (fun g hg => own_ne ho8 hu8 (by decide) g hg); rw [← HB9.out] at ho9; obtain ⟨A9, c9, rfl, hc9⟩ := ho9.shapeN (n := nb2) (by rw [bcs_length, Hnb2.out])))
              go_wp2_with (go_at_call 47; refine (c_blMust_ok true 2 _ rfl).mono ?_; rintro e w' ⟨rfl, rfl⟩)
              go_roundw
              case rel => exact ⟨k + 1, by omega, by go_num, ho9, hu9, hb9⟩
              case measure => simp [intOf]; omega
        · have hrem : ((k : Int) % (every : Int) == 0) = false := by
            rw [← Int.natCast_emod, beq_eq_false_iff_ne]; omega
          obtain ⟨j, hj⟩ : ∃ j, k = j + 1 := by
            rcases Nat.eq_zero_or_pos k with h | h
            · rw [h, Nat.zero_mod] at h0; exact absurd rfl h0
            · exact ⟨k - 1, by omega⟩
          have hkj : (k : Int) - 1 = (j : Int) := by omega
          obtain ⟨b', o', m0, hA, _, hmk0, _, hmok0, hcell0⟩ := hpW.cell2 (k := j) (by omega)
          cases hA
          obtain ⟨d0, _⟩ := hcell0 W1 (hbn.mono hwB0)
          have hkl0 : Lp[j]? = some m0.pl := by rw [HLp.out, List.getElem?_map, hmk0]; rfl
          obtain ⟨sm, hsm⟩ : ∃ x, x = com m0.key m.key := ⟨_, rfl⟩
          have hsame : sameAt Lp every k = sm := by
            rw [sameAt, if_neg h0, getD_of Hkl.out, hj, Nat.add_sub_cancel, getD_of hkl0, hsm]; rfl
          have hsm2 : sm ≤ m.n1 := by rw [hsm, ← Hl1.out]; exact com_le2 _ _
          have HPL := Lib.hid (show plTo Lp every (k + 1) = plTo Lp every k from by rw [plTo, if_neg h0])
          obtain ⟨d, hd⟩ : ∃ x, x = m.n1 - sm := ⟨_, rfl⟩
          have hdI : (m.n1 : Int) - (sm : Int) = (d : Int) := by omega
          have hdn : d ≤ 4000 := by omega
          rw [hsame] at hNA HEN
          rw [← hd] at hNA
          have HNA := Lib.hid hNA
          have lW1 := hPn.lt
          have lbox : w.heap.size < W1.heap.size := by omega
          have lb1 : b < W1.heap.size := by omega
          have hx0 : (0 : Int) ≤ (k : Int) - 1 := by omega
          have hx1 : (k : Int) - 1 < (N : Int) := by omega
          have hx3 : (1 : Int) ≤ (k : Int) := by omega
          have hx4 : (k : Int) ≤ (N : Int) := by omega
          have hx2 : ((k : Int) - 1).toNat = j := by omega
          have hwk : IntKind.i64.wrap ((k : Int) - 1) = (k : Int) - 1 := IntWalk.i64_in _ (by omega)
          clear hkj
          have HC := Lib.hid (c_common W1.drew (c := m0.c1) (c' := m.c1) ((hmok0.1.below (hbn.mono hwB0) (Nat.le_refl _)).drew) (show w.heap.size ≤ W1.drew.heap.size from by show w.heap.size ≤ W1.heap.size; omega) hkey1.drew (show w.heap.size ≤ W1.drew.heap.size from by show w.heap.size ≤ W1.heap.size; omega) (by have := tot_get hkl0; have h2 := hmok0.1.1; rw [bcs_length] at h2; simp only [Pr.pl] at this; omega) (by omega))
          rw [← hsm] at HC
          have hjN : (j : Int) < (N : Int) := by omega
          have hbx1 := (hbn.cell (p := ⟨w.heap.size, 0, none⟩) h1l).trans q0
          have HKs := Lib.hid (fun (W' : World) (hb : Below W1.heap.size W1 W') => (⟨(hb.cell (p := ⟨w.heap.size, 0, none⟩) lbox).trans hbx1, (hb.cell (p := ⟨b, o + j * 2, none⟩) lb1).trans d0, (hb.cell (p := ⟨pb, 0, none⟩) lW1).trans g0⟩ :
            W'.cell? ⟨w.heap.size, 0, none⟩ = some (.slice (some ⟨b, o, none⟩) N c) ∧ W'.cell? ⟨b, o + j * 2, none⟩ = some (.slice m0.A1 m0.n1 m0.c1) ∧ W'.cell? ⟨pb, 0, none⟩ = some (.slice m.A1 m.n1 m.c1)))
          have Hd := Lib.hid hd
          clear h0 hsame hNA hsm hmk0 hmok0 hcell0 hkl0 hd hj
          go_wp2
          go_region_held3 (fun W' => W'.cell? ⟨w.heap.size, 0, none⟩ = some (.slice (some ⟨b, o, none⟩) N c) ∧ W'.cell? ⟨b, o + j * 2, none⟩ = some (.slice m0.A1 m0.n1 m0.c1) ∧ W'.cell? ⟨pb, 0, none⟩ = some (.slice m.A1 m.n1 m.c1))
            ((refine HKs.out _ ?_; first | exact (Below.refl _ _).drew | exact hbk))
            (first | (go_at_call 50; (with_reducible refine HC.out.mono ?_); rintro e w5 ⟨rfl, hb5⟩; have hbk : Below W1.heap.size W1 w5 := (Below.refl _ _).drew.trans hb5))
          have hP5 := hPn.below hbk lW1
          have t0 := hP5.cell 0
          have t1 := hP5.cell 1
          have hov5 := hon.below hbk (Nat.le_refl _)
          have hou5 : Lec.Own w5 B0 3 u6 (ncs (plTo Lp every (k + 1))) := by rw [HPL.out]; exact hun.below hbk (Nat.le_refl _)
          have hbe5 : Below B0 W w5 := hbn.trans (hbk.mono (by omega))
          have hk15 := hkey1.below (hbk.mono (by omega)) (Nat.le_refl w.heap.size)
          have hk25 := hkey2.below (hbk.mono (by omega)) (Nat.le_refl w.heap.size)
          go_wp2
          have hNs : numsAt Lp every k = [sm, d, m.n2] := HNA.out
          have hz5 : B0 ≤ (w5).heap.size := by have := hP5.lt; omega
          have HQ := Bk.new_ w5 3 #[.int .i64 (sm : Int), .int .i64 (d : Int), .int .i64 (m.n2 : Int)]
          have hbq := hbe5.alloc hz5 (.cells #[.int .i64 (sm : Int), .int .i64 (d : Int), .int .i64 (m.n2 : Int)] 3)
          have hoq := hov5.alloc (.cells #[.int .i64 (sm : Int), .int .i64 (d : Int), .int .i64 (m.n2 : Int)] 3)
          have huq := hou5.alloc (.cells #[.int .i64 (sm : Int), .int .i64 (d : Int), .int .i64 (m.n2 : Int)] 3)
          have hPq := hP5.alloc (.cells #[.int .i64 (sm : Int), .int .i64 (d : Int), .int .i64 (m.n2 : Int)] 3)
          have hkq1 := hk15.alloc (by omega) (.cells #[.int .i64 (sm : Int), .int .i64 (d : Int), .int .i64 (m.n2 : Int)] 3)
          have hkq2 := hk25.alloc (by omega) (.cells #[.int .i64 (sm : Int), .int .i64 (d : Int), .int .i64 (m.n2 : Int)] 3)
          obtain ⟨q, hq⟩ : ∃ x, x = (w5).heap.size := ⟨_, rfl⟩
          obtain ⟨W5, hW5⟩ : ∃ x, x = (w5).alloc (.cells #[.int .i64 (sm : Int), .int .i64 (d : Int), .int .i64 (m.n2 : Int)] 3) := ⟨_, rfl⟩
          rw [← hW5] at HQ hbq hoq huq hPq hkq1 hkq2 ⊢
          rw [← hq] at HQ hz5 ⊢
          clear hW5 hq hbe5 hov5 hou5 hP5 hk15 hk25
          have hsn : sm ≤ 4000 := (by omega)
          have hdn : d ≤ 4000 := hdn
          go_loopw [80, 5] (fun jj v wr => ∃ i : Nat, i ≤ 3 ∧ jj = .int .i64 (i : Int) ∧ Lec.Own wr B0 5 v (bcs (bodyTo Lp every k ++ ([sm, d, m.n2].take i).flatMap uvar)) ∧ Lec.Own wr B0 3 u6 (ncs (plTo Lp every (k + 1))) ∧ Bk wr pb 35 #[.slice m.A1 m.n1 m.c1, .slice m.A2 m.n2 m.c2] ∧ Bk wr q 3 #[.int .i64 (sm : Int), .int .i64 (d : Int), .int .i64 (m.n2 : Int)] ∧ Rd wr w.heap.size m.A1 m.n1 (bcs m.key) ∧ Rd wr w.heap.size m.A2 m.n2 (bcs m.vl) ∧ Below B0 W wr) (fun j _ _ => 3 - (intOf j).toNat)
          case atStart => exact ⟨0, by omega, rfl, by simpa using hoq, huq, hPq, HQ, hkq1, hkq2, hbq⟩
          case round =>
            clear hoq huq hPq HQ hkq1 hkq2 hbq
            obtain ⟨i, hi, rfl, hoq, huq, hPq, HQ, hkq1, hkq2, hbq⟩ := hrel
            obtain ⟨W6, hW6⟩ : ∃ x, x = wr := ⟨_, rfl⟩
            subst hW6
            have hz6 : B0 ≤ W6.heap.size := by have := hPq.lt; omega
            by_cases h3 : i < 3
            · obtain ⟨x, hx1, hx2, hx3⟩ := take_three sm d m.n2 i h3
              have hc := three_cell HQ rfl hx2
              have hxs : x ≤ 4000 := by rcases hx3 with h | h | h <;> omega
              have hxu := uvar_len2 hxs
              have HNum := Lib.hid (c_num W6 x (by omega))
              have hfl : (([sm, d, m.n2].take i).flatMap uvar).length ≤ 6 := by
                have h1 := flat_uvar_len [sm, d, m.n2] (by intro y hy; simp only [List.mem_cons, List.not_mem_nil, or_false] at hy; rcases hy with h | h | h <;> omega)
                have h2 := congrArg List.length (show [sm, d, m.n2].flatMap uvar = ([sm, d, m.n2].take i).flatMap uvar ++ ([sm, d, m.n2].drop i).flatMap uvar from by rw [← List.flatMap_append, List.take_append_drop])
                rw [List.length_append] at h2
                simp only [List.length_cons, List.length_nil] at h1
                omega
              have Hx1 := Lib.hid hx1
              clear hx1 hx2 hx3
              go_wp2_with (first | (go_at_call 51; refine HNum.out.mono ?_; rintro e w6 ⟨vx, rfl, hox, hbx⟩; obtain ⟨Ax, cx, rfl, hcx⟩ := hox.shapeN (n := (uvar x).length) (bcs_length _); have ho6 := hoq.below hbx (Nat.le_refl _); have hr6 := Lec.Own.rd hox; have hb6 : Below B0 W w6 := hbq.trans (hbx.mono hz6); have hz7 := hbx.size) | (at_builtin; (refine wpList_app_rd (m := (uvar x).length) rfl _ _ rfl slb rfl ho6 rfl hr6 bcs_one (by have := Hnb.out; rw [bcs_length, List.length_append]; omega) (by decide) (by omega) ?_); intro v7 w7 ho7 hb7 hg7))
              have hu6 := huq.below hbx (Nat.le_refl _)
              have hP6 := hPq.below hbx hPq.lt
              have hQ6 := HQ.below hbx HQ.lt
              go_roundw
              case rel => exact ⟨i + 1, by omega, by go_num, by rw [Hx1.out, bcs_snocU]; exact ho7, Lec.Own.grown hu6 hg7 (fun g hg => own_ne ho6 hu6 (by decide) g hg), hP6.grownX hg7 (own_bk ho6 hP6 (by decide)), hQ6.grownX hg7 (own_bk ho6 hQ6 (by decide)), (hkq1.below hbx (by omega)).below (hb7.mono hwB0) (Nat.le_refl _), (hkq2.below hbx (by omega)).below (hb7.mono hwB0) (Nat.le_refl _), hb6.trans hb7⟩
              case measure => simp [intOf]; omega
            · obtain rfl : i = 3 := by omega
              have hlen := hnbs2
              rw [HEN.out, hNs, List.length_append, List.length_append, List.length_append, List.length_drop, Hl1.out, Hl2.out] at hlen
              have HB9 := Lib.hid (show bcs (bodyTo Lp every (k + 1)) = bcs (bodyTo Lp every k ++ [sm, d, m.n2].flatMap uvar) ++ bcs (m.key.drop sm) ++ bcs m.vl from by rw [HEN.out, hNs]; simp only [bcs_append, List.append_assoc])
              obtain ⟨nb2, hnb2⟩ : ∃ x, x = (bodyTo Lp every (k + 1)).length := ⟨_, rfl⟩
              rw [← hnb2] at hnbs2
              have Hnb2 := Lib.hid hnb2
              have hnb2i : decide ((nb2 : Int) ≤ 1048576) = true := decide_eq_true (by omega)
              obtain ⟨Ac, hcut, hrc⟩ := run_cutI (P := Try.prog) slb hkq1 ec1 sm hsm2 .i64 (sm : Int) rfl
              rw [← bcs_drop] at hrc
              simp only [← Hd.out] at hcut hrc
              have hoq3 : Lec.Own W6 B0 5 u5 (bcs (bodyTo Lp every k ++ [sm, d, m.n2].flatMap uvar)) := hoq
              have HK := Lib.hid (fun (W' : World) (h : Bk W' pb 35 #[.slice m.A1 m.n1 m.c1, .slice m.A2 m.n2 m.c2]) => (⟨h.cell 0, h.cell 1⟩ : W'.cell? ⟨pb, 0, none⟩ = some (.slice m.A1 m.n1 m.c1) ∧ W'.cell? ⟨pb, 1, none⟩ = some (.slice m.A2 m.n2 m.c2)))
              have HLn := Lib.hid hlen
              clear hnb2 hlen hNs hoq
              go_wp2
              go_region_held3 (fun W' => W'.cell? ⟨pb, 0, none⟩ = some (.slice m.A1 m.n1 m.c1) ∧ W'.cell? ⟨pb, 1, none⟩ = some (.slice m.A2 m.n2 m.c2))
                ((refine HK.out _ ?_; first | exact hPq.drew | exact hP8 | exact hP9))
                (first
                  | (refine at_app (.tmp 89) (.tmp 93) ?_; go_loud (refine step_app_rd (m := d) rfl (.tmp 89) (.tmp 93) rfl slb (by decide) rfl hoq3.drew hbq.drew hz6 rfl ((hrc.more (show w.heap.size ≤ W6.drew.heap.size from Nat.le_trans hwB0 hz6)).drew) bcs_one (by have := HLn.out; rw [bcs_length, List.length_append]; omega) ?_); intro v8 w8 ho8 hb8 hg8 hs8; have hP8 := hPq.drew.grownX hg8 (own_bk hoq3.drew hPq.drew (by decide)); have hu8 := Lec.Own.grown huq.drew hg8 (fun g hg => own_ne hoq3.drew huq.drew (by decide) g hg))
                  | (refine at_app (.tmp 94) (.tmp 96) ?_; refine step_app_rd (m := m.n2) rfl (.tmp 94) (.tmp 96) rfl slb (by decide) rfl ho8 hb8 hs8 rfl ((HMW.out.2.1.below (hb8.mono hwB0) (Nat.le_refl _)).more (by omega)) bcs_one (by have := HLn.out; have := Hl1.out; rw [List.length_append, bcs_length, bcs_length, List.length_append, List.length_drop]; omega) ?_; intro v9 w9 ho9 hb9 hg9 hs9; have hP9 := hP8.grownX hg9 (own_bk ho8 hP8 (by decide)); have hu9 := Lec.Own.grown hu8 hg9 (fun g hg => own_ne ho8 hu8 (by decide) g hg); rw [← HB9.out] at ho9; obtain ⟨A9, c9, rfl, hc9⟩ := ho9.shapeN (n := nb2) (by rw [bcs_length, Hnb2.out])))
              go_wp2_with (go_at_call 47; refine (c_blMust_ok true 2 _ rfl).mono ?_; rintro e w' ⟨rfl, rfl⟩)
              go_roundw
              case rel => exact ⟨k + 1, by omega, by go_num, ho9, hu9, hb9⟩
              case measure => simp [intOf]; omega
      · obtain rfl : k = N := by omega
        obtain ⟨pl, hpl⟩ : ∃ x, x = (plTo Lp every k).length := ⟨_, rfl⟩
        have hpln : pl ≤ 4000 := by rw [hpl]; have := plTo_len Lp every k; omega
        obtain ⟨M, hM⟩ : ∃ x, x = pl + 1 := ⟨_, rfl⟩
        obtain ⟨PS, hPS⟩ : ∃ x, x = plTo Lp every k ++ [pl] := ⟨_, rfl⟩
        have hPSl : PS.length = M := by rw [hPS, List.length_append, ← hpl, hM]; rfl
        have hPSs : ∀ x ∈ PS, x ≤ 24000 := by
          intro x hx
          rw [hPS] at hx
          rcases List.mem_append.1 hx with h | h
          · exact plTo_lt hf k (by rw [HLpl.out]; exact Nat.le_refl _) x h
          · rw [List.mem_singleton] at h; omega
        have HBLD := Lib.hid (show bld (L.map Pr.pl) every = bodyTo Lp every k ++ PS.flatMap (le 4) from by rw [← HLp.out, bld, HLpl.out, hPS, hpl])
        have HPS := Lib.hid (show ncs PS = ncs (plTo Lp every k) ++ [.int .i64 (pl : Int)] from by rw [hPS, ncs_app]; rfl)
        obtain ⟨nb, hnb⟩ : ∃ x, x = (bodyTo Lp every k).length := ⟨_, rfl⟩
        have hnbs : nb ≤ 24000 := by rw [hnb]; exact bodyTo_small hf (by rw [HLpl.out]; exact Nat.le_refl _)
        obtain ⟨Ap, cp, rfl, hcp⟩ := hu.shapeN (n := pl) (by rw [ncs_length, hpl])
        have Hnb := Lib.hid hnb
        have Hpl := Lib.hid hpl
        have HM := Lib.hid hM
        have HPSl := Lib.hid hPSl
        have hMs : M ≤ 4001 := by omega
        clear hpl hM hPS hPSl hnb
        go_wp2_with (at_builtin; (refine wpList_app_new (m := 1) rfl _ _ rfl sln rfl hu rfl (news := [.int .i64 (pl : Int)]) rfl (by intro u hu; rw [List.mem_singleton.1 hu]; rfl) (by have := Hpl.out; rw [ncs_length]; omega) (by decide) hzw ?_); intro v5 w5 ho5 hb5 hg5; rw [← HPS.out] at ho5; obtain ⟨A5, c5, rfl, hc5⟩ := ho5.shapeN (n := M) (by rw [ncs_length, HPSl.out]))
        have hov5 := Lec.Own.grown ho hg5 (fun g hg => own_ne hu ho (by decide) g hg)
        have hbe5 : Below B0 W w5 := hbe.trans hb5
        clear ho hu hbe hb5 hg5
        go_loopw [109, 5] (fun jj v wr => ∃ j : Nat, j ≤ M ∧ jj = .int .i64 (j : Int) ∧ Lec.Own wr B0 5 v (bcs (bodyTo Lp every k ++ (PS.take j).flatMap (le 4))) ∧ Lec.Own wr B0 3 (.slice A5 M c5) (ncs PS) ∧ Below B0 W wr) (fun jj _ _ => M - (intOf jj).toNat)
        case atStart => exact ⟨0, Nat.zero_le _, rfl, by simpa using hov5, ho5, hbe5⟩
        case round =>
          clear hov5 ho5 hbe5
          obtain ⟨j, hj, rfl, hob, hop, hbx⟩ := hrel
          obtain ⟨W6, hW6⟩ : ∃ x, x = wr := ⟨_, rfl⟩
          subst hW6
          have hz6 : B0 ≤ W6.heap.size := by have := hbx.size; have := HB0.out; omega
          by_cases hjM : j < M
          · obtain ⟨b5, o5, rfl, hb5, hcell5⟩ := (Lec.Own.rd hop).natAt hjM
            have hjl : j < PS.length := by rw [HPSl.out]; exact hjM
            have hcx := hcell5 W6 (Below.refl _ _) j PS[j] (List.getElem?_eq_getElem hjl)
            have hxs := hPSs _ (List.getElem_mem hjl)
            have HT := Lib.hid (List.take_succ_eq_append_getElem hjl)
            generalize PS[j] = x at hcx hxs HT
            have HFx := Lib.hid (c_Fixed W6 x (by omega))
            have hfl : ((PS.take j).flatMap (le 4)).length ≤ 16004 := by rw [flat_le_len, List.length_take]; have := HPSl.out; omega
            have hjI : (j : Int) < (M : Int) := by omega
            clear hcell5
            go_wp2_with (first | (go_at_call 52; refine HFx.out.mono ?_; rintro e w6 ⟨vx, rfl, hox, hbx6⟩; obtain ⟨Ax, cx, rfl, hcx⟩ := hox.shapeN (n := 4) (by rw [bcs_length, le_length]); have ho6 := hob.below hbx6 (Nat.le_refl _); have hr6 := Lec.Own.rd hox; have hb6 : Below B0 W w6 := hbx.trans (hbx6.mono hz6); have hz7 := hbx6.size; have hop6 := hop.below hbx6 (Nat.le_refl _)) | (at_builtin; (refine wpList_app_rd (m := 4) rfl _ _ rfl slb rfl ho6 rfl hr6 bcs_one (by have := Hnb.out; rw [bcs_length, List.length_append]; omega) (by decide) (by omega) ?_); intro v7 w7 ho7 hb7 hg7))
            go_roundw
            case rel => exact ⟨j + 1, by omega, by go_num, by rw [HT.out, bcs_snocF]; exact ho7, Lec.Own.grown hop6 hg7 (fun g hg => own_ne ho6 hop6 (by decide) g hg), hb6.trans hb7⟩
            case measure => simp [intOf]; omega
          · obtain rfl : j = M := by omega
            rw [List.take_of_length_le (by rw [HPSl.out]; exact Nat.le_refl _), ← HBLD.out] at hob
            obtain ⟨nT, hnT⟩ : ∃ x, x = (bld (L.map Pr.pl) every).length := ⟨_, rfl⟩
            have hnTs : nT ≤ 1048576 := by
              rw [hnT, HBLD.out, List.length_append, flat_le_len, HPSl.out, ← Hnb.out]
              omega
            have hnTi : decide ((nT : Int) ≤ 1048576) = true := decide_eq_true (by omega)
            obtain ⟨A9, c9, rfl, hc9⟩ := hob.shapeN (n := nT) (by rw [bcs_length, hnT])
            have HnT := Lib.hid hnT
            clear hnT
            go_wp2_with (go_at_call 47; refine (c_blMust_ok true 2 _ rfl).mono ?_; rintro e w' ⟨rfl, rfl⟩)
            have hK2 := (hbx.block D hDB).trans hK
            refine ⟨by simp, .inl ⟨_, _, rfl, run_takeDeferred hK2, ?_⟩⟩
            refine ⟨.slice A9 nT c9, ?_, _, rfl, ?_, ?_⟩
            · simp [results, Try.results30, go_sem]
            · exact (Lec.Own.grown (hob.mono hwB0) (grownBy_putObj' _ D (.deferred none)) (fun g hg e => by cases hg; have := (World.ownsRow.lt hob _ e).1; omega))
            · exact (hBW.trans (hbx.mono hwB0)).trans (belowK_b (w := w) (Nat.le_refl _) _ D _ _ (by omega) hK2 rfl rfl)
  case stop =>
    rintro D c' pre W hD _ h
    exact h.elim
end Go.Proofs.Ytjcifmbbdofjiaa
