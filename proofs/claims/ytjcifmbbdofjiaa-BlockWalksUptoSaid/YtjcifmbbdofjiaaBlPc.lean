/- Layer 20: the walk of BlockWalks. -/
import Derived.Test.YtjcifmbbdofjiaaBlPa
import Derived.Test.YtjcifmbbdofjiaaOpenI
namespace Go.Proofs.Ytjcifmbbdofjiaa
open Go.RowKit Go.Lec Go.Op
theorem bitsN_le : ∀ f m : Nat, bitsN f m ≤ f
  | 0, m => Nat.le_refl _
  | f + 1, m => by
    rw [bitsN]
    split
    · have := bitsN_le f (m / 2); omega
    · omega
/-- Rows below stay as they lay, where an iterator alone has turned. -/
theorem Prs.kbI {w w1 : World} {S : List Nat} {B n : Nat} {A : Option Addr} {L : List Pr} (h : Prs w B A n L) (hk : Kb S w w1) (hB : B ≤ w.heap.size) (hS : ∀ b ∈ S, B ≤ b) : Prs w1 B A n L :=
  h.below (hk.below hS hB) (Nat.le_refl _)
set_option maxRecDepth 100000 in
set_option maxHeartbeats 8000000 in
theorem w_BlockWalks (w : World) {B N c B2 n2 c2 : Nat} {A A2 : Option Addr} {L : List Pr} {ST : List Stp} (every : Int) (hp : Prs w B A N L) (hB : B ≤ w.heap.size) (hf : tot (L.map Pr.pl) ≤ 8796093022208)
    (hs : Els encStp w B2 A2 n2 ST) (hB2 : B2 ≤ w.heap.size) (hn2 : n2 ≤ 1099511627776) (hei : -9223372036854775808 ≤ every) (hei2 : every ≤ 9223372036854775807) :
    Calls Try.prog 5 #[.slice A N c, .int .i64 every, .slice A2 n2 c2] w fun e w' => e = .returned (.bool true) ∧ Below w.heap.size w w' := by
  have HA := Lib.hid (c_awake w)
  go_enter Try.func5, Try.ntmps5
  go_wp2_with fail
  refine HA.out.mono ?_
  rintro e w1 ⟨rfl, hb1⟩
  have HF := Lib.hid (c_few w1 (c := c) (hp.below hb1 hB) (Nat.le_trans hB hb1.size) hf)
  by_cases hfew : tot (L.map Pr.pl) ≤ 4000
  · rw [decide_eq_true hfew] at HF
    by_cases hst : n2 ≤ 200
    · have hsi : ¬ (200 : Int) < (n2 : Int) := by omega
      have hsd : decide ((200 : Int) < (n2 : Int)) = false := decide_eq_false hsi
      go_wp2_with (first | (go_at_call 9; refine HF.out.mono ?_; rintro e w2 ⟨rfl, hb2⟩; have hb02 := hb1.trans (hb2.mono hb1.size); have HBd := Lib.hid (c_rBuild w2 (c := c) every (hp.below hb02 hB) (Nat.le_trans hB hb02.size) (by omega) hei hei2)))
      refine HBd.out.mono ?_
      rintro e w3 ⟨err, b, Ab, cb, hRB, rfl, hcb, hRb, _, hb3⟩
      have hb03 := hb02.trans (hb3.mono hb02.size)
      clear HBd HF HA hb1 hb2 hb02 hsi hsd
      cases hRB with
      | range h => go_wp2; go_ret; exact ⟨rfl, hb03⟩
      | rise h1 h2 h3 => go_wp2; go_ret; exact ⟨rfl, hb03⟩
      | long h1 h2 h3 h4 => go_wp2; go_ret; exact ⟨rfl, hb03⟩
      | ok h1 h2 hri h4 =>
        obtain ⟨ev, rfl⟩ : ∃ ev : Nat, every = (ev : Int) := ⟨every.toNat, by omega⟩
        rw [Int.toNat_natCast] at h4 hcb hRb ⊢
        obtain ⟨Lp, hLp⟩ : ∃ l, l = L.map Pr.pl := ⟨_, rfl⟩
        have hLpl : Lp.length = N := by rw [hLp, List.length_map, hp.len]
        rw [← hLp] at hfew hri h4 hcb hRb ⊢
        have hNf := tot_len Lp
        rw [hLpl] at hNf
        have he1 : 1 ≤ ev := by omega
        have he2 : ev ≤ 1024 := by omega
        have hck := ck_bld (every := ev) hri hfew he1 he2
        have hev := evOf_of Lp he1
        rw [hLpl] at hck hev
        have HX0 : ∀ X : List Ex, X.map Ex.en = ens Lp ev → X.length = N := fun X h => by
          have := congrArg List.length h
          rw [List.length_map, ens_len, hLpl] at this
          exact this
        have HN := Lib.hid ((c_New w3 (c := cb) hRb hcb (Nat.le_refl _) (by omega)).mono (R' := fun e w' => ∃ it L0 A3 c3 X, e = .returned (.tuple #[.pointer (some ⟨it, 0, none⟩), .int .i64 0]) ∧ Itr w' it L0 A3 N c3 X (evB N ev) (-1) 0 ∧ w3.heap.size ≤ it ∧ X.map Ex.en = ens Lp ev ∧ Below w3.heap.size w3 w') (by
          rintro e w' (⟨l, ps, it, L0, A3, n3, c3, X, hu, rfl, hI, hit, hX, hb⟩ | ⟨err, hu, _⟩)
          · rw [hck] at hu
            cases hu
            have h5 := HX0 X hX
            have h6 := hI.els.2.1
            rw [h5] at h6
            subst h6
            rw [hev] at hI
            exact ⟨it, L0, A3, c3, X, rfl, hI, hit, hX, hb⟩
          · rw [hck] at hu
            cases hu))
        have HLp := Lib.hid hLp
        have HLpl := Lib.hid hLpl
        have Hri := Lib.hid hri
        have hevp := evB_pos (n := N) he1
        have hevl := evB_le (n := N) he1
        obtain ⟨rs, hrs⟩ : ∃ x, x = (N + ev - 1) / ev := ⟨_, rfl⟩
        have hdi : ((N : Int) + (ev : Int) - 1) / (ev : Int) = (rs : Int) := by
          have : ((N + ev - 1 : Nat) : Int) = (N : Int) + (ev : Int) - 1 := by omega
          rw [← this, ← Int.natCast_ediv, hrs]
        have hrsl : rs ≤ N := by rw [hrs]; exact many_le he1
        have hev0 : ((ev : Int) == 0) = false := by rw [beq_eq_false_iff_ne]; omega
        have Hrs := Lib.hid hrs
        clear hck hev HX0 hRb hcb hLp hLpl hri h4 hrs h1 h2
        go_wp2_with fail
        refine HN.out.mono ?_
        rintro e w4 ⟨it, L0, A3, c3, X, rfl, hI, hit, hX, hb4⟩
        have HX := Lib.hid hX
        obtain ⟨ve, hve⟩ : ∃ x, x = evB N ev := ⟨_, rfl⟩
        rw [← hve] at hI hevp hevl
        have Hve := Lib.hid hve
        clear hX HN hve
        go_wp2
        rw [hdi]
        clear hdi
        have hbb4 : Below w3.heap.size w3 w4 := hb4
        have hz4 := hb4.size
        go_loopw [58, 12] (fun i at_ wr => ∃ (k : Nat) (p lk : Int), k ≤ n2 ∧ i = .int .i64 (k : Int) ∧ at_ = .int .i64 p ∧ -1 ≤ p ∧ p ≤ (N : Int) ∧ 0 ≤ lk ∧ lk ≤ 16000 * (k : Int) ∧ Itr wr it L0 A3 N c3 X ve p lk ∧ Below w3.heap.size w3 wr) (fun i _ _ => n2 - (intOf i).toNat)
        case atStart => exact ⟨0, -1, 0, Nat.zero_le _, rfl, rfl, by omega, by omega, by omega, by omega, hI, hbb4⟩
        case round =>
          clear hI hbb4 hb4
          obtain ⟨i, p, lk, hi, rfl, rfl, hp1, hp2, hlk0, hlk1, hI, hb5⟩ := hrel
          obtain ⟨W0, hW0⟩ : ∃ x, x = wr := ⟨_, rfl⟩
          subst hW0
          by_cases hlt : i < n2
          · have hii : (i : Int) < (n2 : Int) := by omega
            have hbw0 := hb03.trans (hb5.mono hb03.size)
            obtain ⟨bs, os, ms, rfl, hbs, _, _, hmsok, hcs⟩ := hs.at hlt
            have c0 := hcs W0 (hbw0.mono hB2) 0 _ rfl
            have c1 := hcs W0 (hbw0.mono hB2) 1 _ rfl
            rw [show encStp.k = 2 from rfl] at c0 c1
            rw [Nat.add_zero] at c0
            obtain ⟨hkr, hkc, hkn0⟩ := stp_ok hmsok
            have hPs := Bk.new_ W0 52 #[.int .i64 ms.kd, .slice ms.A ms.n ms.c]
            have hbA := (Below.refl W0.heap.size W0).alloc (Nat.le_refl _) (.cells #[.int .i64 ms.kd, .slice ms.A ms.n ms.c] 52)
            have hI1 := hI.below hbA
            have hbx1 := hb5.trans (hbA.mono hb5.size)
            have hkr1 := hkr.below ((hbw0.trans (hbA.mono hbw0.size)).mono hB2) (Nat.le_refl _)
            have lbs : bs < W0.heap.size := by have := hbw0.size; omega
            obtain ⟨W1, hW1⟩ : ∃ x, x = W0.alloc (.cells #[.int .i64 ms.kd, .slice ms.A ms.n ms.c] 52) := ⟨_, rfl⟩
            have HLk0 := Lib.hid (c_Looked _ hI1)
            rw [← hW1] at hPs hI1 hbx1 hkr1 HLk0
            obtain ⟨ps, hps⟩ : ∃ x, x = W0.heap.size := ⟨_, rfl⟩
            have HitS := Lib.hid (show it < ps from by rw [hps]; exact hI.bk.lt)
            rw [← hps] at hPs
            have q0 := hPs.cell 0
            have q1 := hPs.cell 1
            have hzb := hbx1.size
            have HW1 := Lib.hid hW1
            have Hps := Lib.hid hps
            have HKR := Lib.hid hkr
            have hKB : ∀ W', Kb [it] W1 W' → Below w3.heap.size w3 W' := fun W' hk => hbx1.trans (hk.below (B := w3.heap.size) (by intro b hb; simp only [List.mem_singleton] at hb; subst hb; exact hit) hzb)
            have HKB := Lib.hid hKB
            clear hI hb5 hbA hmsok hcs hkr hW1 hps hKB
            have hits : it < ps := HitS.out
            go_upto_region 16 with fail
            rw [← Hps.out, ← HW1.out]
            by_cases hk0 : ms.kd = 0
            · have hk0i : (ms.kd == 0) = true := by rw [hk0]; rfl
              have HM := Lib.hid (c_First W1 hI1 hlk0 (by omega))
              clear hk0
              go_wp2_with (first | (go_at_call 20; refine HLk0.out.mono ?_; rintro e w' ⟨rfl, hww⟩; obtain rfl := hww.symm))
              refine HM.out.mono ?_
              rintro e w5 ⟨rfl, hI2, hk5⟩
              have hb5 := HKB.out w5 hk5
              obtain ⟨lk2, hlk2⟩ : ∃ x, x = (if 0 < N then lk + 1 else lk) := ⟨_, rfl⟩
              rw [← hlk2] at hI2
              have hl2 : lk ≤ lk2 ∧ lk2 ≤ lk + 1 := by rw [hlk2]; split <;> omega
              clear hlk2 HM HLk0
              by_cases hkn : 0 < N
              · skip
                have HLk := Lib.hid (c_Looked w5 hI2)
                have HP := Lib.hid (c_Pair w5 hI2)
                have hmo : ¬ (1 : Int) < lk2 - lk := by omega
                have hwr : IntKind.i64.wrap (lk2 - lk) = lk2 - lk := IntWalk.i64_in _ (by omega)
                have hz5 := hb5.size
                have hbw5 := hb03.trans (hb5.mono hb03.size)
                have d1 : decide (0 < N) = true := decide_eq_true hkn
                have d2 : (0 : Int) < (N : Int) := by omega
                have d3 : (0 : Int) ≤ (0 : Int) := by omega
                obtain ⟨b, o, ml, rfl, hbB, hmk, _, hmok, hcell⟩ := hp.cell2 hkn
                have hkl : Lp[0]? = some ml.pl := by rw [HLp.out, List.getElem?_map, hmk]; rfl
                have HKy := Lib.hid (show keyAt Lp 0 = ml.key from keyAt_of hkl)
                have HVl := Lib.hid (show valAt Lp 0 = ml.vl from valAt_of hkl)
                have HXk := Lib.hid (show (X.map Ex.en)[((0 : Nat) : Int).toNat]? = some (enB Lp ev 0) from by rw [HX.out, Int.toNat_natCast]; exact ens_get (by rw [HLpl.out]; exact hkn))
                clear hmk hkl
                rw [d1]
                go_wp2_with (first | (go_at_call 20; refine HLk.out.mono ?_; rintro e w' ⟨rfl, hww⟩; obtain rfl := hww.symm) | (go_at_call 26; (with_reducible refine HP.out.mono ?_); rintro e w6 hP6; obtain ⟨m, hmp, rfl, hmo6, hb6⟩ : ∃ m : Pr, m.pl = (ml.key, ml.vl) ∧ e = .returned (.tuple #[.agg #[.slice m.A1 m.n1 m.c1, .slice m.A2 m.n2 m.c2], .bool true]) ∧ m.ok w6 w6.heap.size ∧ Below w5.heap.size w5 w6 := (by
                    rcases hP6 with ⟨x, _, hx, u, rfl, m, rfl, h1, _, h3, _, _, h4⟩ | ⟨h1, _⟩
                    · rw [HXk.out] at hx
                      cases hx
                      exact ⟨m, by rw [h3]; show (keyAt Lp 0, valAt Lp 0) = _; rw [HKy.out, HVl.out], rfl, h1, h4⟩
                    · exact absurd ⟨by omega, by rw [HX.out, ens_len, HLpl.out]; omega⟩ h1)))
                have hmk1 : m.key = ml.key := congrArg Prod.fst hmp
                have hmv1 : m.vl = ml.vl := congrArg Prod.snd hmp
                have hPb := Bk.new_ w6 35 #[.slice m.A1 m.n1 m.c1, .slice m.A2 m.n2 m.c2]
                have hb7 := (Below.refl w6.heap.size w6).alloc (Nat.le_refl _) (.cells #[.slice m.A1 m.n1 m.c1, .slice m.A2 m.n2 m.c2] 35)
                have hb57 := hb6.trans (hb7.mono hb6.size)
                have hbw7 := hbw5.trans (hb57.mono hbw5.size)
                have hb37 := hb5.trans (hb57.mono hz5)
                obtain ⟨e0, e1⟩ := hcell _ (hbw7.mono hB)
                simp only [Nat.zero_mul, Nat.add_zero] at e0 e1
                have hI7 := hI2.below hb57
                have hm7 := hmo6.below hb7 (Nat.le_refl _)
                have hl7 := hmok.below (hbw7.mono hB) (Nat.le_refl _)
                obtain ⟨W7, hW7⟩ : ∃ x, x = w6.alloc (.cells #[.slice m.A1 m.n1 m.c1, .slice m.A2 m.n2 m.c2] 35) := ⟨_, rfl⟩
                rw [← hW7] at hPb hb37 e0 e1 hI7 hm7 hl7 ⊢
                have p0 := hPb.cell 0
                have p1 := hPb.cell 1
                have hm71 := hm7.1
                have hm72 := hm7.2.1
                rw [hmk1] at hm71
                rw [hmv1] at hm72
                have s1 : ∀ q, (convert 25 9 (.slice m.A1 m.n1 m.c1)).run Try.prog (W7.drewN q) = .ok (.string ⟨ml.key.toArray⟩) (W7.drewN q) := fun q => run_str (P := Try.prog) Try.underlying25 Try.underlying5 Try.underlying9 (c := m.c1) (hm71.drewN q)
                have s2 : ∀ q, (convert 25 9 (.slice m.A2 m.n2 m.c2)).run Try.prog (W7.drewN q) = .ok (.string ⟨ml.vl.toArray⟩) (W7.drewN q) := fun q => run_str (P := Try.prog) Try.underlying25 Try.underlying5 Try.underlying9 (c := m.c2) (hm72.drewN q)
                have s3 : ∀ q, (convert 25 9 (.slice ml.A1 ml.n1 ml.c1)).run Try.prog (W7.drewN q) = .ok (.string ⟨ml.key.toArray⟩) (W7.drewN q) := fun q => run_str (P := Try.prog) Try.underlying25 Try.underlying5 Try.underlying9 (c := ml.c1) (hl7.1.drewN q)
                have s4 : ∀ q, (convert 25 9 (.slice ml.A2 ml.n2 ml.c2)).run Try.prog (W7.drewN q) = .ok (.string ⟨ml.vl.toArray⟩) (W7.drewN q) := fun q => run_str (P := Try.prog) Try.underlying25 Try.underlying5 Try.underlying9 (c := ml.c2) (hl7.2.1.drewN q)
                clear hmp hmk1 hmv1 hW7 hm7 hl7 hm71 hm72 hmo6 hmok hcell hb6 hb7 hbw7 hP6
                go_quiet (fail)
                go_wp2
                go_roundw
                case rel => exact ⟨i + 1, _, lk2, by omega, by go_num, rfl, by omega, by omega, by omega, by push_cast; omega, hI7.kb (S := []) ((Kb.refl _ _).drewN nq) (fun b hb => by cases hb), belowN hb37 nq⟩
                case measure => simp [intOf]; omega
              · skip
                have HLk := Lib.hid (c_Looked w5 hI2)
                have HP := Lib.hid (c_Pair w5 hI2)
                have hmo : ¬ (1 : Int) < lk2 - lk := by omega
                have hwr : IntKind.i64.wrap (lk2 - lk) = lk2 - lk := IntWalk.i64_in _ (by omega)
                have hz5 := hb5.size
                have hbw5 := hb03.trans (hb5.mono hb03.size)
                have d1 : decide (0 < N) = false := decide_eq_false hkn
                have d2 : ¬ (0 : Int) < (N : Int) := by omega
                have d3 : (0 : Int) ≤ (0 : Int) := by omega
                have d4 : decide ((0 : Int) < (N : Int)) = false := decide_eq_false d2
                rw [d1]
                go_wp2_with (first | (go_at_call 20; refine HLk.out.mono ?_; rintro e w' ⟨rfl, hww⟩; obtain rfl := hww.symm) | (go_at_call 26; (with_reducible refine HP.out.mono ?_); rintro e w6 hP6; obtain ⟨rfl, hb6⟩ : e = .returned (.tuple #[.agg #[.slice none 0 0, .slice none 0 0], .bool false]) ∧ Below w5.heap.size w5 w6 := (by
                    rcases hP6 with ⟨x, _, hx, _⟩ | ⟨_, rfl, h4⟩
                    · have h5 := (List.getElem?_eq_some_iff.1 hx).1
                      rw [HX.out, ens_len, HLpl.out, Int.toNat_natCast] at h5
                      exact absurd h5 hkn
                    · exact ⟨rfl, h4⟩)))
                have hb7 := (Below.refl w6.heap.size w6).alloc (Nat.le_refl _) (.cells #[.slice none 0 0, .slice none 0 0] 35)
                have hb57 := hb6.trans (hb7.mono hb6.size)
                have hb37 := hb5.trans (hb57.mono hz5)
                have hI7 := hI2.below hb57
                go_quiet (fail)
                go_wp2
                go_roundw
                case rel => exact ⟨i + 1, _, lk2, by omega, by go_num, rfl, by omega, by omega, by omega, by push_cast; omega, hI7.kb (S := []) ((Kb.refl _ _).drewN nq) (fun b hb => by cases hb), belowN hb37 nq⟩
                case measure => simp [intOf]; omega
            · have hk0i : (ms.kd == 0) = false := by rw [beq_eq_false_iff_ne]; exact hk0
              by_cases hk1 : ms.kd = 1
              · have hk1i : (ms.kd == 1) = true := by rw [hk1]; rfl
                have HM0 := c_Next W1 hI1 hlk0 (by omega) hp1 hp2
                clear hk0 hk1
                by_cases hpN : p < (N : Int)
                · obtain ⟨k2, hk2⟩ : ∃ k2 : Nat, p + 1 = (k2 : Int) := ⟨(p + 1).toNat, by omega⟩
                  have hnx : nxt N p = k2 := by rw [nxt, if_neg (by omega)]; omega
                  rw [hnx] at HM0
                  have HM := Lib.hid HM0
                  have hwp : IntKind.i64.wrap (p + 1) = (k2 : Int) := by rw [hk2]; exact IntWalk.i64_in _ (by omega)
                  clear hnx HM0
                  go_wp2_with (first | (go_at_call 20; refine HLk0.out.mono ?_; rintro e w' ⟨rfl, hww⟩; obtain rfl := hww.symm))
                  refine HM.out.mono ?_
                  rintro e w5 ⟨rfl, hI2, hk5⟩
                  have hb5 := HKB.out w5 hk5
                  obtain ⟨lk2, hlk2⟩ : ∃ x, x = (if p + 1 < (N : Int) then lk + 1 else lk) := ⟨_, rfl⟩
                  rw [← hlk2] at hI2
                  have hl2 : lk ≤ lk2 ∧ lk2 ≤ lk + 1 := by rw [hlk2]; split <;> omega
                  clear hlk2 HM HLk0
                  by_cases hkn : k2 < N
                  · skip
                    have HLk := Lib.hid (c_Looked w5 hI2)
                    have HP := Lib.hid (c_Pair w5 hI2)
                    have hmo : ¬ (1 : Int) < lk2 - lk := by omega
                    have hwr : IntKind.i64.wrap (lk2 - lk) = lk2 - lk := IntWalk.i64_in _ (by omega)
                    have hz5 := hb5.size
                    have hbw5 := hb03.trans (hb5.mono hb03.size)
                    have d1 : decide (k2 < N) = true := decide_eq_true hkn
                    have d2 : ((k2 : Int) : Int) < (N : Int) := by omega
                    have d3 : (0 : Int) ≤ ((k2 : Int) : Int) := by omega
                    obtain ⟨b, o, ml, rfl, hbB, hmk, _, hmok, hcell⟩ := hp.cell2 hkn
                    have hkl : Lp[k2]? = some ml.pl := by rw [HLp.out, List.getElem?_map, hmk]; rfl
                    have HKy := Lib.hid (show keyAt Lp k2 = ml.key from keyAt_of hkl)
                    have HVl := Lib.hid (show valAt Lp k2 = ml.vl from valAt_of hkl)
                    have HXk := Lib.hid (show (X.map Ex.en)[((k2 : Nat) : Int).toNat]? = some (enB Lp ev k2) from by rw [HX.out, Int.toNat_natCast]; exact ens_get (by rw [HLpl.out]; exact hkn))
                    clear hmk hkl
                    rw [d1]
                    go_wp2_with (first | (go_at_call 20; refine HLk.out.mono ?_; rintro e w' ⟨rfl, hww⟩; obtain rfl := hww.symm) | (go_at_call 26; (with_reducible refine HP.out.mono ?_); rintro e w6 hP6; obtain ⟨m, hmp, rfl, hmo6, hb6⟩ : ∃ m : Pr, m.pl = (ml.key, ml.vl) ∧ e = .returned (.tuple #[.agg #[.slice m.A1 m.n1 m.c1, .slice m.A2 m.n2 m.c2], .bool true]) ∧ m.ok w6 w6.heap.size ∧ Below w5.heap.size w5 w6 := (by
                        rcases hP6 with ⟨x, _, hx, u, rfl, m, rfl, h1, _, h3, _, _, h4⟩ | ⟨h1, _⟩
                        · rw [HXk.out] at hx
                          cases hx
                          exact ⟨m, by rw [h3]; show (keyAt Lp k2, valAt Lp k2) = _; rw [HKy.out, HVl.out], rfl, h1, h4⟩
                        · exact absurd ⟨by omega, by rw [HX.out, ens_len, HLpl.out]; omega⟩ h1)))
                    have hmk1 : m.key = ml.key := congrArg Prod.fst hmp
                    have hmv1 : m.vl = ml.vl := congrArg Prod.snd hmp
                    have hPb := Bk.new_ w6 35 #[.slice m.A1 m.n1 m.c1, .slice m.A2 m.n2 m.c2]
                    have hb7 := (Below.refl w6.heap.size w6).alloc (Nat.le_refl _) (.cells #[.slice m.A1 m.n1 m.c1, .slice m.A2 m.n2 m.c2] 35)
                    have hb57 := hb6.trans (hb7.mono hb6.size)
                    have hbw7 := hbw5.trans (hb57.mono hbw5.size)
                    have hb37 := hb5.trans (hb57.mono hz5)
                    obtain ⟨e0, e1⟩ := hcell _ (hbw7.mono hB)
                    skip
                    have hI7 := hI2.below hb57
                    have hm7 := hmo6.below hb7 (Nat.le_refl _)
                    have hl7 := hmok.below (hbw7.mono hB) (Nat.le_refl _)
                    obtain ⟨W7, hW7⟩ : ∃ x, x = w6.alloc (.cells #[.slice m.A1 m.n1 m.c1, .slice m.A2 m.n2 m.c2] 35) := ⟨_, rfl⟩
                    rw [← hW7] at hPb hb37 e0 e1 hI7 hm7 hl7 ⊢
                    have p0 := hPb.cell 0
                    have p1 := hPb.cell 1
                    have hm71 := hm7.1
                    have hm72 := hm7.2.1
                    rw [hmk1] at hm71
                    rw [hmv1] at hm72
                    have s1 : ∀ q, (convert 25 9 (.slice m.A1 m.n1 m.c1)).run Try.prog (W7.drewN q) = .ok (.string ⟨ml.key.toArray⟩) (W7.drewN q) := fun q => run_str (P := Try.prog) Try.underlying25 Try.underlying5 Try.underlying9 (c := m.c1) (hm71.drewN q)
                    have s2 : ∀ q, (convert 25 9 (.slice m.A2 m.n2 m.c2)).run Try.prog (W7.drewN q) = .ok (.string ⟨ml.vl.toArray⟩) (W7.drewN q) := fun q => run_str (P := Try.prog) Try.underlying25 Try.underlying5 Try.underlying9 (c := m.c2) (hm72.drewN q)
                    have s3 : ∀ q, (convert 25 9 (.slice ml.A1 ml.n1 ml.c1)).run Try.prog (W7.drewN q) = .ok (.string ⟨ml.key.toArray⟩) (W7.drewN q) := fun q => run_str (P := Try.prog) Try.underlying25 Try.underlying5 Try.underlying9 (c := ml.c1) (hl7.1.drewN q)
                    have s4 : ∀ q, (convert 25 9 (.slice ml.A2 ml.n2 ml.c2)).run Try.prog (W7.drewN q) = .ok (.string ⟨ml.vl.toArray⟩) (W7.drewN q) := fun q => run_str (P := Try.prog) Try.underlying25 Try.underlying5 Try.underlying9 (c := ml.c2) (hl7.2.1.drewN q)
                    clear hmp hmk1 hmv1 hW7 hm7 hl7 hm71 hm72 hmo6 hmok hcell hb6 hb7 hbw7 hP6
                    go_quiet (fail)
                    go_wp2
                    go_roundw
                    case rel => exact ⟨i + 1, _, lk2, by omega, by go_num, rfl, by omega, by omega, by omega, by push_cast; omega, hI7.kb (S := []) ((Kb.refl _ _).drewN nq) (fun b hb => by cases hb), belowN hb37 nq⟩
                    case measure => simp [intOf]; omega
                  · skip
                    have HLk := Lib.hid (c_Looked w5 hI2)
                    have HP := Lib.hid (c_Pair w5 hI2)
                    have hmo : ¬ (1 : Int) < lk2 - lk := by omega
                    have hwr : IntKind.i64.wrap (lk2 - lk) = lk2 - lk := IntWalk.i64_in _ (by omega)
                    have hz5 := hb5.size
                    have hbw5 := hb03.trans (hb5.mono hb03.size)
                    have d1 : decide (k2 < N) = false := decide_eq_false hkn
                    have d2 : ¬ ((k2 : Int) : Int) < (N : Int) := by omega
                    have d3 : (0 : Int) ≤ ((k2 : Int) : Int) := by omega
                    have d4 : decide (((k2 : Int) : Int) < (N : Int)) = false := decide_eq_false d2
                    rw [d1]
                    go_wp2_with (first | (go_at_call 20; refine HLk.out.mono ?_; rintro e w' ⟨rfl, hww⟩; obtain rfl := hww.symm) | (go_at_call 26; (with_reducible refine HP.out.mono ?_); rintro e w6 hP6; obtain ⟨rfl, hb6⟩ : e = .returned (.tuple #[.agg #[.slice none 0 0, .slice none 0 0], .bool false]) ∧ Below w5.heap.size w5 w6 := (by
                        rcases hP6 with ⟨x, _, hx, _⟩ | ⟨_, rfl, h4⟩
                        · have h5 := (List.getElem?_eq_some_iff.1 hx).1
                          rw [HX.out, ens_len, HLpl.out, Int.toNat_natCast] at h5
                          exact absurd h5 hkn
                        · exact ⟨rfl, h4⟩)))
                    have hb7 := (Below.refl w6.heap.size w6).alloc (Nat.le_refl _) (.cells #[.slice none 0 0, .slice none 0 0] 35)
                    have hb57 := hb6.trans (hb7.mono hb6.size)
                    have hb37 := hb5.trans (hb57.mono hz5)
                    have hI7 := hI2.below hb57
                    go_quiet (fail)
                    go_wp2
                    go_roundw
                    case rel => exact ⟨i + 1, _, lk2, by omega, by go_num, rfl, by omega, by omega, by omega, by push_cast; omega, hI7.kb (S := []) ((Kb.refl _ _).drewN nq) (fun b hb => by cases hb), belowN hb37 nq⟩
                    case measure => simp [intOf]; omega
                · have hpe : p = (N : Int) := by omega
                  subst hpe
                  have hnx : nxt N (N : Int) = N := by simp [nxt]
                  rw [hnx] at HM0
                  have HM := Lib.hid HM0
                  have hNN : ¬ (N : Int) < (N : Int) := by omega
                  clear hnx HM0
                  go_wp2_with (first | (go_at_call 20; refine HLk0.out.mono ?_; rintro e w' ⟨rfl, hww⟩; obtain rfl := hww.symm))
                  refine HM.out.mono ?_
                  rintro e w5 ⟨rfl, hI2, hk5⟩
                  have hb5 := HKB.out w5 hk5
                  obtain ⟨lk2, hlk2⟩ : ∃ x, x = (if (N : Int) + 1 < (N : Int) then lk + 1 else lk) := ⟨_, rfl⟩
                  rw [← hlk2] at hI2
                  have hl2 : lk ≤ lk2 ∧ lk2 ≤ lk + 1 := by rw [hlk2]; split <;> omega
                  clear hlk2 HM HLk0
                  have hkn : ¬ N < N := by omega
                  have HLk := Lib.hid (c_Looked w5 hI2)
                  have HP := Lib.hid (c_Pair w5 hI2)
                  have hmo : ¬ (1 : Int) < lk2 - lk := by omega
                  have hwr : IntKind.i64.wrap (lk2 - lk) = lk2 - lk := IntWalk.i64_in _ (by omega)
                  have hz5 := hb5.size
                  have hbw5 := hb03.trans (hb5.mono hb03.size)
                  have d1 : decide (N < N) = false := decide_eq_false hkn
                  have d2 : ¬ ((N : Int) : Int) < (N : Int) := by omega
                  have d3 : (0 : Int) ≤ ((N : Int) : Int) := by omega
                  have d4 : decide (((N : Int) : Int) < (N : Int)) = false := decide_eq_false d2
                  rw [d1]
                  go_wp2_with (first | (go_at_call 20; refine HLk.out.mono ?_; rintro e w' ⟨rfl, hww⟩; obtain rfl := hww.symm) | (go_at_call 26; (with_reducible refine HP.out.mono ?_); rintro e w6 hP6; obtain ⟨rfl, hb6⟩ : e = .returned (.tuple #[.agg #[.slice none 0 0, .slice none 0 0], .bool false]) ∧ Below w5.heap.size w5 w6 := (by
                      rcases hP6 with ⟨x, _, hx, _⟩ | ⟨_, rfl, h4⟩
                      · have h5 := (List.getElem?_eq_some_iff.1 hx).1
                        rw [HX.out, ens_len, HLpl.out, Int.toNat_natCast] at h5
                        exact absurd h5 hkn
                      · exact ⟨rfl, h4⟩)))
                  have hb7 := (Below.refl w6.heap.size w6).alloc (Nat.le_refl _) (.cells #[.slice none 0 0, .slice none 0 0] 35)
                  have hb57 := hb6.trans (hb7.mono hb6.size)
                  have hb37 := hb5.trans (hb57.mono hz5)
                  have hI7 := hI2.below hb57
                  go_quiet (fail)
                  go_wp2
                  go_roundw
                  case rel => exact ⟨i + 1, _, lk2, by omega, by go_num, rfl, by omega, by omega, by omega, by push_cast; omega, hI7.kb (S := []) ((Kb.refl _ _).drewN nq) (fun b hb => by cases hb), belowN hb37 nq⟩
                  case measure => simp [intOf]; omega
              · have hk1i : (ms.kd == 1) = false := by rw [beq_eq_false_iff_ne]; exact hk1
                have hfl := find_of (e := ev) Hri.out ms.key ve hevp
                have hlo := look_of (l := Lp) ms.key he1
                have hcn := findF_cnt (ens Lp ev) ve ms.key hevp
                have hfle := findL_le Lp ms.key
                rw [ens_len, HLpl.out] at hcn
                rw [HLpl.out] at hlo hfle
                rw [← Hve.out, ← Hrs.out] at hlo
                obtain ⟨fl, hfle2⟩ : ∃ x, x = findL Lp ms.key := ⟨_, rfl⟩
                obtain ⟨ls, hls⟩ : ∃ x, x = (findF (ens Lp ev) ve ms.key).2 := ⟨_, rfl⟩
                rw [← hfle2] at hfl hfle
                rw [← hls] at hlo hcn
                have hkit : 0 < ms.n → ∀ a, ms.A = some a → a.block ∉ [it] := fun h a ha hm => by
                  obtain ⟨b', o', e', hb', _⟩ := HKR.out.2 h
                  rw [ha] at e'
                  cases e'
                  simp only [List.mem_singleton] at hm
                  have := hb03.size
                  omega
                have hSk := c_Seek W1.drew (ck := ms.c) (hI1.kb (S := []) (Kb.refl _ _).drew (fun b hb => by cases hb)) (by omega) hevp hkr1.drew (show B2 ≤ W1.drew.heap.size from by show B2 ≤ W1.heap.size; have := hb03.size; omega) hkit hlk0 (by omega)
                rw [HX.out, hfl, ← hls, Nat.min_eq_left hfle] at hSk
                have HSk := Lib.hid hSk
                have HFd := Lib.hid (fun (W' : World) (h : Below w3.heap.size w3 W') => c_rFind W' (c := c) (c2 := ms.c) (hp.below ((hb03.trans (h.mono hb03.size)).mono hB) (Nat.le_refl _)) (by have := h.size; have := hb03.size; omega) (HKR.out.below ((hb03.trans (h.mono hb03.size)).mono hB2) (Nat.le_refl _)) (by have := h.size; have := hb03.size; omega) (by omega))
                rw [← HLp.out, ← hfle2] at HFd
                obtain ⟨bt, hbt⟩ : ∃ x, x = bitsN rs rs := ⟨_, rfl⟩
                have HBt := Lib.hid (fun W' : World => c_bits W' rs (by omega))
                have hbtl : bt ≤ 5000 := by have := bitsN_le rs rs; rw [← hbt] at this; omega
                rw [← hbt] at HBt hlo
                have HC1 := Lib.hid (fun (W' : World) (hk : Kb [it] W1 W') => (hk.cell (p := ⟨ps, 1, none⟩) hPs.lt (by simp only [List.mem_singleton]; omega)).trans q1)
                clear hk0 hk1 hfl hls hSk hfle2 hbt hkit
                go_wp2_with (first | (go_at_call 20; refine HLk0.out.mono ?_; rintro e w' ⟨rfl, hww⟩; obtain rfl := hww.symm))
                go_region_held3 (fun W' => W'.cell? ⟨ps, 1, none⟩ = some (.slice ms.A ms.n ms.c))
                  ((refine HC1.out _ ?_; first | exact (Kb.refl _ _).drew | exact hks | exact hkf))
                  (first | (go_at_call 23; (with_reducible refine HSk.out.mono ?_); rintro e x1 ⟨rfl, hIs, hks0⟩; have hks := (Kb.refl [it] W1).drew.trans hks0 (fun b hb => Or.inl hb))
                         | (go_at_call 24; (with_reducible refine (HFd.out _ (HKB.out _ hks)).mono ?_); rintro e x2 ⟨rfl, hbf⟩; have hkf := hks.trans (Kb.of_below (S := []) hbf) (fun b hb => by cases hb)))
                go_wp2_with (first | (go_at_call 25; (with_reducible refine (HBt.out _).mono ?_); rintro e w5 ⟨rfl, hbt5⟩))
                have hk5 := hkf.trans (Kb.of_below (S := []) hbt5) (fun b hb => by cases hb)
                have hb5 := HKB.out w5 hk5
                have hI2' := (hIs.below hbf).below hbt5
                obtain ⟨lk2, hlk2⟩ : ∃ x, x = lk + (ls : Int) := ⟨_, rfl⟩
                have hI2 : Itr w5 it L0 A3 N c3 X ve ((fl : Nat) : Int) lk2 := by rw [hlk2]; exact hI2'
                have hl2 : lk ≤ lk2 ∧ lk2 ≤ lk + 8000 ∧ lk2 - lk ≤ (bt : Int) + (ev : Int) := by rw [hlk2]; omega
                clear hlk2 HLk0 hI2' hIs HSk HFd HBt
                by_cases hkn : fl < N
                · skip
                  have HLk := Lib.hid (c_Looked w5 hI2)
                  have HP := Lib.hid (c_Pair w5 hI2)
                  have hmo : ¬ (((bt : Int) + (ev : Int)) : Int) < lk2 - lk := by omega
                  have hwr : IntKind.i64.wrap (lk2 - lk) = lk2 - lk := IntWalk.i64_in _ (by omega)
                  have hz5 := hb5.size
                  have hbw5 := hb03.trans (hb5.mono hb03.size)
                  have d1 : decide (fl < N) = true := decide_eq_true hkn
                  have d2 : ((fl : Int) : Int) < (N : Int) := by omega
                  have d3 : (0 : Int) ≤ ((fl : Int) : Int) := by omega
                  obtain ⟨b, o, ml, rfl, hbB, hmk, _, hmok, hcell⟩ := hp.cell2 hkn
                  have hkl : Lp[fl]? = some ml.pl := by rw [HLp.out, List.getElem?_map, hmk]; rfl
                  have HKy := Lib.hid (show keyAt Lp fl = ml.key from keyAt_of hkl)
                  have HVl := Lib.hid (show valAt Lp fl = ml.vl from valAt_of hkl)
                  have HXk := Lib.hid (show (X.map Ex.en)[((fl : Nat) : Int).toNat]? = some (enB Lp ev fl) from by rw [HX.out, Int.toNat_natCast]; exact ens_get (by rw [HLpl.out]; exact hkn))
                  clear hmk hkl
                  rw [d1]
                  go_wp2_with (first | (go_at_call 20; refine HLk.out.mono ?_; rintro e w' ⟨rfl, hww⟩; obtain rfl := hww.symm) | (go_at_call 26; (with_reducible refine HP.out.mono ?_); rintro e w6 hP6; obtain ⟨m, hmp, rfl, hmo6, hb6⟩ : ∃ m : Pr, m.pl = (ml.key, ml.vl) ∧ e = .returned (.tuple #[.agg #[.slice m.A1 m.n1 m.c1, .slice m.A2 m.n2 m.c2], .bool true]) ∧ m.ok w6 w6.heap.size ∧ Below w5.heap.size w5 w6 := (by
                      rcases hP6 with ⟨x, _, hx, u, rfl, m, rfl, h1, _, h3, _, _, h4⟩ | ⟨h1, _⟩
                      · rw [HXk.out] at hx
                        cases hx
                        exact ⟨m, by rw [h3]; show (keyAt Lp fl, valAt Lp fl) = _; rw [HKy.out, HVl.out], rfl, h1, h4⟩
                      · exact absurd ⟨by omega, by rw [HX.out, ens_len, HLpl.out]; omega⟩ h1)))
                  have hmk1 : m.key = ml.key := congrArg Prod.fst hmp
                  have hmv1 : m.vl = ml.vl := congrArg Prod.snd hmp
                  have hPb := Bk.new_ w6 35 #[.slice m.A1 m.n1 m.c1, .slice m.A2 m.n2 m.c2]
                  have hb7 := (Below.refl w6.heap.size w6).alloc (Nat.le_refl _) (.cells #[.slice m.A1 m.n1 m.c1, .slice m.A2 m.n2 m.c2] 35)
                  have hb57 := hb6.trans (hb7.mono hb6.size)
                  have hbw7 := hbw5.trans (hb57.mono hbw5.size)
                  have hb37 := hb5.trans (hb57.mono hz5)
                  obtain ⟨e0, e1⟩ := hcell _ (hbw7.mono hB)
                  skip
                  have hI7 := hI2.below hb57
                  have hm7 := hmo6.below hb7 (Nat.le_refl _)
                  have hl7 := hmok.below (hbw7.mono hB) (Nat.le_refl _)
                  obtain ⟨W7, hW7⟩ : ∃ x, x = w6.alloc (.cells #[.slice m.A1 m.n1 m.c1, .slice m.A2 m.n2 m.c2] 35) := ⟨_, rfl⟩
                  rw [← hW7] at hPb hb37 e0 e1 hI7 hm7 hl7 ⊢
                  have p0 := hPb.cell 0
                  have p1 := hPb.cell 1
                  have hm71 := hm7.1
                  have hm72 := hm7.2.1
                  rw [hmk1] at hm71
                  rw [hmv1] at hm72
                  have s1 : ∀ q, (convert 25 9 (.slice m.A1 m.n1 m.c1)).run Try.prog (W7.drewN q) = .ok (.string ⟨ml.key.toArray⟩) (W7.drewN q) := fun q => run_str (P := Try.prog) Try.underlying25 Try.underlying5 Try.underlying9 (c := m.c1) (hm71.drewN q)
                  have s2 : ∀ q, (convert 25 9 (.slice m.A2 m.n2 m.c2)).run Try.prog (W7.drewN q) = .ok (.string ⟨ml.vl.toArray⟩) (W7.drewN q) := fun q => run_str (P := Try.prog) Try.underlying25 Try.underlying5 Try.underlying9 (c := m.c2) (hm72.drewN q)
                  have s3 : ∀ q, (convert 25 9 (.slice ml.A1 ml.n1 ml.c1)).run Try.prog (W7.drewN q) = .ok (.string ⟨ml.key.toArray⟩) (W7.drewN q) := fun q => run_str (P := Try.prog) Try.underlying25 Try.underlying5 Try.underlying9 (c := ml.c1) (hl7.1.drewN q)
                  have s4 : ∀ q, (convert 25 9 (.slice ml.A2 ml.n2 ml.c2)).run Try.prog (W7.drewN q) = .ok (.string ⟨ml.vl.toArray⟩) (W7.drewN q) := fun q => run_str (P := Try.prog) Try.underlying25 Try.underlying5 Try.underlying9 (c := ml.c2) (hl7.2.1.drewN q)
                  clear hmp hmk1 hmv1 hW7 hm7 hl7 hm71 hm72 hmo6 hmok hcell hb6 hb7 hbw7 hP6
                  go_quiet (fail)
                  go_wp2
                  go_roundw
                  case rel => exact ⟨i + 1, _, lk2, by omega, by go_num, rfl, by omega, by omega, by omega, by push_cast; omega, hI7.kb (S := []) ((Kb.refl _ _).drewN nq) (fun b hb => by cases hb), belowN hb37 nq⟩
                  case measure => simp [intOf]; omega
                · skip
                  have HLk := Lib.hid (c_Looked w5 hI2)
                  have HP := Lib.hid (c_Pair w5 hI2)
                  have hmo : ¬ (((bt : Int) + (ev : Int)) : Int) < lk2 - lk := by omega
                  have hwr : IntKind.i64.wrap (lk2 - lk) = lk2 - lk := IntWalk.i64_in _ (by omega)
                  have hz5 := hb5.size
                  have hbw5 := hb03.trans (hb5.mono hb03.size)
                  have d1 : decide (fl < N) = false := decide_eq_false hkn
                  have d2 : ¬ ((fl : Int) : Int) < (N : Int) := by omega
                  have d3 : (0 : Int) ≤ ((fl : Int) : Int) := by omega
                  have d4 : decide (((fl : Int) : Int) < (N : Int)) = false := decide_eq_false d2
                  rw [d1]
                  go_wp2_with (first | (go_at_call 20; refine HLk.out.mono ?_; rintro e w' ⟨rfl, hww⟩; obtain rfl := hww.symm) | (go_at_call 26; (with_reducible refine HP.out.mono ?_); rintro e w6 hP6; obtain ⟨rfl, hb6⟩ : e = .returned (.tuple #[.agg #[.slice none 0 0, .slice none 0 0], .bool false]) ∧ Below w5.heap.size w5 w6 := (by
                      rcases hP6 with ⟨x, _, hx, _⟩ | ⟨_, rfl, h4⟩
                      · have h5 := (List.getElem?_eq_some_iff.1 hx).1
                        rw [HX.out, ens_len, HLpl.out, Int.toNat_natCast] at h5
                        exact absurd h5 hkn
                      · exact ⟨rfl, h4⟩)))
                  have hb7 := (Below.refl w6.heap.size w6).alloc (Nat.le_refl _) (.cells #[.slice none 0 0, .slice none 0 0] 35)
                  have hb57 := hb6.trans (hb7.mono hb6.size)
                  have hb37 := hb5.trans (hb57.mono hz5)
                  have hI7 := hI2.below hb57
                  go_quiet (fail)
                  go_wp2
                  go_roundw
                  case rel => exact ⟨i + 1, _, lk2, by omega, by go_num, rfl, by omega, by omega, by omega, by push_cast; omega, hI7.kb (S := []) ((Kb.refl _ _).drewN nq) (fun b hb => by cases hb), belowN hb37 nq⟩
                  case measure => simp [intOf]; omega
          · obtain rfl : i = n2 := by omega
            have hbf := hb03.trans (hb5.mono hb03.size)
            go_wp2
            go_ret
            exact ⟨rfl, hbf⟩
    · have hsi : (200 : Int) < (n2 : Int) := by omega
      have hsd : decide ((200 : Int) < (n2 : Int)) = true := decide_eq_true hsi
      go_wp2_with (first | (go_at_call 9; refine HF.out.mono ?_; rintro e w2 ⟨rfl, hb2⟩))
      go_ret
      exact ⟨rfl, hb1.trans (hb2.mono hb1.size)⟩
  · rw [decide_eq_false hfew] at HF
    go_wp2_with (first | (go_at_call 9; refine HF.out.mono ?_; rintro e w2 ⟨rfl, hb2⟩))
    go_ret
    exact ⟨rfl, hb1.trans (hb2.mono hb1.size)⟩
end Go.Proofs.Ytjcifmbbdofjiaa
