/- Layer 20: the walk of BlockBuilds. -/
import Derived.Test.YtjcifmbbdofjiaaBlBa
import Derived.Test.YtjcifmbbdofjiaaBlLaw
import Derived.Test.YtjcifmbbdofjiaaSeK
namespace Go.Lec
open Go.RowKit
/-- A block so far, and what was promised so far. -/
theorem far_on {l : List Pl} {every k : Nat} {p : Pl} {x : Nat} (h : l[k]? = some p) (hf : tot l ≤ 4000) (hx : (bodyTo l every k).length + 4 * (plTo l every k).length + 4 ≤ x) :
    (bodyTo l every (k + 1)).length + 4 * (plTo l every (k + 1)).length + 4 ≤ (if k % every = 0 then x + (p.1.length + p.2.length + 15) + 4 else x + (p.1.length + p.2.length + 15)) := by
  have h1 := entAt_len (every := every) h hf
  rw [bodyTo, List.length_append, plTo]
  split
  · rw [List.length_append, List.length_singleton]; omega
  · omega
end Go.Lec
namespace Go.Proofs.Ytjcifmbbdofjiaa
open Go.RowKit Go.Lec Go.Op
set_option maxRecDepth 100000 in
set_option maxHeartbeats 4000000 in
theorem w_BlockBuilds (w : World) {B N c : Nat} {A : Option Addr} {L : List Pr} (every : Int) (hp : Prs w B A N L) (hB : B ≤ w.heap.size) (hf : tot (L.map Pr.pl) ≤ 8796093022208) (hei : -9223372036854775808 ≤ every) (hei2 : every ≤ 9223372036854775807) :
    Calls Try.prog 3 #[.slice A N c, .int .i64 every] w fun e w' => e = .returned (.bool true) ∧ Below w.heap.size w w' := by
  have HA := Lib.hid (c_awake w)
  have hNN : N ≤ 8796093022208 := by
    have h1 := tot_len (L.map Pr.pl)
    rw [List.length_map, hp.len] at h1
    omega
  go_enter Try.func3, Try.ntmps3
  go_wp2_with fail
  refine HA.out.mono ?_
  rintro e w1 ⟨rfl, hb1⟩
  have HF := Lib.hid (c_few w1 (c := c) (hp.below hb1 hB) (Nat.le_trans hB hb1.size) hf)
  by_cases hfew : tot (L.map Pr.pl) ≤ 4000
  · rw [decide_eq_true hfew] at HF
    have hN4 : N ≤ 4000 := by
      have h1 := tot_len (L.map Pr.pl)
      rw [List.length_map, hp.len] at h1
      omega
    by_cases hbad : ∃ err, badE (L.map Pr.pl) every err
    · obtain ⟨err, hbad⟩ := hbad
      have hne : (err == 0) = false := by rw [beq_eq_false_iff_ne]; exact badE_ne hbad
      have HBu := Lib.hid (fun W (h : Below w.heap.size w W) => c_BlBuild_no W (c := c) (hp.below h hB) (Nat.le_trans hB h.size) hbad (by omega))
      have HSz := Lib.hid (fun W (h : Below w.heap.size w W) => c_Size_no W (c := c) (hp.below h hB) (Nat.le_trans hB h.size) hbad (by omega))
      have HRb := Lib.hid (fun W (h : Below w.heap.size w W) => (c_rBuild W (c := c) every (hp.below h hB) (Nat.le_trans hB h.size) (by omega) hei hei2).mono (R' := fun e w' => ∃ A c, e = .returned (.tuple #[.slice A 0 c, .int .i64 err]) ∧ Below W.heap.size W w') (by
        rintro e w' ⟨e2, b, A, c, hR, rfl, _, _, _, hb⟩
        obtain ⟨rfl, rfl⟩ := badE_rb hbad hR
        exact ⟨A, c, rfl, hb⟩))
      have hs0 : ∀ (W : World), (convert 25 9 (.slice none 0 0)).run Try.prog W = .ok (.string ⟨([] : List UInt8).toArray⟩) W := fun W => run_str (P := Try.prog) Try.underlying25 Try.underlying5 Try.underlying9 (c := 0) (B := 0) (l := []) Rd.nil_
      have hs1 : ∀ (W : World) (A : Option Addr) (c : Nat), (convert 25 9 (.slice A 0 c)).run Try.prog W = .ok (.string ⟨([] : List UInt8).toArray⟩) W := fun W A c => run_str (P := Try.prog) Try.underlying25 Try.underlying5 Try.underlying9 (c := c) (B := 0) (l := []) ⟨rfl, fun h => absurd h (by omega)⟩
      clear hbad
      go_wp2_with (first
        | (go_at_call 9; (with_reducible refine HF.out.mono ?_); rintro e w2 ⟨rfl, hb2⟩; have hb02 : Below w.heap.size w w2 := hb1.trans (hb2.mono hb1.size))
        | (go_at_call 10; (with_reducible refine (HBu.out w2 hb02).mono ?_); rintro e w3 ⟨rfl, hb3⟩; have hb03 : Below w.heap.size w w3 := hb02.trans (hb3.mono hb02.size))
        | (go_at_call 11; (with_reducible refine (HRb.out w3 hb03).mono ?_); rintro e w4 ⟨A4, c4, rfl, hb4⟩; have hb04 : Below w.heap.size w w4 := hb03.trans (hb4.mono hb03.size))
        | (go_at_call 12; (with_reducible refine (HSz.out w4 hb04).mono ?_); rintro e w5 ⟨rfl, hb5⟩; have hb05 : Below w.heap.size w w5 := hb04.trans (hb5.mono hb04.size)))
      go_ret
      exact ⟨rfl, hb05⟩
    · have hev : 1 ≤ every ∧ every ≤ 1024 := by
        apply Classical.byContradiction
        intro h
        exact hbad ⟨1, .inl ⟨rfl, by omega⟩⟩
      have hri : risen (L.map Pr.pl) := by
        apply Classical.byContradiction
        intro h
        exact hbad ⟨200, .inr ⟨rfl, hev.1, hev.2, h⟩⟩
      obtain ⟨ev, rfl⟩ : ∃ ev : Nat, every = (ev : Int) := ⟨every.toNat, by omega⟩
      have he1 : 1 ≤ ev := by omega
      have he2 : ev ≤ 1024 := by omega
      clear hbad hev
      have HBu := Lib.hid (fun W (h : Below w.heap.size w W) => c_BlBuild W (c := c) (hp.below h hB) (Nat.le_trans hB h.size) he1 he2 hri hfew)
      have HSz := Lib.hid (fun W (h : Below w.heap.size w W) => c_Size_ok W (c := c) (hp.below h hB) (Nat.le_trans hB h.size) he1 he2 hri hfew)
      have HRb := Lib.hid (fun W (h : Below w.heap.size w W) => c_rBuild W (c := c) (ev : Int) (hp.below h hB) (Nat.le_trans hB h.size) (by omega) hei hei2)
      obtain ⟨Lp, hLp⟩ : ∃ l, l = L.map Pr.pl := ⟨_, rfl⟩
      have hLpl : Lp.length = N := by rw [hLp, List.length_map, hp.len]
      rw [← hLp] at hfew hri HBu HSz HRb
      have hck := ck_bld hri hfew he1 he2
      have hbl := bld_len Lp ev
      have hbs := bodyTo_small (every := ev) hfew (Nat.le_refl Lp.length)
      have hps := plTo_len Lp ev Lp.length
      have htl := tot_len Lp
      rw [hLpl] at htl hps hbs hbl
      obtain ⟨b, hbd⟩ : ∃ x, x = bld Lp ev := ⟨_, rfl⟩
      rw [← hbd] at HBu HSz hbl hck
      have HRb2 := Lib.hid (fun W (h : Below w.heap.size w W) => (HRb.out W h).mono (R' := fun e w' => ∃ A c, e = .returned (.tuple #[.slice A b.length c, .int .i64 0]) ∧ Rd w' w'.heap.size A b.length (bcs b) ∧ Below W.heap.size W w') (by
        rintro e w' ⟨e2, b2, A, c, hR, rfl, _, hr, _, hb⟩
        cases hR with
        | range h => omega
        | rise _ _ h => exact absurd hri h
        | long _ _ _ h => rw [Int.toNat_natCast, ← hbd] at h; omega
        | ok _ _ _ _ =>
          rw [Int.toNat_natCast, ← hbd] at hr ⊢
          exact ⟨A, c, rfl, hr, hb⟩))
      obtain ⟨nb, hnb⟩ : ∃ x, x = b.length := ⟨_, rfl⟩
      have HBu2 := Lib.hid (fun W h => (HBu.out W h).mono (R' := fun e w' => ∃ A c, e = .returned (.tuple #[.slice A nb c, .int .i64 0]) ∧ nb ≤ c ∧ Rd w' w'.heap.size A nb (bcs b) ∧ Below W.heap.size W w') (by
        rintro e w' ⟨A, c, rfl, hc, hr, hb⟩
        rw [← hnb] at hc hr ⊢
        exact ⟨A, c, rfl, hc, hr, hb⟩))
      rw [← hnb] at HRb2 HSz hbl
      have hnbs : nb ≤ 1099511627776 := by omega
      have HRd := Lib.hid (fun (W : World) (A' : Option Addr) (c' : Nat) (h : Rd W W.heap.size A' nb (bcs b)) (hc' : nb ≤ c') => (c_BlRead W (c := c') h hc' (Nat.le_refl _) hnbs).mono (R' := fun e w' => ∃ A c O, e = .returned (.tuple #[.slice A N c, .int .i64 0]) ∧ Prs w' w'.heap.size A N O ∧ O.map Pr.pl = Lp ∧ Below W.heap.size W w') (by
        rintro e w' (⟨l, ps, A, n, c, O, hk, he, hP, hO, hb⟩ | ⟨err', hk, he, hb⟩) <;> (rw [hck] at hk; cases hk)
        rw [ens_pr] at hO
        have h1 := congrArg List.length hO
        rw [List.length_map, hP.len, hLpl] at h1
        subst h1
        exact ⟨A, c, O, he, hP, hO, hb⟩))
      have HLp := Lib.hid hLp
      have HLpl := Lib.hid hLpl
      have Hbl := Lib.hid hbl
      clear hck HBu HRb hbd hnb hLp hLpl hbl hri
      have hev0 : ((ev : Int) == 0) = false := by rw [beq_eq_false_iff_ne]; omega
      go_wp2_with (first
        | (go_at_call 9; (with_reducible refine HF.out.mono ?_); rintro e w2 ⟨rfl, hb2⟩; have hb02 : Below w.heap.size w w2 := hb1.trans (hb2.mono hb1.size))
        | (go_at_call 10; (with_reducible refine (HBu2.out w2 hb02).mono ?_); rintro e w3 ⟨A3, c3, rfl, hc3, hR3, hb3⟩; have hb03 : Below w.heap.size w w3 := hb02.trans (hb3.mono hb02.size))
        | (go_at_call 11; (with_reducible refine (HRb2.out w3 hb03).mono ?_); rintro e w4 ⟨A4, c4, rfl, hR4, hb4⟩; have hb04 : Below w.heap.size w w4 := hb03.trans (hb4.mono hb03.size); have hR34 := (hR3.below hb4 (Nat.le_refl _)).more hb4.size; have hs3 : (convert 25 9 (.slice A3 nb c3)).run Try.prog w4 = .ok (.string ⟨b.toArray⟩) w4 := run_str (P := Try.prog) Try.underlying25 Try.underlying5 Try.underlying9 (c := c3) hR34; have hs4 : (convert 25 9 (.slice A4 nb c4)).run Try.prog w4 = .ok (.string ⟨b.toArray⟩) w4 := run_str (P := Try.prog) Try.underlying25 Try.underlying5 Try.underlying9 (c := c4) hR4; clear hR3 hR4)
        | (go_at_call 13; (with_reducible refine (HRd.out w4 A3 c3 hR34 hc3).mono ?_); rintro e w5 ⟨A5, c5, O5, rfl, hP5, hO5, hb5⟩; have hb05 : Below w.heap.size w w5 := hb04.trans (hb5.mono hb04.size)))
      have HP5 := Lib.hid hP5
      have HO5 := Lib.hid hO5
      clear hs3 hs4 hP5 hO5 hR34 HRd HRb2 HBu2 HF HA
      have hz5 := hb05.size
      go_loopw [53, 10] (fun i s wr => ∃ k x : Nat, k ≤ N ∧ i = .int .i64 (k : Int) ∧ s = .int .i64 (x : Int) ∧ Hid ((bodyTo Lp ev k).length + 4 * (plTo Lp ev k).length + 4 ≤ x) ∧ x ≤ 4 + 5000 * k ∧ Below w5.heap.size w5 wr) (fun i _ _ => N - (intOf i).toNat)
      case atStart => exact ⟨0, 4, Nat.zero_le _, rfl, rfl, Lib.hid (by simp [bodyTo, plTo]), by omega, Below.refl _ _⟩
      case round =>
        obtain ⟨k, x, hk, rfl, rfl, HX, hx, hb6⟩ := hrel
        obtain ⟨W0, hW0⟩ : ∃ x, x = wr := ⟨_, rfl⟩
        subst hW0
        have hb06 := hb05.trans (hb6.mono hz5)
        by_cases hlt : k < N
        · obtain ⟨bb, o, m, rfl, hbB, hmk, _, hmok, hcell⟩ := hp.cell2 hlt
          obtain ⟨c0, c1⟩ := hcell W0 (hb06.mono hB)
          have hkl : Lp[k]? = some m.pl := by rw [HLp.out, List.getElem?_map, hmk]; rfl
          have hl1 : m.key.length = m.n1 := by have := hmok.1.1; rwa [bcs_length] at this
          have hl2 : m.vl.length = m.n2 := by have := hmok.2.1.1; rwa [bcs_length] at this
          have hg := tot_get hkl
          have HX2 := Lib.hid (far_on (every := ev) hkl hfew HX.out)
          simp only [Pr.pl, hl1, hl2] at hg HX2
          have hb7 := hb6.alloc hb6.size (.cells #[.slice m.A1 m.n1 m.c1, .slice m.A2 m.n2 m.c2] 35)
          have hP := (Bk.new_ W0 35 #[.slice m.A1 m.n1 m.c1, .slice m.A2 m.n2 m.c2]).cell
          have hki : (k : Int) < (N : Int) := by omega
          have lb : bb < W0.heap.size := by have := hb06.size; omega
          have hxs : x ≤ 40000000 := by omega
          have hn1 : m.n1 ≤ 4000 := by omega
          have hn2 : m.n2 ≤ 4000 := by omega
          have hxb : x + (m.n1 + m.n2 + 15) + 4 ≤ 4 + 5000 * (k + 1) := by omega
          clear HX hl1 hl2 hkl hmk hcell hmok hg hx
          by_cases h0 : k % ev = 0
          · have hrem : ((k : Int) % (ev : Int) == 0) = true := by
              rw [← Int.natCast_emod, h0]; rfl
            rw [if_pos h0] at HX2
            clear h0
            go_wp2
            go_roundw
            case rel => exact ⟨k + 1, x + (m.n1 + m.n2 + 15) + 4, by omega, by go_num, by go_num, HX2, hxb, hb7⟩
            case measure => simp [intOf]; omega
          · have hrem : ((k : Int) % (ev : Int) == 0) = false := by
              rw [← Int.natCast_emod, beq_eq_false_iff_ne]; omega
            rw [if_neg h0] at HX2
            clear h0
            go_wp2
            go_roundw
            case rel => exact ⟨k + 1, x + (m.n1 + m.n2 + 15), by omega, by go_num, by go_num, HX2, by omega, hb7⟩
            case measure => simp [intOf]; omega
        · obtain rfl : k = N := by omega
          have hfin : (nb : Int) ≤ (x : Int) := by
            have h1 := HX.out
            have h2 := Hbl.out
            omega
          have HSm := Lib.hid (c_SameP W0 (c1 := c5) (c2 := c) ((HP5.out.below hb6 (Nat.le_refl _)).more hb6.size) ((hp.below hb06 hB).more (Nat.le_trans hB hb06.size)) (Nat.le_refl _) (HO5.out.trans HLp.out) (by omega))
          clear HX hx Hbl
          go_wp2_with (first
            | (go_at_call 14; (with_reducible refine HSm.out.mono ?_); rintro e w7 ⟨rfl, hb7⟩; have hb07 : Below w.heap.size w w7 := hb06.trans (hb7.mono hb06.size))
            | (go_at_call 12; (with_reducible refine (HSz.out w7 hb07).mono ?_); rintro e w8 ⟨rfl, hb8⟩; have hb08 : Below w.heap.size w w8 := hb07.trans (hb8.mono hb07.size)))
          go_ret
          exact ⟨rfl, hb08⟩
  · rw [decide_eq_false hfew] at HF
    go_wp2_with (first | (go_at_call 9; refine HF.out.mono ?_; rintro e w2 ⟨rfl, hb2⟩; have hb02 : Below w.heap.size w w2 := hb1.trans (hb2.mono hb1.size)))
    go_ret
    exact ⟨rfl, hb02⟩
end Go.Proofs.Ytjcifmbbdofjiaa
