/- Layer 20: find: the walk. -/
import Derived.Test.YtjcifmbbdofjiaaBlL
namespace Go.Proofs.Ytjcifmbbdofjiaa
open Go.RowKit Go.Lec Go.Op
/-- What find leaves. -/
def FindPost (w : World) (it L : Nat) (A : Option Addr) (n c : Nat) (X : List Ex) (ev : Nat) (p lk : Int) (δ : Nat) (F : Nat × Nat) (e : Ending) (w' : World) : Prop :=
  e = .returned (.int .i64 (F.1 : Int)) ∧ Itr w' it L A n c X ev p (lk + ((δ * F.2 : Nat) : Int)) ∧ Kb [it] w w'
set_option maxRecDepth 40000 in
set_option maxHeartbeats 3200000 in
theorem c_find (w : World) {it L n c ev nk ck B δ g : Nat} {A Ak : Option Addr} {X : List Ex} {p lk : Int} {key : List UInt8} {gc : Array Value}
    (hL : LookOk w it L A n c X ev p lk δ g gc) (hcf : ∀ (args : Array Value) (w : World), (callFunc g args).run Try.prog w = .ok (.enter g args) w)
    (h : Itr w it L A n c X ev p lk) (hev : ev ≤ 1048576) (hev1 : 1 ≤ ev) (hr : Rd w B Ak nk (bcs key)) (hB : B ≤ w.heap.size) (hkit : 0 < nk → ∀ a, Ak = some a → a.block ∉ [it]) :
    Calls Try.prog 41 #[.pointer (some ⟨it, 0, none⟩), .slice Ak nk ck, .func (.func g) #[] gc] w (FindPost w it L A n c X ev p lk δ (findF (X.map Ex.en) ev key)) := by
  have hmf : ∀ (fn : Fn) (first cap : Array Value) (w : World), (Instr.makeFunc fn first cap).run Try.prog w = .ok (.func fn first cap) w := fun _ _ _ _ => rfl
  have hle := h.le
  have hXl : (X.map Ex.en).length = n := by rw [List.length_map]; exact h.els.2.1
  have lit := h.bk.lt
  obtain ⟨H0, H1, H2, hsz, hBl⟩ := Bk.new3 w 45 #[.pointer (some ⟨it, 0, none⟩)] 25 #[.slice Ak nk ck] 1 #[.func (.func g) #[] gc]
  have hI3 := h.below hBl
  have hr3 := hr.below hBl hB
  have hB3 := Nat.le_trans hB hBl.size
  have hL3 : LookOk _ it L A n c X ev p lk δ g gc := fun k W hk hI hK => hL k W hk hI ((Kb.of_below hBl).trans hK (fun b hb => .inl hb))
  have hk3 : Kb [it] w _ := Kb.of_below hBl
  obtain ⟨F, hF⟩ : ∃ F, F = findF (X.map Ex.en) ev key := ⟨_, rfl⟩
  rw [← hF]
  rw [findF, hXl] at hF
  obtain ⟨many, hmany⟩ : ∃ m, m = (n + ev - 1) / ev := ⟨_, rfl⟩
  have hdi : ((n : Int) + (ev : Int) - 1) / (ev : Int) = (many : Int) := by
    have : ((n + ev - 1 : Nat) : Int) = (n : Int) + (ev : Int) - 1 := by omega
    rw [← this, ← Int.natCast_ediv, hmany]
  have hmn : many ≤ n := by rw [hmany]; exact many_le hev1
  have hrow : ∀ k, k < many → k * ev < n := fun k hk => row_lt hev1 (by rw [← hmany]; exact hk)
  rw [← hmany] at hF
  obtain ⟨R, hR⟩ : ∃ R, R = srchF (fun k => geAt (X.map Ex.en) key (k * ev)) many 0 many 0 := ⟨_, rfl⟩
  rw [← hR] at hF
  have hR1 : R.1 ≤ many := by rw [hR]; exact srchF_le _ _ _ _ _ (Nat.zero_le _)
  have hR2 : R.2 ≤ many := by rw [hR]; have := srchF_cnt (fun k => geAt (X.map Ex.en) key (k * ev)) many 0 many 0; omega
  have hin : ((ev : Int) == 0) = false := by rw [beq_eq_false_iff_ne]; omega
  obtain ⟨b0, hb0⟩ : ∃ x, x = w.heap.size := ⟨_, rfl⟩
  rw [← hb0] at H0 H1 H2 hsz lit
  have HF := Lib.hid hF
  have HR := Lib.hid hR
  have HXl := Lib.hid hXl
  clear hL hmany hF hR h hXl hr hB
  go_enter Try.func41, Try.ntmps41
  go_upto_region 1 with fail
  rw [← hb0]
  clear hb0
  obtain ⟨W3, hW3⟩ : ∃ W, W = ((w.alloc (.cells #[.pointer (some ⟨it, 0, none⟩)] 45)).alloc (.cells #[.slice Ak nk ck] 25)).alloc (.cells #[.func (.func g) #[] gc] 1) := ⟨_, rfl⟩
  rw [← hW3] at H0 H1 H2 hsz hBl hI3 hr3 hB3 hL3 hk3 ⊢
  clear hW3
  have q0 := H0.cell 0
  have q1 := H1.cell 0
  have q2 := H2.cell 0
  have qi := hI3.bk.cell
  have hne : b0 + 1 + 1 ∉ [it] ∧ b0 ∉ [it] ∧ b0 + 1 ∉ [it] := by refine ⟨?_, ?_, ?_⟩ <;> (simp only [List.mem_singleton]; omega)
  have HS := Lib.hid (fun nq : Nat => c_Search (W3.drewN nq) many (by omega) 60 #[.pointer (some ⟨b0 + 1 + 1, 0, none⟩), .pointer (some ⟨b0, 0, none⟩), .pointer (some ⟨b0 + 1, 0, none⟩)] (fun k => geAt (X.map Ex.en) key (k * ev))
    (fun j W' => Itr W' it L A n c X ev p (lk + ((δ * j : Nat) : Int)) ∧ Kb [it] W3 W') ⟨by rw [Nat.mul_zero]; simpa using hI3.kb (S := []) ((Kb.refl _ _).drewN nq) (fun b hb => by cases hb), (Kb.refl _ _).drewN nq⟩ (fun _ _ => rfl)
    (fun j k W' hj hk hI => by
      refine (c_find1 W3 W' (b0 + 1 + 1) b0 (b0 + 1) k j hL3 hcf hI.1 hI.2 (by omega) (hrow k hk) (by omega) hev hr3 hB3 hkit q2 q0 q1 hne).mono ?_
      rintro e w' ⟨rfl, h1, h2⟩
      exact ⟨rfl, h1, hI.2.trans h2 (fun b hb => .inl hb)⟩))
  have Hrow := Lib.hid hrow
  have HL3 := Lib.hid hL3
  clear hrow
  go_quiet (fail)
  go_wp2_with fail
  refine (HS.out nq).mono ?_
  rintro e w1 ⟨rfl, h1, hk1⟩
  rw [← HR.out] at h1 ⊢
  clear HS
  by_cases hz : R.1 = 0
  · have hz' : ((R.1 : Int) == 0) = true := by rw [hz]; rfl
    have HF1 := Lib.hid (show F = (0, R.2) from by rw [HF.out, if_pos hz])
    go_wp2
    go_ret
    rw [HF1.out]
    exact ⟨rfl, h1, hk3.trans hk1 (fun b hb => .inl hb)⟩
  · have hz' : ((R.1 : Int) == 0) = false := by rw [beq_eq_false_iff_ne]; omega
    have hR10 : 1 ≤ R.1 := by omega
    obtain ⟨r1, hr1⟩ : ∃ r, r = R.1 := ⟨_, rfl⟩
    obtain ⟨r2, hr2⟩ : ∃ r, r = R.2 := ⟨_, rfl⟩
    rw [← hr1] at hR1 hR10 hz' ⊢
    rw [← hr2] at hR2 h1
    obtain ⟨a0, ha0⟩ : ∃ a, a = (r1 - 1) * ev := ⟨_, rfl⟩
    obtain ⟨a1, ha1⟩ : ∃ a, a = r1 * ev := ⟨_, rfl⟩
    have hm0 : ((r1 : Int) - 1) * (ev : Int) = (a0 : Int) := by rw [ha0]; push_cast [hR10]; rfl
    have hm1 : (r1 : Int) * (ev : Int) = (a1 : Int) := by rw [ha1]; push_cast; rfl
    have ha01 : a0 < n := by rw [ha0]; exact Hrow.out _ (by omega)
    have ha1b : a1 ≤ 1099511627776 := by
      rw [ha1]
      exact Nat.le_trans (Nat.mul_le_mul (Nat.le_trans hR1 (Nat.le_trans hmn hle)) hev) (by decide)
    have HF1 := Lib.hid (show F = scanF (X.map Ex.en) key n (a0 + 1) (min n a1) r2 from by rw [HF.out, if_neg hz, ha0, ha1, hr1, hr2])
    clear HF HR ha0 ha1 hr1 hr2 hz
    have q01 := (hk1.cell (p := ⟨b0, 0, none⟩) H0.lt hne.2.1).trans q0
    have qi1 := h1.bk.cell
    clear qi
    go_wp2
    go_loopw [9] (fun at_ wr => ∃ a j f : Nat, at_ = .int .i64 (a : Int) ∧ a ≤ n ∧ min n a1 - a ≤ f ∧ j + f ≤ r2 + n ∧ Hid (F = scanF (X.map Ex.en) key f a (min n a1) j) ∧ Itr wr it L A n c X ev p (lk + ((δ * j : Nat) : Int)) ∧ Kb [it] W3 wr) (fun at_ _ => n - (intOf at_).toNat)
    case atStart => exact ⟨a0 + 1, r2, n, by go_num, by omega, by omega, by omega, HF1, h1, hk1⟩
    case round =>
      clear h1 hk1 q01 qi1 HF1
      obtain ⟨a, j, f, rfl, han, hf, hjf, HS, hI, hkb⟩ := hrel
      have q01 := (hkb.cell (p := ⟨b0, 0, none⟩) H0.lt hne.2.1).trans q0
      have q21 := (hkb.cell (p := ⟨b0 + 1 + 1, 0, none⟩) H2.lt hne.1).trans q2
      have qi1 := hI.bk.cell
      by_cases hlt : a < n
      · have hd1 : decide ((a : Int) < (n : Int)) = true := by simp; omega
        by_cases hlt2 : a < a1
        · have hd2 : decide ((a : Int) < (a1 : Int)) = true := by simp; omega
          have HL := Lib.hid (HL3.out j wr (by omega) hI hkb)
          obtain ⟨W0, hW0⟩ : ∃ x, x = wr := ⟨_, rfl⟩
          subst hW0
          go_wp2_with fail
          refine HL.out.mono ?_
          rintro e w2 ⟨rfl, h2, hk2⟩
          have hk02 := hkb.trans hk2 (fun b hb => .inl hb)
          have s0 := (hk02.cell (p := ⟨b0, 0, none⟩) H0.lt hne.2.1).trans q0
          have s1 := (hk02.cell (p := ⟨b0 + 1, 0, none⟩) H1.lt hne.2.2).trans q1
          have i2 := h2.bk.cell
          obtain ⟨b, o, m, rfl, hbB, hmk, _, hmok, hcell⟩ := h2.els.at hlt
          have hcw := hcell w2 (Below.refl _ _) 1 _ rfl
          rw [show encEx.k = 5 from rfl] at hcw
          obtain ⟨e1, _⟩ := ex_ok hmok
          have e2 := hr3.kbR hk02 hB3 hkit
          have HG := Lib.hid (show geAt (X.map Ex.en) key a = !(bytesLess m.key key) from by rw [geAt, List.getElem?_map, hmk]; rfl)
          have HC := Lib.hid (fun nq : Nat => c_bCompare (w2.drewN nq) (c := m.c1) (c2 := ck) (e1.drewN nq) (e2.drewN nq))
          have hai : (a : Int) < (n : Int) := by omega
          obtain ⟨f', rfl⟩ : ∃ f', f = f' + 1 := ⟨f - 1, by omega⟩
          have HS2 := Lib.hid (show F = if geAt (X.map Ex.en) key a then (a, j + 1) else scanF (X.map Ex.en) key f' (a + 1) (min n a1) (j + 1) from by rw [HS.out, scanF, if_pos (by omega)])
          clear hmk hcell hmok e1 e2 HL hI qi1 q01 q21 hkb HS
          cases hg : geAt (X.map Ex.en) key a
          · have hcmp : decide ((0 : Int) ≤ Lib.compareBytes m.key key) = false := by rw [cmp_ge, ← HG.out, hg]
            have HS3 := Lib.hid (show F = scanF (X.map Ex.en) key f' (a + 1) (min n a1) (j + 1) from by rw [HS2.out, hg]; rfl)
            clear hg HG HS2
            go_wp2
            go_quiet (first | (go_at_call 49; exact Calls.quiet_of_same (HC.out _)))
            go_wp2
            go_roundw
            case rel => exact ⟨a + 1, j + 1, f', by go_num, by omega, by omega, by omega, HS3, h2.kb (S := []) ((Kb.refl _ _).drewN nq) (fun b hb => by cases hb), hk02.drewN nq⟩
            case measure => simp [intOf]; omega
          · have hcmp : decide ((0 : Int) ≤ Lib.compareBytes m.key key) = true := by rw [cmp_ge, ← HG.out, hg]
            have HS3 := Lib.hid (show F = (a, j + 1) from by rw [HS2.out, hg]; rfl)
            clear hg HG HS2
            go_wp2
            go_quiet (first | (go_at_call 49; exact Calls.quiet_of_same (HC.out _)))
            go_wp2
            go_ret
            rw [HS3.out]
            exact ⟨rfl, h2.kb (S := []) ((Kb.refl _ _).drewN nq) (fun b hb => by cases hb), hk3.trans (hk02.drewN nq) (fun b hb => .inl hb)⟩
        · have hd2 : decide ((a : Int) < (a1 : Int)) = false := decide_eq_false (by omega)
          have HS3 := Lib.hid (show F = (a, j) from by rw [HS.out, scanF_end _ _ _ _ _ _ (by omega)])
          go_wp2
          go_ret
          rw [HS3.out]
          exact ⟨rfl, hI, hk3.trans hkb (fun b hb => .inl hb)⟩
      · have hd1 : decide ((a : Int) < (n : Int)) = false := decide_eq_false (by omega)
        have HS3 := Lib.hid (show F = (a, j) from by rw [HS.out, scanF_end _ _ _ _ _ _ (by omega)])
        go_wp2
        go_ret
        rw [HS3.out]
        exact ⟨rfl, hI, hk3.trans hkb (fun b hb => .inl hb)⟩
end Go.Proofs.Ytjcifmbbdofjiaa
