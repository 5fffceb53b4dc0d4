/- Layer 20: the reference reads a block: the walk. -/
import Derived.Test.YtjcifmbbdofjiaaBlRe
import Derived.Test.YtjcifmbbdofjiaaBlPa
import Derived.Test.YtjcifmbbdofjiaaCdD
namespace Go.Lec
open Go.RowKit
theorem ck_short {b : List UInt8} (h : b.length < 4) : ckB b = .error 201 := by
  rw [ckB, unB, if_neg (by omega), if_pos h]
theorem ck_many {b : List UInt8} (hb : b.length ≤ 1048576) (h : (b.length - 4) / 4 < manyOf b) : ckB b = .error 201 := by
  by_cases h4 : b.length < 4
  · exact ck_short h4
  · rw [ckB, unB, if_neg (by omega), if_neg h4, if_pos h]
theorem ck_good {b : List UInt8} {l : List Pl} {e : Nat} (hb : b.length ≤ 1048576) (ht : tot l ≤ 16777216) (e1 : 1 ≤ e) (e2 : e ≤ 1024) (hr : risen l) (hc : bld l e = b) : ckB b = .ok (ens l e, plTo l e l.length) := by
  have := ck_bldG hr ht (by rw [hc]; exact hb) e1 e2
  rwa [hc] at this
end Go.Lec
namespace Go.Proofs.Ytjcifmbbdofjiaa
open Go.RowKit Go.Lec Go.Op
theorem rb_ok {l : List Pl} {ev : Nat} {err : Int} {b : List UInt8} (h : RB l (ev : Int) err b) (h0 : err = 0) : risen l ∧ bld l ev = b := by
  cases h with
  | range _ => omega
  | rise _ _ _ => omega
  | long _ _ _ _ => omega
  | ok _ _ h _ => exact ⟨h, by rw [Int.toNat_natCast]⟩
theorem rb_good {l : List Pl} {ev : Nat} {err : Int} {b c : List UInt8} (h : RB l (ev : Int) err c) (hb : b.length ≤ 1048576) (h1 : 1 ≤ ev) (h2 : ev ≤ 1024) (hg : goodE b l ev) : err = 0 ∧ c = b := by
  obtain ⟨_, g2, g3⟩ := hg
  cases h with
  | range h => omega
  | rise _ _ h => exact absurd g2 h
  | long _ _ _ h => rw [Int.toNat_natCast, g3] at h; omega
  | ok _ _ _ _ => exact ⟨rfl, by rw [Int.toNat_natCast, g3]⟩
/-- What the reference's read answers. -/
def ErPost (w : World) (b : List UInt8) (e : Ending) (w' : World) : Prop :=
  (∃ (l : List Pl) (ev : Nat) (A : Option Addr) (n c : Nat) (O : List Pr), ckB b = .ok (ens l ev, plTo l ev l.length) ∧ e = .returned (.tuple #[.slice A n c, .int .i64 (ev : Int), .int .i64 0]) ∧ 1 ≤ ev ∧ ev ≤ 1024 ∧ Prs w' w'.heap.size A n O ∧ O.map Pr.pl = l ∧ tot l ≤ 16777216 ∧ Below w.heap.size w w') ∨
  (∃ err, ckB b = .error err ∧ e = .returned (.tuple #[.slice none 0 0, .int .i64 0, .int .i64 err]) ∧ Below w.heap.size w w')
set_option maxRecDepth 100000 in
set_option maxHeartbeats 4000000 in
theorem c_rRead (w : World) {B n c : Nat} {A : Option Addr} {b : List UInt8} (hr : Rd w B A n (bcs b)) (hB : B ≤ w.heap.size) (hc : n ≤ c) (hn : n ≤ 4000) :
    Calls Try.prog 34 #[.slice A n c] w (ErPost w b) := by
  have hln := hr.1
  rw [bcs_length] at hln
  have Hln := Lib.hid hln
  have d0 : decide ((1048576 : Int) < (n : Int)) = false := decide_eq_false (by omega)
  by_cases h4 : n < 4
  · have d1 : decide ((n : Int) < 4) = true := decide_eq_true (by omega)
    have HE := Lib.hid (ck_short (b := b) (by omega))
    clear hln
    go_enter Try.func34, Try.ntmps34
    go_wp2
    go_ret3
    exact .inr ⟨201, HE.out, rfl, Below.refl _ _⟩
  have d1 : decide ((n : Int) < 4) = false := decide_eq_false (by omega)
  obtain ⟨A4, hcut4, hrd4⟩ := run_cutI (P := Try.prog) slb hr hc (n - 4) (by omega) .i64 ((n : Int) - 4) (by omega)
  rw [← bcs_drop, show n - (n - 4) = 4 by omega] at hrd4
  rw [show n - (n - 4) = 4 by omega] at hcut4
  have hw4 : IntKind.i64.wrap ((n : Int) - 4) = (n : Int) - 4 := IntWalk.i64_in _ (by omega)
  have hw5 : IntKind.u64.wrap ((n : Int) - 4) = (n : Int) - 4 := by rw [show (n : Int) - 4 = ((n - 4 : Nat) : Int) by omega]; exact wrapN64 _ (by omega)
  obtain ⟨my, hmy⟩ : ∃ x, x = manyOf b := ⟨_, rfl⟩
  have HF := Lib.hid (c_rReadFixed w (c := c - (n - 4)) hrd4 (Nat.le_refl _) (by omega))
  have Hmy := Lib.hid hmy
  have Hmy2 := Lib.hid (show unle ((b.drop (n - 4)).take 4) = my from by rw [hmy, manyOf, hln])
  have hdq : ((n : Int) - 4) / 4 = (((n - 4) / 4 : Nat) : Int) := by omega
  by_cases hmany : (n - 4) / 4 < my
  · have d2 : decide (((n : Int) - 4) / 4 < (my : Int)) = true := decide_eq_true (by omega)
    have HE := Lib.hid (ck_many (b := b) (by omega) (by rw [hln, ← hmy]; exact hmany))
    clear hln hmy hdq
    go_enter Try.func34, Try.ntmps34
    go_wp2_with (first | (go_at_call 58; (with_reducible refine HF.out.mono ?_); rintro e w' ⟨rfl, hww⟩; obtain rfl := hww.symm; rw [Hmy2.out]))
    go_ret3
    exact .inr ⟨201, HE.out, rfl, Below.refl _ _⟩
  have d2 : decide (((n : Int) - 4) / 4 < (my : Int)) = false := decide_eq_false (by omega)
  have hm4 : 4 * my ≤ n - 4 := by omega
  have hw6 : IntKind.i64.wrap (my : Int) = (my : Int) := IntWalk.i64_in _ (by omega)
  have hw7 : IntKind.i64.wrap (4 * (my : Int)) = 4 * (my : Int) := IntWalk.i64_in _ (by omega)
  have hw8 : IntKind.i64.wrap ((n : Int) - 4 - 4 * (my : Int)) = (n : Int) - 4 - 4 * (my : Int) := IntWalk.i64_in _ (by omega)
  obtain ⟨nb, hnb⟩ : ∃ x, x = n - 4 - 4 * my := ⟨_, rfl⟩
  have hnbn : nb ≤ n := by omega
  have hcutH := run_cutH (P := Try.prog) slb A n c nb (by omega) .i64 ((n : Int) - 4 - 4 * (my : Int)) (by omega)
  have hrdH := hr.take_ hnbn
  rw [← bcs_take] at hrdH
  have HEn := Lib.hid (c_entries w (c := c) hrdH hB (by omega) (by omega))
  have HNb := Lib.hid (show b.take (b.length - 4 - 4 * manyOf b) = b.take nb from by rw [hln, ← hmy, hnb])
  have hbl : b.length ≤ 1048576 := by omega
  have hbn : (b.take nb).length ≤ 4000 := by rw [List.length_take]; omega
  have HS2 := Lib.hid (fun (W : World) (h : Below w.heap.size w W) (q : Nat) => run_str (P := Try.prog) Try.underlying25 Try.underlying5 Try.underlying9 (c := c) ((hr.below h hB).drewN q))
  clear hdq hrd4 hnb hmy hrdH hr hln
  go_enter Try.func34, Try.ntmps34
  go_wp2_with (first
    | (go_at_call 58; (with_reducible refine HF.out.mono ?_); rintro e w' ⟨rfl, hww⟩; obtain rfl := hww; rw [Hmy2.out])
    | (go_at_call 59; fail))
  refine HEn.out.mono ?_
  rintro e w1 (⟨l, A5, n5, c5, O, hl, rfl, hP, hO, hb5⟩ | ⟨hl, rfl, hb5⟩)
  · obtain ⟨ht, hl3⟩ := rfAll_tot hl hbn
    have hN : l.length = n5 := by rw [← hO, List.length_map]; exact hP.len
    have Hl := Lib.hid hl
    have HO := Lib.hid hO
    have HN := Lib.hid hN
    have hn5 : n5 ≤ 1334 := by omega
    have Ht := Lib.hid ht
    have hz1 := hb5.size
    have HBd := Lib.hid (fun (W : World) (h : Below w1.heap.size w1 W) (e : Nat) (he : e ≤ 1024) => c_rBuild W (c := c5) (e : Int) (hP.below h (Nat.le_refl _)) h.size (by rw [hO]; exact ht) (by omega) (by omega))
    have HPr := Lib.hid hP
    clear hl hO hN ht hP HEn HF
    go_wp2
    go_loopw [10] (fun i wr => ∃ e : Nat, 1 ≤ e ∧ e ≤ 1025 ∧ i = .int .i64 (e : Int) ∧ Hid (∀ e', 1 ≤ e' → e' < e → ¬ goodE b l e') ∧ Below w1.heap.size w1 wr) (fun i _ => 1025 - (intOf i).toNat)
    case atStart => exact ⟨1, Nat.le_refl _, by omega, rfl, Lib.hid (fun e' h1 h2 => by omega), Below.refl _ _⟩
    case round =>
      obtain ⟨ev, he1, he2, rfl, HNo, hb⟩ := hrel
      obtain ⟨W0, hW0⟩ : ∃ x, x = wr := ⟨_, rfl⟩
      subst hW0
      by_cases hev : ev ≤ 1024
      · have k1 : (ev : Int) ≤ 1024 := by omega
        have hev0 : ((ev : Int) == 0) = false := by rw [beq_eq_false_iff_ne]; omega
        obtain ⟨rs, hrs⟩ : ∃ x, x = (n5 + ev - 1) / ev := ⟨_, rfl⟩
        have hdi : ((n5 : Int) + (ev : Int) - 1) / (ev : Int) = (rs : Int) := by
          have : ((n5 + ev - 1 : Nat) : Int) = (n5 : Int) + (ev : Int) - 1 := by omega
          rw [← this, ← Int.natCast_ediv, hrs]
        have Hrs := Lib.hid hrs
        have HB := Lib.hid (HBd.out W0 hb ev hev)
        clear hrs
        by_cases hrm : rs = my
        · subst hrm
          have e1 : (((n5 : Int) + (ev : Int) - 1) / (ev : Int) != (rs : Int)) = false := by rw [hdi]; simp
          go_wp2_with fail
          refine HB.out.mono ?_
          rintro e w2 ⟨err, cb, A6, c6, hRB, rfl, hc6, hr6, _, hb6⟩
          have hbx2 := hb.trans (hb6.mono hb.size)
          have hbx3 := hb5.trans (hbx2.mono hz1)
          have r1 := run_str (P := Try.prog) Try.underlying25 Try.underlying5 Try.underlying9 (c := c6) hr6
          have r2 := HS2.out w2 hbx3 0
          rw [show w2.drewN 0 = w2 from rfl] at r2
          rw [HO.out] at hRB
          by_cases hfd : err = 0 ∧ cb = b
          · obtain ⟨rfl, rfl⟩ := hfd
            obtain ⟨hri, hbd⟩ := rb_ok hRB rfl
            have HG := Lib.hid (ck_good hbl Ht.out he1 hev hri hbd)
            have HP2 := HPr.out.below hbx2 (Nat.le_refl _)
            clear hRB
            go_wp2
            go_ret3
            exact .inl ⟨l, ev, A5, n5, c5, O, HG.out, rfl, he1, hev, HP2.more hbx2.size |> fun h => h, HO.out, Ht.out, hbx3⟩
          · have HN2 := Lib.hid (show ∀ e', 1 ≤ e' → e' < ev + 1 → ¬ goodE b l e' from fun e' h1 h2 => by
              rcases Nat.lt_or_ge e' ev with h | h
              · exact HNo.out e' h1 h
              · obtain rfl : e' = ev := by omega
                intro hg
                exact hfd (rb_good hRB hbl h1 hev hg))
            have HE := Lib.hid (fun (b1 : 0 < n5) (b2 : n5 ≤ ev) => (ck_none hbl (by rw [HNb.out]; exact Hl.out) (fun e' h1 _ _ h4 => HN2.out e' h1 (by have := h4 (by rw [HN.out]; exact b1); rw [HN.out] at this; omega)) : ckB b = .error 201))
            by_cases h0 : err = 0
            · subst h0
              have hcb : (cb == b) = false := by rw [beq_eq_false_iff_ne]; exact fun h => hfd ⟨rfl, h⟩
              clear hRB hfd HNo HB
              go_wp2
              all_goals first
                | exact ⟨⟨ev + 1, by omega, by omega, by go_num, HN2, hbx2⟩, by simp [intOf]; omega⟩
                | (go_ret3
                   exact .inr ⟨201, HE.out (by assumption) (by assumption), rfl, hbx3⟩)
            · have e0 : (err == 0) = false := by rw [beq_eq_false_iff_ne]; exact h0
              clear hRB hfd HNo HB
              go_wp2
              all_goals first
                | exact ⟨⟨ev + 1, by omega, by omega, by go_num, HN2, hbx2⟩, by simp [intOf]; omega⟩
                | (go_ret3
                   exact .inr ⟨201, HE.out (by assumption) (by assumption), rfl, hbx3⟩)
        · have e1 : (((n5 : Int) + (ev : Int) - 1) / (ev : Int) != (my : Int)) = true := by rw [hdi, bne_iff_ne]; omega
          have HN2 := Lib.hid (show ∀ e', 1 ≤ e' → e' < ev + 1 → ¬ goodE b l e' from fun e' h1 h2 => by
            rcases Nat.lt_or_ge e' ev with h | h
            · exact HNo.out e' h1 h
            · obtain rfl : e' = ev := by omega
              intro hg
              have := hg.1
              rw [HN.out, ← Hrs.out, ← Hmy.out] at this
              exact hrm this)
          clear HNo HB
          go_wp2
          go_roundw
          case rel => exact ⟨ev + 1, by omega, by omega, by go_num, HN2, hb⟩
          case measure => simp [intOf]; omega
      · have k1 : ¬ (ev : Int) ≤ 1024 := by omega
        have HE := Lib.hid (ck_none hbl (by rw [HNb.out]; exact Hl.out) (fun e' h1 h2 _ _ => HNo.out e' h1 (by omega)))
        have hbx := hb5.trans (hb.mono hz1)
        go_wp2
        go_ret3
        exact .inr ⟨201, HE.out, rfl, hbx⟩
  · have HE := Lib.hid (ck_rfnone hbl (by rw [HNb.out]; exact hl))
    clear hl HS2 HEn HF
    go_wp2
    go_ret3
    exact .inr ⟨201, HE.out, rfl, hb5⟩
/-- What the reference's Read answers. -/
def RrPost (w : World) (b : List UInt8) (e : Ending) (w' : World) : Prop :=
  (∃ (l : List Pl) (ev : Nat) (A : Option Addr) (n c : Nat) (O : List Pr), ckB b = .ok (ens l ev, plTo l ev l.length) ∧ e = .returned (.tuple #[.slice A n c, .int .i64 0]) ∧ Prs w' w'.heap.size A n O ∧ O.map Pr.pl = l ∧ tot l ≤ 16777216 ∧ Below w.heap.size w w') ∨
  (∃ err, ckB b = .error err ∧ e = .returned (.tuple #[.slice none 0 0, .int .i64 err]) ∧ Below w.heap.size w w')
set_option maxRecDepth 40000 in
set_option maxHeartbeats 800000 in
theorem c_rBlRead (w : World) {B n c : Nat} {A : Option Addr} {b : List UInt8} (hr : Rd w B A n (bcs b)) (hB : B ≤ w.heap.size) (hc : n ≤ c) (hn : n ≤ 4000) :
    Calls Try.prog 15 #[.slice A n c] w (RrPost w b) := by
  have HR := Lib.hid (c_rRead w hr hB hc hn)
  clear hr
  go_enter Try.func15, Try.ntmps15
  go_wp2_with fail
  refine HR.out.mono ?_
  rintro e w1 (⟨l, ev, A5, n5, c5, O, hk, rfl, _, _, hP, hO, ht, hb⟩ | ⟨err, hk, rfl, hb⟩)
  · have Hk := Lib.hid hk
    have HO := Lib.hid hO
    have HP := Lib.hid hP
    clear hk hO hP
    go_wp2
    go_ret2
    exact .inl ⟨l, ev, A5, n5, c5, O, Hk.out, rfl, HP.out, HO.out, ht, hb⟩
  · have Hk := Lib.hid hk
    clear hk
    go_wp2
    go_ret2
    exact .inr ⟨err, Hk.out, rfl, hb⟩
/-- What the reference's Restarts answers. -/
def RrsPost (w : World) (b : List UInt8) (e : Ending) (w' : World) : Prop :=
  (∃ (l : List En) (ps : List Nat) (A : Option Addr) (c : Nat), ckB b = .ok (l, ps) ∧ e = .returned (.tuple #[.slice A ps.length c, .int .i64 0]) ∧ Rd w' w'.heap.size A ps.length (ncs ps) ∧ Below w.heap.size w w') ∨
  (∃ err, ckB b = .error err ∧ e = .returned (.tuple #[.slice none 0 0, .int .i64 err]) ∧ Below w.heap.size w w')
set_option maxRecDepth 40000 in
set_option maxHeartbeats 800000 in
theorem c_rRestarts (w : World) {B n c : Nat} {A : Option Addr} {b : List UInt8} (hr : Rd w B A n (bcs b)) (hB : B ≤ w.heap.size) (hc : n ≤ c) (hn : n ≤ 4000) :
    Calls Try.prog 17 #[.slice A n c] w (RrsPost w b) := by
  have HR := Lib.hid (c_rRead w hr hB hc hn)
  clear hr
  go_enter Try.func17, Try.ntmps17
  go_wp2_with fail
  refine HR.out.mono ?_
  rintro e w1 (⟨l, ev, A5, n5, c5, O, hk, rfl, he1, he2, hP, hO, ht, hb⟩ | ⟨err, hk, rfl, hb⟩)
  · have Hk := Lib.hid hk
    have HO := Lib.hid hO
    have HC := Lib.hid (c_rPlaces w1 (c := c5) (every := ev) hP (Nat.le_refl _) he1 he2 (by rw [hO]; exact ht))
    clear hk hO hP ht
    go_wp2_with fail
    refine HC.out.mono ?_
    rintro e w2 ⟨v, u, rfl, _, hu, hb2⟩
    rw [HO.out] at hu
    obtain ⟨np, hnp⟩ : ∃ x, x = (plTo l ev l.length).length := ⟨_, rfl⟩
    obtain ⟨A6, c6, rfl, hc6⟩ := hu.shapeN (n := np) (by rw [ncs_length, hnp])
    have hR := Lec.Own.rd hu
    have hbx := hb.trans (hb2.mono hb.size)
    have Hnp := Lib.hid hnp
    have HU := Lib.hid hR
    clear hnp hu hR
    go_wp2
    go_ret2
    exact .inl ⟨_, _, A6, c6, Hk.out, by rw [← Hnp.out]; rfl, by rw [← Hnp.out]; exact HU.out, hbx⟩
  · have Hk := Lib.hid hk
    have hne : (err != 0) = true := by have := ckB_err hk; rw [bne_iff_ne]; omega
    clear hk
    go_wp2
    go_ret2
    exact .inr ⟨err, Hk.out, rfl, hb⟩
end Go.Proofs.Ytjcifmbbdofjiaa
