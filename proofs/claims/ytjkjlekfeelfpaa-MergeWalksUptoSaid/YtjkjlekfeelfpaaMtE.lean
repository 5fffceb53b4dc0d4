/- Layer 23: an iterator over several lists stands where one over all of them would (MergeWalks). -/
import Derived.Test.YtjkjlekfeelfpaaOpenM
namespace Go.Proofs.Ytjkjlekfeelfpaa
open Go.RowKit Go.Lec Go.Op
/-- Where it stands: nowhere yet, or at a place. -/
def Stands (all : List PairB) (D : Nat → Prop) (w : World) (X : It) (steps : Nat) : Int → Prop
  | .ofNat q => q ≤ all.length ∧ ItAt all D w X steps q
  | .negSucc k => k = 0 ∧ steps = 0 ∧ Makes X all ∧ (∀ b, D b → b < w.heap.size) ∧ ItM D w X 0 0
/-- Behind a step: it stands at a place. -/
def MwCut (all : List PairB) (nw : Nat) (X : It) (wb : World) (sb : Nat) (sv : Array Value) (most : Nat) (v7 v10 : Value) (wc : World) : Prop :=
  ∃ (q st2 : Nat) (D2 : Nat → Prop) (X2 : It), v7 = .int .i64 (q : Int) ∧ v10 = .bool (decide (q < nw)) ∧ q ≤ nw ∧ st2 ≤ most ∧ Hid (Same X X2) ∧ Hid (ItAt all D2 wc X2 st2 q) ∧ Hid (Below wb.heap.size wb wc) ∧ Hid (Bk wc sb 48 sv)
theorem MwCut.below {all : List PairB} {nw : Nat} {X : It} {wb : World} {sb : Nat} {sv : Array Value} {most : Nat} {v7 v10 : Value} {wc wc' : World} (h : MwCut all nw X wb sb sv most v7 v10 wc) (hb : Below wc.heap.size wc wc') : MwCut all nw X wb sb sv most v7 v10 wc' := by
  obtain ⟨q, st2, D2, X2, h1, h2, h3, h4, h5, h6, h7, h8⟩ := h
  exact ⟨q, st2, D2, X2, h1, h2, h3, h4, h5, Lib.hid (h6.out.below hb), Lib.hid (h7.out.trans (hb.mono h7.out.size)), Lib.hid (h8.out.below hb h8.out.lt)⟩
theorem MwCut.wbelow {all : List PairB} {nw : Nat} {X : It} {wb : World} {sb : Nat} {sv : Array Value} {most : Nat} {v7 v10 : Value} {wc : World} (h : MwCut all nw X wb sb sv most v7 v10 wc) : Below wb.heap.size wb wc := by
  obtain ⟨q, st2, D2, X2, h1, h2, h3, h4, h5, h6, h7, h8⟩ := h
  exact h7.out
theorem MwCut.step {all : List PairB} {nw : Nat} {X : It} {wb : World} {sb : Nat} {sv : Array Value} {most : Nat} {v7 v10 : Value} {wc : World} (h : MwCut all nw X wb sb sv most v7 v10 wc) : Bk wc sb 48 sv := by
  obtain ⟨q, st2, D2, X2, h1, h2, h3, h4, h5, h6, h7, h8⟩ := h
  exact h8.out
theorem mw_now {all : List PairB} {nw : Nat} {X X' : It} {wb V V' : World} {sb : Nat} {sv : Array Value} {st q most : Nat} {D' : Nat → Prop} {e : Ending} (hal : all.length = nw) (hX : Same X X') (hb : Below wb.heap.size wb V) (hs : Bk V sb 48 sv) (hns : sb ∉ X.ctl) (hctl : ∀ b ∈ X.ctl, wb.heap.size ≤ b)
    (hq : q ≤ nw) (hm : st + X.Hs.length ≤ most) (h : NowP all D' V X' st q e V') : e = .returned (.bool (decide (q < nw))) ∧ Hid (MwCut all nw X wb sb sv most (.int .i64 (q : Int)) (.bool (decide (q < nw))) V') := by
  obtain ⟨rfl, D2, X2, st2, hs2, hst2, hI2, hg2, hk2⟩ := h
  rw [hal]
  rw [hX.ctl] at hk2
  rw [hX.len] at hst2
  exact ⟨rfl, Lib.hid ⟨q, st2, D2, X2, rfl, rfl, hq, by omega, Lib.hid (hX.trans hs2), Lib.hid hI2, Lib.hid (hb.trans (hk2.below hctl hb.size)), Lib.hid (hs.kb hk2 hns)⟩⟩
set_option maxRecDepth 100000 in
set_option maxHeartbeats 3200000 in
theorem w_MergeWalks (w : World) {B n c ns cs : Nat} {A As : Option Addr} {Ls : List (Sl Pr)} {Ps : List Stp} (hl : Lists w B n A Ls) (hp : Els encStp w B As ns Ps) (hns : ns ≤ 1048576) :
    Calls Try.prog 5 #[.slice A n c, .slice As ns cs] w (BoolP w true) := by
  have HA := c_awake w
  unfold BoolP at HA
  have HA := Lib.hid HA
  have HL := Lib.hid (fun (V : World) (hV : Below w.heap.size w V) => hl.below hV)
  have Hl := Lib.hid hl
  have Hp := Lib.hid hp
  clear hl hp
  go_enter Try.func5, Try.ntmps5
  go_wp2_with fail
  refine HA.out.mono ?_
  rintro e w1 ⟨rfl, hb1⟩
  have l1 := HL.out w1 hb1
  have HF := c_fewM w1 (c := c) l1.els l1.hB (by have := l1.n; omega) (fun s hs => by have := l1.ns s hs; omega) (by have := l1.tot; omega)
  unfold BoolP at HF
  clear HA
  by_cases hfew : totM (Ls.map Sl.pls) ≤ 5000
  · rw [decide_eq_true hfew] at HF
    have HF := Lib.hid HF
    obtain ⟨f1, f2, f3⟩ := Hl.out.few hfew
    clear l1 hfew
    go_wp2_with fail
    refine HF.out.mono ?_
    rintro e w2 ⟨rfl, hb2⟩
    have hb02 := hb1.trans (hb2.mono hb1.size)
    have Hb02 := Lib.hid hb02
    clear HF hb1 hb2
    by_cases h100 : 100 < ns
    · have h100' : (100 : Int) < (ns : Int) := by omega
      go_wp2
      go_ret
      exact ⟨rfl, Hb02.out⟩
    · have h100' : ¬ (100 : Int) < (ns : Int) := by omega
      have l2 := HL.out w2 hb02
      have HW := c_AllM w2 (cc := c) l2.els l2.hB (by omega) (by omega)
      unfold AllPost at HW
      have HW := Lib.hid HW
      clear l2 hb02
      go_wp2_with fail
      refine HW.out.mono ?_
      rintro e w3 ⟨Aw, nw, cw, O, rfl, hncw, hnl, hO, hOm, hOp, hb3⟩
      have hb03 := Hb02.out.trans (hb3.mono Hb02.out.size)
      have HO := Lib.hid (fun (V : World) (hV : Below w3.heap.size w3 V) => hO.below hV (Nat.le_refl _))
      have Hb03 := Lib.hid hb03
      have hnw : nw ≤ 5000 := by omega
      obtain ⟨all, hall⟩ : ∃ all, all = O.map Pr.pl := ⟨_, rfl⟩
      have hal : all.length = nw := by rw [hall, List.length_map, hO.len]
      have HOp := Lib.hid (show all = allL (Ls.map Sl.pls).flatten by rw [hall, hOp, flat_pls])
      have Hal := Lib.hid hal
      have Hall := Lib.hid hall
      have l3 := HL.out w3 hb03
      have HSr := c_sources w3 (c := c) l3.els l3.hB (by omega) (fun s hs => by have := f3 s hs; omega)
      unfold SourcesP at HSr
      have HSr := Lib.hid HSr
      have Hlen := Lib.hid (show Ls.length = n from Hl.out.els.2.1)
      clear HW hO hOm hOp hb3 hb03 f3 hall hal l3
      go_wp2_with fail
      refine HSr.out.mono ?_
      rintro e w4 ⟨D, Ss, A4, c4, rfl, hS⟩
      have HN := c_New w4 (c := c4) (rd_ownK hS.own) (Nat.le_refl _) hS.srcs (by rw [hS.len, Hlen.out]; omega) (fun b hb => (hS.dlt b hb).2)
      unfold NewP at HN
      have HN := Lib.hid HN
      have HS := Lib.hid hS
      clear hS HSr
      go_wp2_with fail
      refine HN.out.mono ?_
      rintro e w5 ⟨X, D5, rfl, hI5, hX5, hb5, hg5, hib5, hhb5⟩
      have hmk : Makes X all := by
        have h1 := new_makes hX5
        rw [HS.out.srcL_] at h1
        refine ⟨by rw [h1, HOp.out]; exact all_of_all _, fun l hl => ?_⟩
        rw [h1] at hl
        obtain ⟨x, _, rfl⟩ := List.mem_map.1 hl
        exact (allL_all x).srt
      have hctl : ∀ b ∈ X.ctl, w3.heap.size ≤ b := fun b hb => by
        have hz := HS.out.below.size
        rcases ctl_mem.1 hb with rfl | ⟨h, hh, rfl | rfl⟩
        · omega
        · have := hhb5 h hh; omega
        · refine HS.out.sge h.src ?_
          have h1 : h.src ∈ Ss.filterMap id := by rw [← hX5]; exact List.mem_map.2 ⟨h, hh, rfl⟩
          obtain ⟨o, ho, he⟩ := List.mem_filterMap.1 h1
          have he : o = some h.src := he
          rw [← he]; exact ho
      have hXn : X.Hs.length ≤ 5000 := by
        have h1 := congrArg List.length hX5
        rw [List.length_map] at h1
        have h2 := List.length_filterMap_le (id : Option (Nat × Sl Pr) → Option (Nat × Sl Pr)) Ss
        have h3 := HS.out.len
        have h4 := Hlen.out
        omega
      have HS5 := Lib.hid (show Stands all D5 w5 X 0 (-1) from ⟨rfl, rfl, hmk, fun b hb => (hg5.new_ b hb).elim (fun h => Nat.lt_of_lt_of_le (HS.out.dlt b h).2 hg5.size) (fun h => h.2), hI5⟩)
      have Hctl := Lib.hid hctl
      have Hb35 := Lib.hid (HS.out.below.trans (hb5.mono HS.out.below.size))
      clear HN HS hI5 hX5 hb5 hg5 hib5 hhb5 hmk hctl
      go_wp2
      go_loopw [7, 32] (fun v7 v32 wr => ∃ (k st : Nat) (at_ : Int) (D' : Nat → Prop) (X' : It), k ≤ ns ∧ v7 = .int .i64 at_ ∧ v32 = .int .i64 (k : Int) ∧ -1 ≤ at_ ∧ at_ ≤ (nw : Int) ∧ st ≤ k * X.Hs.length ∧ Hid (Same X X') ∧ Hid (Stands all D' wr X' st at_) ∧ Below w3.heap.size w3 wr) (fun _ v32 _ => ns - (intOf v32).toNat)
      case atStart => exact ⟨0, 0, -1, D5, X, Nat.zero_le _, rfl, rfl, by omega, by omega, by omega, Lib.hid (Same.refl X), HS5, Hb35.out⟩
      case round =>
        obtain ⟨k, st, at_, D', X', hk, rfl, rfl, ha1, ha2, hst, HSm, HSt, hbr⟩ := hrel
        clear HS5
        by_cases hlt : k < ns
        · obtain ⟨b0, o0, m, rfl, hb0, hmk, _, hmok, hmcell⟩ := Hp.out.at hlt
          have hb0r := Hb03.out.trans (hbr.mono Hb03.out.size)
          have c0 : wr.cell? ⟨b0, o0 + k * 2, none⟩ = some (.int .i64 m.kd) := hmcell wr (hb0r.mono Hl.out.hB) 0 _ rfl
          have c1 : wr.cell? ⟨b0, o0 + k * 2 + 1, none⟩ = some (.slice m.A m.n m.c) := hmcell wr (hb0r.mono Hl.out.hB) 1 _ rfl
          have hb4 := (Below.refl wr.heap.size wr).alloc (Nat.le_refl _) (.cells #[.int .i64 m.kd, .slice m.A m.n m.c] 48)
          have N4 := Bk.new_ wr 48 #[.int .i64 m.kd, .slice m.A m.n m.c]
          obtain ⟨W1, hW1⟩ : ∃ W, W = wr.alloc (.cells #[.int .i64 m.kd, .slice m.A m.n m.c] 48) := ⟨_, rfl⟩
          obtain ⟨sb, hsb⟩ : ∃ sb, sb = wr.heap.size := ⟨_, rfl⟩
          rw [← hW1] at hb4 N4
          rw [← hsb] at N4
          have hxl : ∀ b ∈ X.ctl, b < wr.heap.size := fun b hb => by
            have hs := HSt.out
            rw [← HSm.out.ctl] at hb
            cases at_ with
            | ofNat q => exact hs.2.it.lt b hb
            | negSucc j => exact hs.2.2.2.2.lt b hb
          have hns : sb ∉ X.ctl := fun hm => by have := hxl _ hm; omega
          have Hns := Lib.hid hns
          have HbW := Lib.hid (hbr.trans (hb4.mono hbr.size))
          have HSt1 := Lib.hid (show Stands all D' W1 X' st at_ from by
            have hs := HSt.out
            cases at_ with
            | ofNat q => exact ⟨hs.1, hs.2.below hb4⟩
            | negSucc j => exact ⟨hs.1, hs.2.1, hs.2.2.1, fun b hb => Nat.lt_of_lt_of_le (hs.2.2.2.1 b hb) hb4.size, hs.2.2.2.2.below hb4⟩)
          have HN4 := Lib.hid N4
          obtain ⟨hmr, hmc, hmn⟩ := stp_ok hmok
          have HKr := Lib.hid hmr
          have q0 := N4.cell 0
          have q1 := N4.cell 1
          have HW1 := Lib.hid hW1
          have Hsb := Lib.hid hsb
          have hkm : k * X.Hs.length ≤ 100 * 5000 := Nat.mul_le_mul (by omega) hXn
          have hkm1 : k * X.Hs.length + X.Hs.length = (k + 1) * X.Hs.length := by rw [Nat.add_mul, Nat.one_mul]
          have Hkm1 := Lib.hid hkm1
          clear hb4 N4 hxl hns HSt hmcell hmok hmr hW1 hsb hkm1 hbr hb0r hmk
          go_upto_block 2 with fail
          rw [← HW1.out, ← Hsb.out]
          go_cut [7, 10] from 38 to 73 (fun v7 v10 wc => MwCut all nw X w3 sb #[.int .i64 m.kd, .slice m.A m.n m.c] ((k + 1) * X.Hs.length) v7 v10 wc)
          case first =>
            by_cases hk0 : m.kd = 0
            · have hk0i : (m.kd == 0) = true := by rw [hk0]; rfl
              have HF := Lib.hid (show Calls Try.prog 18 #[.pointer (some ⟨X.ib, 0, none⟩)] W1 (fun e w' => e = .returned (.bool (decide (0 < nw))) ∧ Hid (MwCut all nw X w3 sb #[.int .i64 m.kd, .slice m.A m.n m.c] ((k + 1) * X.Hs.length) (.int .i64 ((0 : Nat) : Int)) (.bool (decide (0 < nw))) w')) from by
                have hs := HSt1.out
                rw [← HSm.out.ib]
                cases at_ with
                | ofNat q => exact (i_First hs.2.it hs.2.ms hs.2.lt (by omega)).mono fun _ _ h => mw_now Hal.out HSm.out HbW.out HN4.out Hns.out Hctl.out (Nat.zero_le _) (by rw [← Hkm1.out]; omega) h
                | negSucc j => obtain ⟨_, rfl, hm, hl, hI⟩ := hs; exact (i_First hI hm hl (by omega)).mono fun _ _ h => mw_now Hal.out HSm.out HbW.out HN4.out Hns.out Hctl.out (Nat.zero_le _) (by rw [← Hkm1.out]; omega) h)
              clear hk0
              go_wp2_with fail
              refine HF.out.mono ?_
              rintro e w6 ⟨rfl, hcut⟩
              go_wp2
              go_meet
              exact hcut.out
            · have hk0i : (m.kd == 0) = false := by rw [beq_eq_false_iff_ne]; exact hk0
              by_cases hk1 : m.kd = 1
              · have hk1i : (m.kd == 1) = true := by rw [hk1]; rfl
                clear hk0 hk1
                cases at_ with
                | negSucc j =>
                  obtain ⟨rfl, rfl, hm, hl, hI⟩ := HSt1.out
                  have hF := (i_Next0 hI hm hl (by omega)).mono fun _ _ h => mw_now (wb := w3) (sb := sb) (most := (k + 1) * X.Hs.length) Hal.out HSm.out HbW.out HN4.out Hns.out Hctl.out (Nat.zero_le _) (by rw [← Hkm1.out]; omega) h
                  rw [HSm.out.ib] at hF
                  have HF := Lib.hid hF
                  have hwp : IntKind.i64.wrap (Int.negSucc 0 + 1) = 0 := rfl
                  have hlt1 : Int.negSucc 0 < (nw : Int) := by omega
                  clear hF hm hl hI
                  go_wp2_with fail
                  refine HF.out.mono ?_
                  rintro e w6 ⟨rfl, hcut⟩
                  go_wp2
                  go_meet
                  exact hcut.out
                | ofNat q =>
                  obtain ⟨hq, hI⟩ := HSt1.out
                  rw [Hal.out] at hq
                  by_cases hqn : q < nw
                  · have hF := (i_Next hI (by rw [Hal.out]; exact hqn) (by omega)).mono fun _ _ h => mw_now (wb := w3) (sb := sb) (most := (k + 1) * X.Hs.length) Hal.out HSm.out HbW.out HN4.out Hns.out Hctl.out (by omega) (by rw [← Hkm1.out]; omega) h
                    rw [HSm.out.ib] at hF
                    have HF := Lib.hid hF
                    have hwp : IntKind.i64.wrap (Int.ofNat q + 1) = ((q + 1 : Nat) : Int) := by rw [IntWalk.i64_in _ (by simp only [Int.ofNat_eq_natCast]; omega)]; simp
                    have hlt1 : Int.ofNat q < (nw : Int) := by simp only [Int.ofNat_eq_natCast]; omega
                    clear hF hI
                    go_wp2_with fail
                    refine HF.out.mono ?_
                    rintro e w6 ⟨rfl, hcut⟩
                    go_wp2
                    go_meet
                    exact hcut.out
                  · obtain rfl : q = nw := by omega
                    have hF := i_NextEnd hI (by rw [Hal.out]; exact hqn)
                    rw [HSm.out.ib] at hF
                    have HF := Lib.hid hF
                    have HI := Lib.hid hI
                    have hlt1 : ¬ Int.ofNat q < (q : Int) := by simp only [Int.ofNat_eq_natCast]; omega
                    clear hF hI
                    go_wp2_with fail
                    refine HF.out.mono ?_
                    rintro e w6 ⟨rfl, rfl⟩
                    go_wp2
                    go_meet
                    exact ⟨q, st, D', X', rfl, by simp, Nat.le_refl _, by rw [← Hkm1.out]; omega, HSm, HI, HbW, HN4⟩
              · have hk1i : (m.kd == 1) = false := by rw [beq_eq_false_iff_ne]; exact hk1
                clear hk0 hk1
                obtain ⟨P, hP⟩ : ∃ P, P = posD (fun x => bytesLess x m.key) all := ⟨_, rfl⟩
                have hPn : P ≤ nw := by rw [hP, ← Hal.out]; exact posD_le _ _
                have h0W := Hb03.out.trans (HbW.out.mono Hb03.out.size)
                have hkr := (HKr.out).below (h0W.mono Hl.out.hB) (Nat.le_refl _)
                have hkB : B ≤ W1.heap.size := Nat.le_trans Hl.out.hB h0W.size
                have hkc : 0 < m.n → ∀ a, m.A = some a → a.block ∉ X'.ctl := fun h0 a ha hm => by
                  rw [HSm.out.ctl] at hm
                  obtain ⟨b', o', e', hb', _⟩ := HKr.out.2 h0
                  rw [ha] at e'
                  cases e'
                  have h9 : w3.heap.size ≤ b' := Hctl.out _ hm
                  have := Hb03.out.size
                  have := Hl.out.hB
                  omega
                have HF := Lib.hid (show Calls Try.prog 20 #[.pointer (some ⟨X.ib, 0, none⟩), .slice m.A m.n m.c] W1 (fun e w' => e = .returned (.bool (decide (P < nw))) ∧ Hid (MwCut all nw X w3 sb #[.int .i64 m.kd, .slice m.A m.n m.c] ((k + 1) * X.Hs.length) (.int .i64 ((P : Nat) : Int)) (.bool (decide (P < nw))) w')) from by
                  have hs := HSt1.out
                  rw [← HSm.out.ib]
                  cases at_ with
                  | ofNat q => exact (i_Seek hs.2.it hs.2.ms hs.2.lt (by omega) hkr hkB hkc).mono fun _ _ h => by rw [← hP] at h; exact mw_now Hal.out HSm.out HbW.out HN4.out Hns.out Hctl.out hPn (by rw [← Hkm1.out]; omega) h
                  | negSucc j => obtain ⟨_, rfl, hm, hl, hI⟩ := hs; exact (i_Seek hI hm hl (by omega) hkr hkB hkc).mono fun _ _ h => by rw [← hP] at h; exact mw_now Hal.out HSm.out HbW.out HN4.out Hns.out Hctl.out hPn (by rw [← Hkm1.out]; omega) h)
                have Hbelow := Lib.hid (show ∀ j, (h : j < all.length) → bytesLess (all[j]).1 m.key = decide (j < P) from fun j h => by
                  have hsr : Srt all := by rw [HOp.out]; exact (allL_all _).srt
                  by_cases hj : j < P
                  · rw [decide_eq_true hj]; rw [hP] at hj; exact posD_lt (D := fun x => bytesLess x m.key) h hj
                  · rw [decide_eq_false hj]
                    cases hb : bytesLess (all[j]).1 m.key with
                    | false => rfl
                    | true =>
                      have h0 : posD (fun x => bytesLess x m.key) all < all.length := by rw [← hP]; omega
                      have h1 : bytesLess _ m.key = false := posD_at (D := fun x => bytesLess x m.key) h0
                      have h2 := srt_le hsr h0 h (by rw [← hP]; omega)
                      rw [nless_less h2 hb] at h1
                      cases h1)
                clear hP hkr hkc
                go_wp2_with fail
                refine HF.out.mono ?_
                rintro e w6 ⟨rfl, hcut⟩
                clear HF q0 q1
                go_wp2
                go_loopw [7] (fun v7 wr => ∃ j : Nat, j ≤ P ∧ v7 = .int .i64 (j : Int) ∧ Below w6.heap.size w6 wr) (fun v7 _ => nw - (intOf v7).toNat)
                case atStart => exact ⟨0, Nat.zero_le _, rfl, Below.refl _ _⟩
                case round =>
                  obtain ⟨j, hj, rfl, hb6⟩ := hrel
                  have hb36 := (hcut.out).wbelow.trans (hb6.mono (hcut.out).wbelow.size)
                  by_cases hjn : j < nw
                  · have hN := ((hcut.out).step).below hb6 ((hcut.out).step).lt
                    have q0 := hN.cell 0
                    have q1 := hN.cell 1
                    obtain ⟨b2, o2, m2, rfl, hb2, hm2, _, hok2, hcell2⟩ := (HO.out wr hb36).cell2 hjn
                    obtain ⟨d0, d1⟩ := hcell2 _ (Below.refl _ _)
                    have hkr := (HKr.out).below ((Hb03.out.trans (hb36.mono Hb03.out.size)).mono Hl.out.hB) (Nat.le_refl _)
                    have i1 : (0 : Int) ≤ (j : Int) := by omega
                    have i2 : (j : Int) < (nw : Int) := by omega
                    have hcv1 := fun k : Nat => run_str (P := Try.prog) Try.underlying34 Try.underlying5 Try.underlying9 (c := m2.c1) (hok2.1.drewN k)
                    have hcv2 := fun k : Nat => run_str (P := Try.prog) Try.underlying34 Try.underlying5 Try.underlying9 (c := m.c) (hkr.drewN k)
                    have hjl : j < all.length := by rw [Hal.out]; exact hjn
                    have hkey : (all[j]).1 = m2.key := by
                      have h1 : all[j]? = some m2.pl := by rw [Hall.out, List.getElem?_map, hm2]; rfl
                      rw [(List.getElem?_eq_some_iff.1 h1).2]; rfl
                    have hless := Hbelow.out j hjl
                    rw [hkey] at hless
                    clear hN hcell2 hok2 hkr hm2 hkey hjl
                    by_cases hjP : j < P
                    · rw [decide_eq_true hjP] at hless
                      have HL := Lib.hid hless
                      clear hless
                      go_wp2
                      go_quiet (fail)
                      simp only [HL.out]
                      go_wp2
                      exact ⟨⟨j + 1, by omega, by go_num, belowNm hb6 nq⟩, by simp [intOf]; omega⟩
                    · rw [decide_eq_false hjP] at hless
                      have HL := Lib.hid hless
                      clear hless
                      go_wp2
                      go_quiet (fail)
                      simp only [HL.out]
                      go_wp2
                      go_meet
                      obtain rfl : j = P := by omega
                      exact (hcut.out).below (belowNm hb6 nq)
                  · have hjn' : ¬ (j : Int) < (nw : Int) := by omega
                    go_wp2
                    go_quiet (fail)
                    go_wp2
                    go_meet
                    obtain rfl : j = P := by omega
                    exact (hcut.out).below (belowNm hb6 nq)
          case rest =>
            obtain ⟨q, st2, D2, X2, rfl, rfl, hq, hst2, HSm2, HI2, HbC, HNC⟩ := hcut
            clear HSt1 HN4 HbW q0 q1
            have hb0c := Hb03.out.trans (HbC.out.mono Hb03.out.size)
            by_cases hqn : q < nw
            · have hql : q < all.length := by rw [Hal.out]; exact hqn
              have hPr := i_Pair HI2.out hql
              unfold PairP at hPr
              rw [HSm2.out.ib] at hPr
              have HPr := Lib.hid hPr
              obtain ⟨b2, o2, ml, rfl, hb2, hml, _, hokl, hcell2⟩ := (HO.out wc HbC.out).cell2 hqn
              have hle : all[q] = ml.pl := by
                have h1 : all[q]? = some ml.pl := by rw [Hall.out, List.getElem?_map, hml]; rfl
                exact (List.getElem?_eq_some_iff.1 h1).2
              have hd : decide (q < nw) = true := decide_eq_true hqn
              rw [hd]
              have i1 : (0 : Int) ≤ (q : Int) := by omega
              have i2 : (q : Int) < (nw : Int) := by omega
              clear hPr hml hd
              go_wp2_with fail
              refine HPr.out.mono ?_
              rintro e w6 ⟨mp, rfl, hm1, hm2, hm3, hb6⟩
              have hb7 := (Below.refl w6.heap.size w6).alloc (Nat.le_refl _) (.cells #[.slice mp.A1 mp.n1 mp.c1, .slice mp.A2 mp.n2 mp.c2] 42)
              have N7 := Bk.new_ w6 42 #[.slice mp.A1 mp.n1 mp.c1, .slice mp.A2 mp.n2 mp.c2]
              obtain ⟨W7, hW7⟩ : ∃ x, x = w6.alloc (.cells #[.slice mp.A1 mp.n1 mp.c1, .slice mp.A2 mp.n2 mp.c2] 42) := ⟨_, rfl⟩
              obtain ⟨pb, hpb⟩ : ∃ x, x = w6.heap.size := ⟨_, rfl⟩
              rw [← hW7] at hb7 N7
              rw [← hpb] at N7
              have p0 := N7.cell 0
              have p1 := N7.cell 1
              have hb57 := hb6.trans (hb7.mono hb6.size)
              obtain ⟨e0, e1⟩ := hcell2 W7 (hb57.mono (by have := HbC.out.size; omega))
              have hm7 := hm1.below hb7 (Nat.le_refl _)
              have hl7 := hokl.below (hb57.mono (by have := HbC.out.size; omega)) (Nat.le_refl _)
              have hmk1 : mp.key = ml.key := by have h := hm3.trans hle; exact congrArg Prod.fst h
              have hmv1 : mp.vl = ml.vl := by have h := hm3.trans hle; exact congrArg Prod.snd h
              have hm71 := hm7.1
              have hm72 := hm7.2.1
              rw [hmk1] at hm71
              rw [hmv1] at hm72
              have s1 : ∀ q, (convert 34 9 (.slice mp.A1 mp.n1 mp.c1)).run Try.prog (W7.drewN q) = .ok (.string ⟨ml.key.toArray⟩) (W7.drewN q) := fun q => run_str (P := Try.prog) Try.underlying34 Try.underlying5 Try.underlying9 (c := mp.c1) (hm71.drewN q)
              have s2 : ∀ q, (convert 34 9 (.slice mp.A2 mp.n2 mp.c2)).run Try.prog (W7.drewN q) = .ok (.string ⟨ml.vl.toArray⟩) (W7.drewN q) := fun q => run_str (P := Try.prog) Try.underlying34 Try.underlying5 Try.underlying9 (c := mp.c2) (hm72.drewN q)
              have s3 : ∀ q, (convert 34 9 (.slice ml.A1 ml.n1 ml.c1)).run Try.prog (W7.drewN q) = .ok (.string ⟨ml.key.toArray⟩) (W7.drewN q) := fun q => run_str (P := Try.prog) Try.underlying34 Try.underlying5 Try.underlying9 (c := ml.c1) (hl7.1.drewN q)
              have s4 : ∀ q, (convert 34 9 (.slice ml.A2 ml.n2 ml.c2)).run Try.prog (W7.drewN q) = .ok (.string ⟨ml.vl.toArray⟩) (W7.drewN q) := fun q => run_str (P := Try.prog) Try.underlying34 Try.underlying5 Try.underlying9 (c := ml.c2) (hl7.2.1.drewN q)
              have Hb57 := Lib.hid hb57
              have HW7 := Lib.hid hW7
              have Hpb := Lib.hid hpb
              clear hm1 hm2 hm3 hm7 hl7 hm71 hm72 hmk1 hmv1 hle hb6 hb7 hb57 hokl hcell2 hW7 hpb N7
              go_upto_region 25 with fail
              rw [← Hpb.out, ← HW7.out]
              go_quiet (fail)
              go_wp2
              refine ⟨⟨k + 1, st2, (q : Int), D2, X2, by omega, rfl, by go_num, by omega, by omega, hst2, HSm2, Lib.hid ⟨by rw [Hal.out]; exact hq, HI2.out.below (belowNm Hb57.out nq)⟩, belowNm (HbC.out.trans (Hb57.out.mono HbC.out.size)) nq⟩, by simp [intOf]; omega⟩
            · have hql : ¬ q < all.length := by rw [Hal.out]; exact hqn
              have hPr := i_PairEnd HI2.out hql
              unfold NoPair at hPr
              rw [HSm2.out.ib] at hPr
              have HPr := Lib.hid hPr
              have hd : decide (q < nw) = false := decide_eq_false hqn
              rw [hd]
              have i1 : (0 : Int) ≤ (q : Int) := by omega
              have i2 : ¬ (q : Int) < (nw : Int) := by omega
              have i3 : decide ((q : Int) < (nw : Int)) = false := decide_eq_false i2
              clear hPr hd
              go_wp2_with fail
              refine HPr.out.mono ?_
              rintro e w6 ⟨rfl, hb6⟩
              have hb7 := (Below.refl w6.heap.size w6).alloc (Nat.le_refl _) (.cells #[.slice none 0 0, .slice none 0 0] 42)
              obtain ⟨W7, hW7⟩ : ∃ x, x = w6.alloc (.cells #[.slice none 0 0, .slice none 0 0] 42) := ⟨_, rfl⟩
              rw [← hW7] at hb7
              have hb57 := hb6.trans (hb7.mono hb6.size)
              have Hb57 := Lib.hid hb57
              have HW7 := Lib.hid hW7
              clear hb6 hb7 hb57 hW7
              go_upto_region 25 with fail
              rw [← HW7.out]
              go_quiet (fail)
              go_wp2
              refine ⟨⟨k + 1, st2, (q : Int), D2, X2, by omega, rfl, by go_num, by omega, by omega, hst2, HSm2, Lib.hid ⟨by rw [Hal.out]; exact hq, HI2.out.below (belowNm Hb57.out nq)⟩, belowNm (HbC.out.trans (Hb57.out.mono HbC.out.size)) nq⟩, by simp [intOf]; omega⟩
        · obtain rfl : k = ns := by omega
          have HC := Lib.hid (show Calls Try.prog 21 #[.pointer (some ⟨X.ib, 0, none⟩)] wr (fun e w' => e = .returned (.int .i64 (st : Int)) ∧ w' = wr) from by
            have hs := HSt.out
            rw [← HSm.out.ib]
            cases at_ with
            | ofNat q => exact c_ISteps wr hs.2.it
            | negSucc j => obtain ⟨_, rfl, _, _, hI⟩ := hs; exact c_ISteps wr hI)
          have hs0 : (0 : Int) ≤ (st : Int) := by omega
          have Hbr := Lib.hid hbr
          clear hbr
          go_wp2_with fail
          refine HC.out.mono ?_
          rintro e w6 ⟨rfl, rfl⟩
          go_wp2
          go_ret
          exact ⟨rfl, Hb03.out.trans (Hbr.out.mono Hb03.out.size)⟩
  · rw [decide_eq_false hfew] at HF
    have HF := Lib.hid HF
    clear l1 hfew
    go_wp2_with fail
    refine HF.out.mono ?_
    rintro e w2 ⟨rfl, hb2⟩
    go_wp2
    go_ret
    exact ⟨rfl, hb1.trans (hb2.mono hb1.size)⟩
end Go.Proofs.Ytjkjlekfeelfpaa
