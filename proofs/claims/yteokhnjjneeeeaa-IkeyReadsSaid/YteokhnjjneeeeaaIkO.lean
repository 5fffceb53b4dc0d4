/- Layer 16: the law IkeyReads: any bytes are read as an internal key, or refused; what is read is written again as these bytes; escapes likewise: the walk. -/
import Derived.Test.YteokhnjjneeeeaaIkN
namespace Go.Proofs.Yteokhnjjneeeeaa
open Go.RowKit Go.Lec

/-- What is read is written again as it stood. -/
theorem enc_dec {l : List UInt8} {K : Key} (h : dec l = .ok K) :
    encB K.ep K.srt K.sq K.kd K.txt = l ∧ encE K.ep K.sq K.kd K.txt = 0 ∧ K.srt.length ≤ 65536 ∧ K.srt.length ≤ l.length ∧ K.txt.length ≤ l.length := by
  unfold dec at h
  split at h
  · cases h
  · rename_i hl2
    split at h
    · cases h
    · rename_i s k hu
      split at h
      · cases h
      · rename_i hr6
        split at h
        · cases h
        · rename_i x t hx
          split at h
          · cases h
          · rename_i hx1
            split at h
            · cases h
            · rename_i hlen
              cases h
              have hkl := unesc_len hu
              rw [List.length_drop] at hkl
              generalize hr : (l.drop 2).drop k = r at *
              have hrl : r.length = l.length - 2 - k := by rw [← hr, List.length_drop, List.length_drop]
              have h2 : (l.take 2).length = 2 := by rw [List.length_take]; omega
              have hn2 := num_lt (l.take 2)
              rw [h2] at hn2
              have hb2 := be_num (l.take 2)
              rw [h2] at hb2
              have h6 : (r.take 6).length = 6 := by rw [List.length_take]; omega
              have hn6 := num_lt (r.take 6)
              rw [h6] at hn6
              have hb6 := be_num (r.take 6)
              rw [h6] at hb6
              have htl : t.length + 1 = r.length - 6 := by rw [← List.length_drop, hx]; simp
              have hxl := x.toNat_lt
              have hok : okKey (num (l.take 2)) (281474976710655 - (num (r.take 6) : Nat)) (1 - (x.toNat : Int)) = true := by
                simp only [okKey, okEpoch, okSeq, Bool.and_eq_true, decide_eq_true_eq]
                simp only [Nat.reducePow] at hn2 hn6
                omega
              refine ⟨?_, ?_, by dsimp only; omega, by dsimp only; omega, by dsimp only; omega⟩
              · unfold encB
                rw [if_pos hok, if_neg (by dsimp only; omega)]
                dsimp only
                rw [Int.toNat_natCast, hb2]
                have hst : stampB (281474976710655 - (num (r.take 6) : Nat)) = r.take 6 := by
                  unfold stampB
                  rw [show (281474976710655 - (281474976710655 - ((num (r.take 6) : Nat) : Int))).toNat = num (r.take 6) from by omega]
                  exact hb6
                have hxx : UInt8.ofNat (1 - (1 - (x.toNat : Int))).toNat = x := by
                  rw [show (1 - (1 - (x.toNat : Int))).toNat = x.toNat from by omega]
                  simp
                rw [hst, hxx, ← escT_unesc hu]
                have e1 : r.take 6 ++ (x :: t) = r := by rw [← hx]; exact List.take_append_drop 6 r
                have e2 : (l.drop 2).take k ++ r = l.drop 2 := by rw [← hr]; exact List.take_append_drop k _
                calc l.take 2 ++ (l.drop 2).take k ++ r.take 6 ++ [x] ++ t = l.take 2 ++ ((l.drop 2).take k ++ (r.take 6 ++ (x :: t))) := by simp
                  _ = l := by rw [e1, e2, List.take_append_drop]
              · unfold encE
                rw [if_pos hok, if_neg (by dsimp only; omega)]

/-- What Decode answers as one: the key, or the zero key and an error. -/
def decV (l : List UInt8) : Key × Int := match dec l with
  | .ok K => (K, 0)
  | .error e => (⟨0, [], 0, 0, []⟩, e)
theorem decV_zero {l : List UInt8} (h : (decV l).2 = 0) : dec l = .ok (decV l).1 := by
  unfold decV at *
  cases hd : dec l with
  | ok K => simp
  | error e => rw [hd] at h; have := dec_err hd; simp only at h; omega
theorem RDecPost.one {w w' : World} {l : List UInt8} {e : Ending} (h : RDecPost w l e w') :
    ∃ v, e = .returned (.tuple #[.agg #[.int .i64 (decV l).1.ep, v, .int .i64 (decV l).1.sq, .int .i64 (decV l).1.kd, .string ⟨(decV l).1.txt.toArray⟩], .int .i64 (decV l).2]) ∧ Own w' w.heap.size 5 v (bcs (decV l).1.srt) ∧ Below w.heap.size w w' := by
  rcases h with ⟨K, v, hd, he, ho, hb⟩ | ⟨err, hd, he, hb⟩
  · refine ⟨v, ?_, ?_, hb⟩
    · rw [he]; unfold decV; rw [hd]; rfl
    · unfold decV; rw [hd]; exact ho
  · refine ⟨.slice none 0 0, ?_, ?_, hb⟩
    · rw [he]; unfold decV; rw [hd]; rfl
    · unfold decV; rw [hd]; exact Own.nil_ _ _ _
/-- What Unescape answers as one. -/
def unV (l : List UInt8) : List UInt8 × Nat × Int := match unesc l with
  | some (s, k) => (s, k, 0)
  | none => ([], 0, 160)
theorem RUnPost.one {w w' : World} {l : List UInt8} {e : Ending} (h : RUnPost w l e w') :
    ∃ v, e = .returned (.tuple #[v, .int .i64 ((unV l).2.1 : Nat), .int .i64 (unV l).2.2]) ∧ Own w' w.heap.size 5 v (bcs (unV l).1) ∧ Below w.heap.size w w' := by
  rcases h with ⟨s, k, v, hd, he, ho, hb⟩ | ⟨hd, he, hb⟩
  · refine ⟨v, ?_, ?_, hb⟩
    · rw [he]; unfold unV; rw [hd]
    · unfold unV; rw [hd]; exact ho
  · refine ⟨.slice none 0 0, ?_, ?_, hb⟩
    · rw [he]; unfold unV; rw [hd]; rfl
    · unfold unV; rw [hd]; exact Own.nil_ _ _ _

set_option maxRecDepth 10000 in
set_option maxHeartbeats 3200000 in
theorem w_IkeyReads (w : World) {B : Nat} {A A2 : Option Addr} {n c n2 c2 : Nat} {l m : List UInt8} (hr : Rd w B A n (bcs l)) (hm : Rd w B A2 n2 (bcs m)) (hB : B ≤ w.heap.size) (hc : n ≤ c) (hn63 : n ≤ 4611686018427387903) (hn63' : n2 ≤ 4611686018427387903) :
    Calls Try.prog 4 #[.slice A n c, .slice A2 n2 c2] w (RetB0 (.bool true) w) := by
  have hln := hr.1
  rw [bcs_length] at hln
  have hlm := hm.1
  rw [bcs_length] at hlm
  have Hln := Lib.hid hln; clear hln
  have Hlm := Lib.hid hlm; clear hlm
  go_enter Try.func4, Try.ntmps4
  go_wp2_with fail
  refine (c_awake _).mono ?_
  rintro e w1 ⟨rfl, hB1⟩
  by_cases hfew : n + n2 ≤ 4000
  · have hfew' : (n : Int) + n2 ≤ 4000 := by omega
    go_wp2_with (first | (at_builtin; (refine wpList_app_sl rfl (.const (.slice none 0 0)) (.tmp 26) rfl slb (by decide) rfl (Own.nil_ _ w1.heap.size _) (Below.refl _ _) (Nat.le_refl _) rfl (hr.below hB1 hB) bcs_one (by simp; omega) ?_); intro v2 w2 ho2 hb2 hs2))
    rw [List.nil_append] at ho2
    have hB2 := hB1.trans (hb2.mono hB1.size)
    obtain ⟨Ac, cc, rfl, hcc⟩ := ho2.shape
    obtain ⟨D, hD⟩ : ∃ D, D = decV l := ⟨_, rfl⟩
    have HD := Lib.hid hD
    clear hD
    refine (c_Decode w2 ho2.rd (Nat.le_refl _) hcc (by rw [bcs_length]; have := Hln.out; omega)).mono ?_
    intro e w3 hp
    obtain ⟨v, rfl, ho3, hb⟩ := hp.one
    rw [← HD.out] at ho3 ⊢
    have hB3 := hB2.trans (hb.mono hB2.size)
    clear hp hB2 hb ho2 hcc hb2 hs2
    obtain ⟨Av, cv, rfl, hcv⟩ := ho3.shape
    have HK3 := Bk.new_ w3 24 #[.int .i64 D.1.ep, .slice Av (bcs D.1.srt).length cv, .int .i64 D.1.sq, .int .i64 D.1.kd, .string ⟨D.1.txt.toArray⟩]
    have ho3' := ho3.alloc (.cells #[.int .i64 D.1.ep, .slice Av (bcs D.1.srt).length cv, .int .i64 D.1.sq, .int .i64 D.1.kd, .string ⟨D.1.txt.toArray⟩] 24)
    go_wp2_with fail
    refine (c_rDecode (w3.alloc (.cells #[.int .i64 D.1.ep, .slice Av (bcs D.1.srt).length cv, .int .i64 D.1.sq, .int .i64 D.1.kd, .string ⟨D.1.txt.toArray⟩] 24)) (hr.below (hB3.alloc hB3.size _) hB) (Nat.le_trans hB (hB3.alloc hB3.size _).size) hc (by omega)).mono ?_
    intro e w4 hp
    obtain ⟨v, rfl, ho4, hb⟩ := hp.one
    rw [← HD.out] at ho4 ⊢
    rw [World.size_alloc] at hb ho4
    have HK4 := HK3.below hb (Nat.lt_succ_self _)
    have hB4 := (hB3.alloc hB3.size (.cells #[.int .i64 D.1.ep, .slice Av (bcs D.1.srt).length cv, .int .i64 D.1.sq, .int .i64 D.1.kd, .string ⟨D.1.txt.toArray⟩] 24)).trans (hb.mono (by have := hB3.size; omega))
    have ho34 := ho3'.below hb (by simp)
    clear hp hb hB3 ho3 ho3' HK3
    obtain ⟨Aw, cw, rfl, hcw⟩ := ho4.shape
    have HK5 := HK4.alloc (.cells #[.int .i64 D.1.ep, .slice Aw (bcs D.1.srt).length cw, .int .i64 D.1.sq, .int .i64 D.1.kd, .string ⟨D.1.txt.toArray⟩] 24)
    have HO5 := Bk.new_ w4 24 #[.int .i64 D.1.ep, .slice Aw (bcs D.1.srt).length cw, .int .i64 D.1.sq, .int .i64 D.1.kd, .string ⟨D.1.txt.toArray⟩]
    have hB5 := hB4.alloc hB4.size (.cells #[.int .i64 D.1.ep, .slice Aw (bcs D.1.srt).length cw, .int .i64 D.1.sq, .int .i64 D.1.kd, .string ⟨D.1.txt.toArray⟩] 24)
    have ho35 := ho34.alloc (.cells #[.int .i64 D.1.ep, .slice Aw (bcs D.1.srt).length cw, .int .i64 D.1.sq, .int .i64 D.1.kd, .string ⟨D.1.txt.toArray⟩] 24)
    have ho45 := ho4.alloc (.cells #[.int .i64 D.1.ep, .slice Aw (bcs D.1.srt).length cw, .int .i64 D.1.sq, .int .i64 D.1.kd, .string ⟨D.1.txt.toArray⟩] 24)
    have hs5 := HK5.lt
    have hso5 := HO5.lt
    have hk := HK5.cell
    have hk2 := HO5.cell
    generalize w3.heap.size = g3 at *
    go_wp2_with fail
    generalize hw5 : w4.alloc (.cells #[.int .i64 D.1.ep, .slice Aw (bcs D.1.srt).length cw, .int .i64 D.1.sq, .int .i64 D.1.kd, .string ⟨D.1.txt.toArray⟩] 24) = w5 at *
    clear hw5 hB4 ho34 ho4 HK4
    generalize w4.heap.size = g4 at *
    refine (c_same w5 D.1.ep D.1.sq D.1.kd (t := D.1.txt) ho35.rd ho45.rd (Nat.le_refl _)).mono ?_
    rintro e w6 ⟨rfl, hb⟩
    have HK6 := HK5.below hb hs5
    have ho36 := ho35.below hb (Nat.le_refl _)
    have hB6 := hB5.trans (hb.mono hB5.size)
    have hs6 := HK6.lt
    clear hk hk2 HK5 HO5 hB5 ho35 ho45 hb hs5 hso5
    have hk := HK6.cell
    go_upto_if 46 with (fail)
    go_cut [9, 10] (fun _ _ wc => Below w.heap.size w wc)
    case first =>
      by_cases hd0 : D.2 = 0
      · have hdec : dec l = .ok D.1 := by rw [HD.out]; exact decV_zero (by rw [← HD.out]; exact hd0)
        obtain ⟨h1, h2, h3, h4, h5⟩ := enc_dec hdec
        have H1 := Lib.hid h1
        have H2 := Lib.hid h2
        have hd1 : (D.2 == 0) = true := by simpa using hd0
        clear hdec h1 h2 hd0
        go_wp2_with fail
        refine (c_Encode w6 D.1.ep D.1.sq D.1.kd (t := D.1.txt) ho36.rd (Nat.le_refl _) (by rw [bcs_length]; exact h3)).mono ?_
        rintro e w7 ⟨vb, rfl, ho7, hb⟩
        rw [H1.out] at ho7
        rw [H2.out]
        have hB7 := hB6.trans (hb.mono hB6.size)
        obtain ⟨Ab, cb, rfl, hcb⟩ := ho7.shape
        have hcon1 := run_str (P := Try.prog) Try.underlying22 Try.underlying5 Try.underlying9 (c := cb) ho7.rd
        have hcon2 := run_str (P := Try.prog) Try.underlying22 Try.underlying5 Try.underlying9 (c := c) (hr.below hB7 hB)
        clear ho7 hb hk
        go_wp2_with fail
        go_meet
        exact hB7
      · have hd1 : (D.2 == 0) = false := by simpa using hd0
        clear hd0
        go_wp2_with fail
        go_meet
        exact hB6
    case rest =>
      obtain ⟨U, hU⟩ : ∃ U, U = unV l := ⟨_, rfl⟩
      have HU := Lib.hid hU
      clear hU hk HK6 ho36 hB6 hs6 hcw hcv HD hB1
      go_wp2_with fail
      refine (c_Unescape wc (hr.below hcut hB) (Nat.le_trans hB hcut.size) (by omega)).mono ?_
      intro e w7 hp
      obtain ⟨v, rfl, ho7, hb⟩ := hp.one
      rw [← HU.out] at ho7 ⊢
      have hB7 := hcut.trans (hb.mono hcut.size)
      clear hp hb hcut
      obtain ⟨Ax, cx, rfl, hcx⟩ := ho7.shape
      go_wp2_with fail
      refine (c_rUnescape w7 (hr.below hB7 hB) (Nat.le_trans hB hB7.size) (by omega)).mono ?_
      intro e w8 hp
      obtain ⟨v, rfl, ho8, hb⟩ := hp.one
      rw [← HU.out] at ho8 ⊢
      have hB8 := hB7.trans (hb.mono hB7.size)
      have ho78 := ho7.below hb (Nat.le_refl _)
      obtain ⟨Ay, cy, rfl, hcy⟩ := ho8.shape
      have hcon1 := run_str (P := Try.prog) Try.underlying22 Try.underlying5 Try.underlying9 (c := cx) ho78.rd
      have hcon2 := run_str (P := Try.prog) Try.underlying22 Try.underlying5 Try.underlying9 (c := cy) ho8.rd
      clear hp hb hB7 ho7 ho78 ho8 hcx hcy
      go_wp2_with fail
      clear hcon1 hcon2
      refine (c_Escape w8 (hm.below hB8 hB) (Nat.le_trans hB hB8.size) (by omega)).mono ?_
      rintro e w9 ⟨vz, rfl, ho9, hb⟩
      have hB9 := hB8.trans (hb.mono hB8.size)
      obtain ⟨Az, cz, rfl, hcz⟩ := ho9.shape
      have hz3 := escT_len m
      clear hb hB8
      go_wp2_with (first
        | (at_builtin; (refine wpList_app_sl rfl (.const (.slice none 0 0)) (.tmp 91) rfl slb (by decide) rfl (Own.nil_ _ w9.heap.size _) (Below.refl _ _) (Nat.le_refl _) rfl ho9.rd bcs_one (by have := bcs_length (escT m); have := Hlm.out; simp only [List.length_nil]; omega) ?_); intro v2 w10 ho10 hb10 hs10)
        | (at_builtin; (refine wpList_app_sl rfl (.tmp 92) (.tmp 93) rfl slb (by decide) rfl ho10 hb10 hs10 rfl (hr.below (hB9.trans (hb10.mono hB9.size)) hB) bcs_one (by have := bcs_length (escT m); have := Hlm.out; simp only [List.length_nil, List.nil_append]; omega) ?_); intro v3 w11 ho11 hb11 hs11))
      rw [List.nil_append, ← bcs_append] at ho11
      have hB11 := hB9.trans (hb11.mono hB9.size)
      have ho911 := ho9.below hb11 (Nat.le_refl _)
      obtain ⟨Ac2, cc2, rfl, hcc2⟩ := ho11.shape
      clear ho10 hb10 hs10 hb11 hB9 ho9
      refine (c_Unescape w11 ho11.rd (Nat.le_refl _) (by rw [bcs_length, List.length_append]; have := Hlm.out; have := Hln.out; omega)).mono ?_
      rintro e w12 (⟨s, k, v, hd, rfl, ho12, hb⟩ | ⟨hd, rfl, hb⟩)
      · rw [unesc_escT] at hd
        cases hd
        have hB12 := hB11.trans (hb.mono hB11.size)
        have ho912 := ho911.below hb (Nat.le_refl _)
        obtain ⟨Au, cu, rfl, hcu⟩ := ho12.shape
        clear hb ho911 ho11 hB11 hcc2 hs11
        go_upto_region 19 with fail
        have hcv1 : ∀ W, Below w12.heap.size w12 W → (convert 22 9 (.slice Az (bcs (escT m)).length cz)).run Try.prog W = .ok (.string ⟨(escT m).toArray⟩) W := fun W hW => run_str (P := Try.prog) Try.underlying22 Try.underlying5 Try.underlying9 (c := cz) (ho912.below hW (Nat.le_refl _)).rd
        have hcv2 : ∀ W, Below w12.heap.size w12 W → (convert 22 9 (.slice Au (bcs m).length cu)).run Try.prog W = .ok (.string ⟨m.toArray⟩) W := fun W hW => run_str (P := Try.prog) Try.underlying22 Try.underlying5 Try.underlying9 (c := cu) (ho12.below hW (Nat.le_refl _)).rd
        have hcv3 : ∀ W, Below w12.heap.size w12 W → (convert 22 9 (.slice A2 n2 c2)).run Try.prog W = .ok (.string ⟨m.toArray⟩) W := fun W hW => run_str (P := Try.prog) Try.underlying22 Try.underlying5 Try.underlying9 (c := c2) ((hm.below hB12 hB).below hW (Nat.le_trans hB hB12.size))
        have hbl := bcs_length (escT m)
        have hn1 : (((escT m).length : Nat) : Int) = ((bcs (escT m)).length : Nat) := by rw [hbl]
        clear hbl
        have hesc : ∀ W, Below w12.heap.size w12 W → Calls Try.prog 18 #[.slice A2 n2 c2] W (fun e w' => ∃ Ar cr, e = .returned (.slice Ar (bcs (escT m)).length cr) ∧ Below w12.heap.size w12 w' ∧ (convert 22 9 (.slice Ar (bcs (escT m)).length cr)).run Try.prog w' = .ok (.string ⟨(escT m).toArray⟩) w') := by
          intro W hW
          refine (c_rEscape W (hm.below (hB12.trans (hW.mono hB12.size)) hB) (Nat.le_trans hB (Nat.le_trans hB12.size hW.size)) (by omega)).mono ?_
          rintro e w13 ⟨vr, rfl, ho13, hb13⟩
          obtain ⟨Ar, cr, rfl, hcr⟩ := ho13.shape
          exact ⟨Ar, cr, rfl, hW.trans (hb13.mono hW.size), run_str (P := Try.prog) Try.underlying22 Try.underlying5 Try.underlying9 (c := cr) ho13.rd⟩
        go_region_held (fun W => Below w12.heap.size w12 W) (first | exact (Below.refl _ _).drew | assumption)
          (first
            | (go_at_call 18; go_must (refine (hesc _ (by first | assumption | exact (Below.refl _ _).drew)).mono ?_); rintro e w13 ⟨Ar, cr, rfl, hB13, hcr⟩))
        all_goals
          go_wp2
          go_ret
          exact ⟨rfl, hB12.trans ((by assumption : Below w12.heap.size w12 w13).mono hB12.size)⟩
      · rw [unesc_escT] at hd
        cases hd
  · have hfew' : ¬ (n : Int) + n2 ≤ 4000 := by omega
    go_wp2
    go_ret
    exact ⟨rfl, hB1⟩
end Go.Proofs.Yteokhnjjneeeeaa
