/- Layer 16: the law IkeyPlaces: the bytes that all keys of an epoch, of a sort key, up to a number, begin with or stand behind, are what the document says: the walk. -/
import Derived.Test.YteokhnjjneeeeaaIkP
import Derived.Test.YteokhnjjneeeeaaIkQ
import Derived.Laws.Cover1
namespace Go.Proofs.Yteokhnjjneeeeaa
open Go.RowKit Go.Lec

/-- What the written key, the sort key's beginning and the place to look from have to do with one another. -/
theorem place_facts {ep q sq kd sq0 : Int} {l l2 t Z X S : List UInt8} {es : Int} (hZ : Z = encB q l2 sq kd t) (hE : 0 = encE q sq kd t) (hX : X = preB ep l) (hP : 0 = preE ep l) (hS : S = seekB ep l sq0) (hes : es = seekE ep l sq0) :
    ((X.length ≤ Z.length ∧ Z.take X.length = X) ↔ (q = ep ∧ l2 = l)) ∧ (es = 0 → (q = ep ∧ l2 = l) → (!Op.bytesLess Z S) = decide (sq ≤ sq0)) := by
  unfold encE at hE
  by_cases hk : okKey q sq kd = true
  · rw [if_pos hk] at hE
    by_cases ht : 1024 < t.length
    · rw [if_pos ht] at hE; cases hE
    · unfold preE at hP
      by_cases he : okEpoch ep = true
      · rw [if_pos he] at hP
        by_cases hl : 65536 < l.length
        · rw [if_pos hl] at hP; cases hP
        · have eZ : Z = be 2 q.toNat ++ (escT l2 ++ (stampB sq ++ ([UInt8.ofNat (1 - kd).toNat] ++ t))) := by rw [hZ]; unfold encB; rw [if_pos hk, if_neg ht]; simp
          have eX : X = be 2 ep.toNat ++ escT l := by rw [hX]; unfold preB; rw [if_pos he, if_neg hl]
          simp only [okKey, Bool.and_eq_true, decide_eq_true_eq] at hk
          obtain ⟨⟨⟨hq, hs⟩, h4⟩, h5⟩ := hk
          obtain ⟨hq0, hq1⟩ := okEpoch_true hq
          obtain ⟨h2, h3⟩ := okSeq_true hs
          obtain ⟨he0, he1⟩ := okEpoch_true he
          refine ⟨?_, ?_⟩
          · rw [eX, eZ, begins_iff (by omega) (by omega)]
            constructor
            · rintro ⟨ha, hb⟩; exact ⟨by omega, hb⟩
            · rintro ⟨ha, hb⟩; exact ⟨by omega, hb⟩
          · rintro hz ⟨rfl, rfl⟩
            unfold seekE at hes
            by_cases hsk : (okEpoch q && okSeq sq0) = true
            · have eS : S = be 2 q.toNat ++ escT l2 ++ stampB sq0 ++ [0] := by rw [hS]; unfold seekB; rw [if_pos hsk, if_neg hl]
              simp only [Bool.and_eq_true] at hsk
              obtain ⟨h6, h7⟩ := okSeq_true hsk.2
              have := seek_order (be 2 q.toNat ++ escT l2) t (UInt8.ofNat (1 - kd).toNat) sq sq0 h2 h3 h6 h7
              rw [eZ, eS]
              simpa only [List.append_assoc] using this
            · rw [if_neg hsk] at hes; omega
      · rw [if_neg he] at hP; cases hP
  · rw [if_neg hk] at hE; cases hE

set_option maxRecDepth 20000 in
set_option maxHeartbeats 3200000 in
theorem w_IkeyPlaces (w : World) (ep sq0 q sq kd : Int) {B : Nat} {A A2 A3 : Option Addr} {n c n2 c2 n3 c3 : Nat} {l l2 l3 t : List UInt8} (hr : Rd w B A n (bcs l)) (hr2 : Rd w B A2 n2 (bcs l2)) (hr3 : Rd w B A3 n3 (bcs l3)) (hB : B ≤ w.heap.size) (hc : n ≤ c) (hc3 : n3 ≤ c3) :
    Calls Try.prog 5 #[.int .i64 ep, .slice A n c, .int .i64 sq0, .agg #[.int .i64 q, .slice A2 n2 c2, .int .i64 sq, .int .i64 kd, .string ⟨t.toArray⟩], .slice A3 n3 c3] w (RetB0 (.bool true) w) := by
  have hln := hr.1
  have hln2 := hr2.1
  rw [bcs_length] at hln hln2
  have Hln := Lib.hid hln; clear hln
  have Hln2 := Lib.hid hln2; clear hln2
  have HK0 := Bk.new_ w 24 #[.int .i64 q, .slice A2 n2 c2, .int .i64 sq, .int .i64 kd, .string ⟨t.toArray⟩]
  go_enter Try.func5, Try.ntmps5
  go_wp2_with fail
  refine (c_awake _).mono ?_
  rintro e w1 ⟨rfl, hb⟩
  rw [World.size_alloc] at hb
  have HK1 := HK0.below hb (Nat.lt_succ_self _)
  have hB1 : Below w.heap.size w w1 := ((Below.refl _ _).alloc (Nat.le_refl _) _).trans (hb.mono (by omega))
  have hs1 := HK1.lt
  clear hb HK0
  have hk := HK1.cell
  go_wp2_with fail
  refine (c_few w1 q sq kd).mono ?_
  rintro e w2 ⟨rfl, hb⟩
  have HK2 := HK1.below hb hs1
  have hB2 := hB1.trans (hb.mono hB1.size)
  have hs2 := HK2.lt
  clear hb HK1 hB1 hk hs1
  by_cases hfew : n2 ≤ 3000 ∧ t.length ≤ 3000
  · rw [show (decide (n2 ≤ 3000) && decide (t.length ≤ 3000)) = true from by simp [hfew]]
    obtain ⟨hn2, ht3⟩ := hfew
    by_cases hn : n ≤ 3000
    · have hn' : ¬ (3000 : Int) < n := by omega
      by_cases hn3 : n3 ≤ 3000
      · have hn3' : ¬ (3000 : Int) < n3 := by omega
        go_wp2_with fail
        refine (c_Begin w2 ep).mono ?_
        rintro e w3 ⟨va, rfl, hoa, hb⟩
        obtain ⟨XBegin, hX⟩ : ∃ X, X = begB ep := ⟨_, rfl⟩
        obtain ⟨EBegin, hE⟩ : ∃ X, X = begE ep := ⟨_, rfl⟩
        rw [← hX] at hoa
        rw [← hE]
        have HXBegin := Lib.hid hX
        have HEBegin := Lib.hid hE
        clear hX hE
        have HK3 := HK2.below hb hs2
        have hB3 := hB2.trans (hb.mono hB2.size)
        have hs3 := HK3.lt
        clear hb HK2 hB2 hs2
        obtain ⟨ABegin, cBegin, rfl, hBegin⟩ := hoa.shape
        go_wp2_with fail
        refine (c_rBegin w3 ep).mono ?_
        rintro e w4 ⟨vb, rfl, hob, hb⟩
        rw [← HXBegin.out] at hob
        rw [← HEBegin.out]
        have HK4 := HK3.below hb hs3
        have hB4 := hB3.trans (hb.mono hB3.size)
        have hs4 := HK4.lt
        have hoBegin := hoa.below hb (Nat.le_refl _)
        clear hb HK3 hB3 hs3 hoa
        obtain ⟨BBegin, dBegin, rfl, h2Begin⟩ := hob.shape
        have hcon1 := run_str (P := Try.prog) Try.underlying22 Try.underlying5 Try.underlying9 (c := cBegin) hoBegin.rd
        have hcon2 := run_str (P := Try.prog) Try.underlying22 Try.underlying5 Try.underlying9 (c := dBegin) hob.rd
        clear hob h2Begin
        clear hoBegin hBegin
        go_upto_region 9 with fail
        clear hcon1 hcon2
        go_wp2_with fail
        refine (c_Prefix w4 ep (hr.below hB4 hB) (Nat.le_trans hB hB4.size) (by omega)).mono ?_
        rintro e w5 ⟨va, rfl, hoa, hb⟩
        obtain ⟨XPrefix, hX⟩ : ∃ X, X = preB ep l := ⟨_, rfl⟩
        obtain ⟨EPrefix, hE⟩ : ∃ X, X = preE ep l := ⟨_, rfl⟩
        rw [← hX] at hoa
        rw [← hE]
        have HXPrefix := Lib.hid hX
        have HEPrefix := Lib.hid hE
        clear hX hE
        have HK5 := HK4.below hb hs4
        have hB5 := hB4.trans (hb.mono hB4.size)
        have hs5 := HK5.lt
        clear hb HK4 hB4 hs4
        obtain ⟨APrefix, cPrefix, rfl, hPrefix⟩ := hoa.shape
        go_wp2_with fail
        refine (c_rPrefix w5 ep (hr.below hB5 hB) (Nat.le_trans hB hB5.size) (by omega)).mono ?_
        rintro e w6 ⟨vb, rfl, hob, hb⟩
        rw [← HXPrefix.out] at hob
        rw [← HEPrefix.out]
        have HK6 := HK5.below hb hs5
        have hB6 := hB5.trans (hb.mono hB5.size)
        have hs6 := HK6.lt
        have hoPrefix := hoa.below hb (Nat.le_refl _)
        clear hb HK5 hB5 hs5 hoa
        obtain ⟨BPrefix, dPrefix, rfl, h2Prefix⟩ := hob.shape
        have hcon1 := run_str (P := Try.prog) Try.underlying22 Try.underlying5 Try.underlying9 (c := cPrefix) hoPrefix.rd
        have hcon2 := run_str (P := Try.prog) Try.underlying22 Try.underlying5 Try.underlying9 (c := dPrefix) hob.rd
        clear hob h2Prefix
        go_upto_region 13 with fail
        clear hcon1 hcon2
        go_wp2_with fail
        refine (c_Seek w6 ep sq0 (hr.below hB6 hB) (Nat.le_trans hB hB6.size) (by omega)).mono ?_
        rintro e w7 ⟨va, rfl, hoa, hb⟩
        obtain ⟨XSeek, hX⟩ : ∃ X, X = seekB ep l sq0 := ⟨_, rfl⟩
        obtain ⟨ESeek, hE⟩ : ∃ X, X = seekE ep l sq0 := ⟨_, rfl⟩
        rw [← hX] at hoa
        rw [← hE]
        have HXSeek := Lib.hid hX
        have HESeek := Lib.hid hE
        clear hX hE
        have HK7 := HK6.below hb hs6
        have hB7 := hB6.trans (hb.mono hB6.size)
        have hs7 := HK7.lt
        have hoPrefix := hoPrefix.below hb (Nat.le_refl _)
        clear hb HK6 hB6 hs6
        obtain ⟨ASeek, cSeek, rfl, hSeek⟩ := hoa.shape
        go_wp2_with fail
        refine (c_rSeek w7 ep sq0 (hr.below hB7 hB) (Nat.le_trans hB hB7.size) (by omega)).mono ?_
        rintro e w8 ⟨vb, rfl, hob, hb⟩
        rw [← HXSeek.out] at hob
        rw [← HESeek.out]
        have HK8 := HK7.below hb hs7
        have hB8 := hB7.trans (hb.mono hB7.size)
        have hs8 := HK8.lt
        have hoPrefix := hoPrefix.below hb (Nat.le_refl _)
        have hoSeek := hoa.below hb (Nat.le_refl _)
        clear hb HK7 hB7 hs7 hoa
        obtain ⟨BSeek, dSeek, rfl, h2Seek⟩ := hob.shape
        have hcon1 := run_str (P := Try.prog) Try.underlying22 Try.underlying5 Try.underlying9 (c := cSeek) hoSeek.rd
        have hcon2 := run_str (P := Try.prog) Try.underlying22 Try.underlying5 Try.underlying9 (c := dSeek) hob.rd
        clear hob h2Seek
        go_upto_region 17 with fail
        clear hcon1 hcon2
        go_wp2_with fail
        refine (c_Above w8  (hr3.below hB8 hB) (Nat.le_trans hB hB8.size) (by omega)).mono ?_
        rintro e w9 ⟨va, rfl, hoa, hb⟩
        obtain ⟨XAbove, hX⟩ : ∃ X, X = aboveB l3 := ⟨_, rfl⟩
        obtain ⟨EAbove, hE⟩ : ∃ X, X = aboveF l3 := ⟨_, rfl⟩
        rw [← hX] at hoa
        rw [← hE]
        have HXAbove := Lib.hid hX
        have HEAbove := Lib.hid hE
        clear hX hE
        have HK9 := HK8.below hb hs8
        have hB9 := hB8.trans (hb.mono hB8.size)
        have hs9 := HK9.lt
        have hoPrefix := hoPrefix.below hb (Nat.le_refl _)
        have hoSeek := hoSeek.below hb (Nat.le_refl _)
        clear hb HK8 hB8 hs8
        obtain ⟨AAbove, cAbove, rfl, hAbove⟩ := hoa.shape
        go_wp2_with fail
        refine (c_rAbove w9  (hr3.below hB9 hB) (Nat.le_trans hB hB9.size) hc3 (by omega)).mono ?_
        rintro e w10 ⟨vb, rfl, hob, hb⟩
        rw [← HXAbove.out] at hob
        rw [← HEAbove.out]
        have HK10 := HK9.below hb hs9
        have hB10 := hB9.trans (hb.mono hB9.size)
        have hs10 := HK10.lt
        have hoPrefix := hoPrefix.below hb (Nat.le_refl _)
        have hoSeek := hoSeek.below hb (Nat.le_refl _)
        have hoAbove := hoa.below hb (Nat.le_refl _)
        clear hb HK9 hB9 hs9 hoa
        obtain ⟨BAbove, dAbove, rfl, h2Above⟩ := hob.shape
        have hcon1 := run_str (P := Try.prog) Try.underlying22 Try.underlying5 Try.underlying9 (c := cAbove) hoAbove.rd
        have hcon2 := run_str (P := Try.prog) Try.underlying22 Try.underlying5 Try.underlying9 (c := dAbove) hob.rd
        clear hob h2Above
        clear hoAbove hAbove
        go_upto_region 21 with fail
        clear hcon1 hcon2
        have hk := HK10.cell
        go_wp2_with fail
        refine (c_rEncode w10 q sq kd (hr2.below hB10 hB) (Nat.le_trans hB hB10.size) (by omega)).mono ?_
        rintro e w11 ⟨vz, rfl, hoz, hb⟩
        obtain ⟨Z, hZ⟩ : ∃ Z, Z = encB q l2 sq kd t := ⟨_, rfl⟩
        obtain ⟨er, her⟩ : ∃ er, er = encE q sq kd t := ⟨_, rfl⟩
        rw [← hZ] at hoz
        rw [← her]
        have HZ := Lib.hid hZ
        have HEr := Lib.hid her
        have HK11 := HK10.below hb hs10
        have hB11 := hB10.trans (hb.mono hB10.size)
        have hs11 := HK11.lt
        have hoPrefix := hoPrefix.below hb (Nat.le_refl _)
        have hoSeek := hoSeek.below hb (Nat.le_refl _)
        clear hZ her hb HK10 hB10 hs10 hk
        have hk := HK11.cell
        obtain ⟨Az, cz, rfl, hcz⟩ := hoz.shape
        by_cases he0 : er = 0
        · subst he0
          by_cases hp0 : EPrefix = 0
          · subst hp0
            obtain ⟨hbi, hse⟩ := place_facts (sq0 := sq0) HZ.out HEr.out HXPrefix.out HEPrefix.out HXSeek.out HESeek.out
            have Hbi := Lib.hid hbi
            have Hse := Lib.hid hse
            have hcut : (bcs XPrefix).length ≤ (bcs Z).length → ∀ W, (Instr.slice 22 (.slice Az (bcs Z).length cz) none (some (.int .i64 ((bcs XPrefix).length : Nat))) none).run Try.prog W = .ok (.slice Az (bcs XPrefix).length cz) W := fun h W => run_cutH slb Az (bcs Z).length cz (bcs XPrefix).length (by omega) .i64 _ rfl W
            have Hcut := Lib.hid hcut
            have hcp := fun k : Nat => run_str (P := Try.prog) Try.underlying22 Try.underlying5 Try.underlying9 (c := cPrefix) (hoPrefix.drewN k).rd
            have hcz1 : (bcs XPrefix).length ≤ (bcs Z).length → ∀ k, (convert 22 9 (.slice Az (bcs XPrefix).length cz)).run Try.prog (w11.drewN k) = .ok (.string ⟨(Z.take XPrefix.length).toArray⟩) (w11.drewN k) := fun h k => run_str (P := Try.prog) Try.underlying22 Try.underlying5 Try.underlying9 (c := cz) (by have := (hoz.drewN k).rd.take_ h; rw [← bcs_take, bcs_length] at this; rw [bcs_length]; exact this)
            have Hcz1 := Lib.hid hcz1
            clear hbi hse hcut hcz1 hPrefix hSeek hcz HXBegin HEBegin HXAbove HEAbove
            go_upto_region 24 with fail
            go_cut [25] (fun v wc => v = .bool (decide (q = ep ∧ l2 = l)) ∧ ∃ k, wc = w11.drewN k)
            case first =>
              by_cases hge : (bcs XPrefix).length ≤ (bcs Z).length
              · have hge' : ((bcs XPrefix).length : Int) ≤ ((bcs Z).length : Nat) := by omega
                have hcutW := Hcut.out hge
                have hczW := Hcz1.out hge
                by_cases heq : Z.take XPrefix.length = XPrefix
                · simp only [heq] at hczW
                  have Hd : Hid (decide (q = ep ∧ l2 = l) = true) := Lib.hid (decide_eq_true (Hbi.out.1 ⟨by rw [bcs_length, bcs_length] at hge; exact hge, heq⟩))
                  clear heq
                  go_quiet (fail)
                  go_wp2
                  go_meet
                  exact ⟨by rw [Hd.out], by first | assumption | exact ⟨_, rfl⟩⟩
                · have hbe : (Z.take XPrefix.length == XPrefix) = false := by rw [beq_eq_false_iff_ne]; exact heq
                  have Hd : Hid (decide (q = ep ∧ l2 = l) = false) := Lib.hid (decide_eq_false fun h => heq (Hbi.out.2 h).2)
                  clear heq
                  go_quiet (fail)
                  go_wp2
                  go_meet
                  exact ⟨by rw [Hd.out], by first | assumption | exact ⟨_, rfl⟩⟩
              · have hge' : ¬ ((bcs XPrefix).length : Int) ≤ ((bcs Z).length : Nat) := by omega
                have Hd : Hid (decide (q = ep ∧ l2 = l) = false) := Lib.hid (decide_eq_false fun h => hge (by have := (Hbi.out.2 h).1; rw [bcs_length, bcs_length]; exact this))
                clear hge
                go_quiet (fail)
                go_wp2
                go_meet
                exact ⟨by rw [Hd.out], by first | assumption | exact ⟨_, rfl⟩⟩
            case rest =>
              obtain ⟨rfl, kd2, rfl⟩ := hcut
              obtain ⟨w12, hw⟩ : ∃ x, x = w11.drewN kd2 := ⟨_, rfl⟩
              rw [← hw]
              have HK12 : Bk w12 w.heap.size 24 #[.int .i64 q, .slice A2 n2 c2, .int .i64 sq, .int .i64 kd, .string ⟨t.toArray⟩] := hw ▸ HK11.drewN kd2
              have hB12 : Below w.heap.size w w12 := hw ▸ Below.drewN' hB11 kd2
              have hoz12 := hw ▸ (hoz.drewN kd2).rd
              have hos12 := hw ▸ (hoSeek.drewN kd2).rd
              have hrl := hr.below hB12 hB
              have hrl2 := hr2.below hB12 hB
              clear hw HK11 hB11 hoz hoSeek hoPrefix Hcut Hcz1 hcp hk Hbi HZ HEr HXPrefix HXSeek HEPrefix
              have hk := HK12.cell
              have hcv1 := run_str (P := Try.prog) Try.underlying22 Try.underlying5 Try.underlying9 (c := c) hrl
              have hcv2 := run_str (P := Try.prog) Try.underlying22 Try.underlying5 Try.underlying9 (c := c2) hrl2
              have hcvz := run_str (P := Try.prog) Try.underlying22 Try.underlying5 Try.underlying9 (c := cz) hoz12
              have hcvs := run_str (P := Try.prog) Try.underlying22 Try.underlying5 Try.underlying9 (c := cSeek) hos12
              clear hoz12 hos12 hrl hrl2
              by_cases hqe : q = ep
              · by_cases hll : l2 = l
                · have Hd : Hid (decide (q = ep ∧ l2 = l) = true) := Lib.hid (decide_eq_true ⟨hqe, hll⟩)
                  by_cases hes : ESeek = 0
                  · have hge := Hse.out hes ⟨hqe, hll⟩
                    have he1 : (ESeek != 0) = false := by simpa using hes
                    clear hes Hse HESeek
                    by_cases hle : sq ≤ sq0
                    · have hbl : Op.bytesLess Z XSeek = false := by simpa [hle] using hge
                      clear hge
                      rw [Hd.out]
                      subst hqe hll
                      go_wp2
                      go_ret
                      exact ⟨rfl, hB12⟩
                    · have hbl : Op.bytesLess Z XSeek = true := by simpa [hle] using hge
                      clear hge
                      rw [Hd.out]
                      subst hqe hll
                      go_wp2
                      go_ret
                      exact ⟨rfl, hB12⟩
                  · have he1 : (ESeek != 0) = true := by simpa using hes
                    clear hes Hse HESeek
                    rw [Hd.out]
                    subst hqe hll
                    go_wp2
                    go_ret
                    exact ⟨rfl, hB12⟩
                · have Hd : Hid (decide (q = ep ∧ l2 = l) = false) := Lib.hid (decide_eq_false fun h => hll h.2)
                  have hbe : (l2 == l) = false := by rw [beq_eq_false_iff_ne]; exact hll
                  rw [Hd.out]
                  clear Hse HESeek hll
                  subst hqe
                  by_cases hes : ESeek = 0
                  · subst hes
                    go_wp2
                    go_ret
                    exact ⟨rfl, hB12⟩
                  · have he1 : (ESeek != 0) = true := by simpa using hes
                    clear hes
                    go_wp2
                    go_ret
                    exact ⟨rfl, hB12⟩
              · have Hd : Hid (decide (q = ep ∧ l2 = l) = false) := Lib.hid (decide_eq_false fun h => hqe h.1)
                have hbe : (q == ep) = false := by rw [beq_eq_false_iff_ne]; exact hqe
                rw [Hd.out]
                clear Hse HESeek
                by_cases hes : ESeek = 0
                · subst hes
                  go_wp2
                  go_ret
                  exact ⟨rfl, hB12⟩
                · have he1 : (ESeek != 0) = true := by simpa using hes
                  clear hes
                  go_wp2
                  go_ret
                  exact ⟨rfl, hB12⟩
          · have hp1 : (EPrefix != 0) = true := by simpa using hp0
            clear hp0
            go_wp2
            go_ret
            exact ⟨rfl, hB11⟩
        · have he1 : (er != 0) = true := by simpa using he0
          clear he0
          go_wp2
          go_ret
          exact ⟨rfl, hB11⟩
      · have hn3' : (3000 : Int) < n3 := by omega
        go_wp2
        go_ret
        exact ⟨rfl, hB2⟩
    · have hn' : (3000 : Int) < n := by omega
      go_wp2
      go_ret
      exact ⟨rfl, hB2⟩
  · rw [show (decide (n2 ≤ 3000) && decide (t.length ≤ 3000)) = false from by simpa using fun h => Nat.lt_of_not_le fun h' => hfew ⟨h, h'⟩]
    go_wp2
    go_ret
    exact ⟨rfl, hB2⟩
end Go.Proofs.Yteokhnjjneeeeaa
