/- Layer 24, LevelSees: what a compaction keeps: the walk of Keep. -/
import Derived.Test.YtgpbkebmfbbamaaSeE
import Derived.Deep.CutRange
namespace Go.Lec
open Go.RowKit
theorem drop_pl {L : List Pr} {k : Nat} {m : Pr} (h : L[k]? = some m) : (L.map Pr.pl).drop k = m.pl :: (L.map Pr.pl).drop (k + 1) := by
  have hk := (List.getElem?_eq_some_iff.1 h).1
  have he := (List.getElem?_eq_some_iff.1 h).2
  rw [List.drop_eq_getElem_cons (by simpa using hk)]
  simp [he]
theorem keepP_len (floor : Int) (bottom : Bool) (dead : List Int) : ∀ (l : List PairB) (last : Option (Nat × List UInt8)) (done : Bool), (keepP floor bottom dead last done l).length ≤ l.length
  | [], _, _ => Nat.le_refl _
  | p :: ps, last, done => by
    have ih := keepP_len floor bottom dead ps
    cases hd : dec p.1 with
    | error e => rw [keepP_err hd]; simp only [List.length_cons]; have := ih last done; omega
    | ok K =>
      cases hdd : dead.contains (K.ep : Int) with
      | true => rw [keepP_dead hd hdd]; simp only [List.length_cons]; have := ih last done; omega
      | false =>
        rw [keepP_live hd hdd]
        have h1 : ∀ b : Bool, (if b then [p] else []).length ≤ 1 := fun b => by cases b <;> simp
        have h2 := h1 (keepB floor bottom K (if last = some (K.ep, K.srt) then done else false))
        have h3 := ih (some (K.ep, K.srt)) (if floor < K.sq then (if last = some (K.ep, K.srt) then done else false) else true)
        rw [List.length_append, List.length_cons]
        omega
/-- The group's prefix is that of the key at hand just if it is its group. -/
theorem gs_same {last : Option (Nat × List UInt8)} {d : Bool} {K : Key} (hl : ∀ g, last = some g → g.1 < 65536) (hK : K.ep < 65536) :
    ((gsN last d == 0) || !((be 2 K.ep ++ escT K.srt) == gsL last)) = !decide (last = some (K.ep, K.srt)) := by
  cases last with
  | none => simp [gsN]
  | some g =>
    have h0 : (gsN (some g) d == 0) = false := by cases d <;> rfl
    rw [h0, Bool.false_or]
    congr 1
    rw [Bool.eq_iff_iff]
    simp only [gsL, beq_iff_eq, decide_eq_true_eq, Option.some.injEq]
    constructor
    · intro h
      obtain ⟨h1, h2⟩ := pre_inj hK (hl g rfl) h
      exact Prod.ext h1.symm h2.symm
    · rintro rfl; rfl
end Go.Lec
namespace Go.Proofs.Ytgpbkebmfbbamaa
open Go.RowKit Go.Lec
/-- What is kept. -/
def KeepPost (w : World) (O : List PairB) (e : Ending) (w' : World) : Prop := ∃ (A : Option Addr) (n c : Nat) (L' : List Pr), e = .returned (.slice A n c) ∧ n ≤ c ∧ Prs w' w'.heap.size A n L' ∧ L'.map Pr.pl = O ∧ Below w.heap.size w w'

set_option maxRecDepth 40000 in
set_option maxHeartbeats 3200000 in
theorem c_Keep (w : World) {B n c nD cD : Nat} {A AD : Option Addr} {L : List Pr} {dead : List Int} (floor : Int) (bottom : Bool) (hr : Prs w B A n L) (hB : B ≤ w.heap.size) (hn : n ≤ 1000000) (hm : ∀ m ∈ L, m.n1 ≤ 1000000) (hrD : Rd w B AD nD (ics dead)) (hnD : nD ≤ 1099511627776) :
    Calls Try.prog 19 #[.slice A n c, .int .i64 floor, .bool bottom, .slice AD nD cD] w (KeepPost w (keepP floor bottom dead none false (L.map Pr.pl))) := by
  have Hln := Lib.hid hr.len
  have HM := Lib.hid hm
  clear hm
  obtain ⟨KP, hKP⟩ : ∃ KP, KP = keepP floor bottom dead none false (L.map Pr.pl) := ⟨_, rfl⟩
  rw [← hKP]
  have HKP := Lib.hid hKP
  clear hKP
  go_enter Try.func19, Try.ntmps19
  go_wp2
  go_loopw [9, 10, 11, 23] (fun v s st i wr => ∃ (k : Nat) (L' : List Pr) (last : Option (Nat × List UInt8)) (d : Bool), k ≤ n ∧ i = .int .i64 k ∧ s = .string ⟨(gsL last).toArray⟩ ∧ st = .int .i64 (gsN last d) ∧ KR w wr 82 L' v ∧ L'.length ≤ k ∧ Hid (∀ g, last = some g → g.1 < 65536) ∧ Hid (L'.map Pr.pl ++ keepP floor bottom dead last d ((L.map Pr.pl).drop k) = KP)) (fun _ _ _ i _ => n - (intOf i).toNat)
  case atStart => exact ⟨0, [], none, false, Nat.zero_le _, rfl, rfl, rfl, KR.nil _ _, Nat.zero_le _, Lib.hid (fun g h => by cases h), Lib.hid (by rw [HKP.out]; rfl)⟩
  case round =>
    obtain ⟨k, L', last, d, hk, rfl, rfl, rfl, hA, hlL, Hlast, HO⟩ := hrel
    by_cases hlt : k < n
    · obtain ⟨b, o, m, rfl, hbB, hmk, htk, hmok, hcell⟩ := hr.cell2 hlt
      obtain ⟨h0, h1⟩ := hcell wr (hA.below.mono hB)
      have hmo := hmok.below (hA.below.mono hB) (Nat.le_refl _)
      have hml := HM.out m (List.mem_of_getElem? hmk)
      have Hdr := Lib.hid (drop_pl hmk)
      have HP := Bk.new_ wr 82 #[.slice m.A1 m.n1 m.c1, .slice m.A2 m.n2 m.c2]
      have hA1 := hA.grow ((Below.refl _ _).alloc (Nat.le_refl _) (.cells #[.slice m.A1 m.n1 m.c1, .slice m.A2 m.n2 m.c2] 82))
      have hkc := HP.cell
      obtain ⟨As, cs, rfl, hcs⟩ := hA.own.shape
      have hBr : B ≤ wr.heap.size := Nat.le_trans hB hA.below.size
      have hmo1 := hmo.alloc hBr (.cells #[.slice m.A1 m.n1 m.c1, .slice m.A2 m.n2 m.c2] 82)
      have hbD := hA1.below.mono hB
      obtain ⟨G, hG⟩ : ∃ G, G = wr.heap.size := ⟨_, rfl⟩
      clear hmk htk hcell hA hmok hmo
      go_wp2_with fail
      obtain ⟨W1, hW1⟩ : ∃ W, W = wr.alloc (.cells #[.slice m.A1 m.n1 m.c1, .slice m.A2 m.n2 m.c2] 82) := ⟨_, rfl⟩
      have hBr1 : B ≤ W1.heap.size := by rw [hW1]; simp; omega
      have hGl : G < W1.heap.size := by rw [hW1, hG]; simp
      rw [← hW1] at HP hA1 hmo1 hbD hkc ⊢
      rw [← hG] at HP hkc ⊢
      clear hW1 hG h0 h1 hBr
      refine (c_SplitAny W1 hmo1.1 hBr1 hmo1.2.2.1 (by omega)).mono ?_
      rintro e w2 (⟨K, Ab, cb, hd, rfl, hob, hb2⟩ | ⟨err, hd, hne, rfl, hb2⟩)
      · have hA2 := hA1.grow hb2
        have HP2 := HP.below hb2 hGl
        have hkc2 := HP2.cell
        have hmo2 := hmo1.below hb2 hBr1
        have hBr2 := Nat.le_trans hBr1 hb2.size
        have hG2 := Nat.lt_of_lt_of_le hGl hb2.size
        have hbD2 := hbD.trans (hb2.mono hBr1)
        have Hd := Lib.hid hd
        clear hkc hA1 hmo1 HP hd hbD
        go_wp2_with fail
        refine (c_Decode w2 hmo2.1 hBr2 hmo2.2.2.1 (by omega)).mono ?_
        rintro e w3 (⟨K', v, hu, rfl, hown, hb3⟩ | ⟨err, hu, rfl, hb3⟩)
        rotate_left
        · rw [Hd.out] at hu; cases hu
        obtain rfl : K' = K := by rw [Hd.out] at hu; cases hu; rfl
        obtain ⟨Av, cv, rfl, _⟩ := hown.shape
        unfold keyVal
        go_wp2_with fail
        have hbK := (Below.refl w3.heap.size w3).alloc (Nat.le_refl _) (.cells #[.int .i64 K'.ep, .slice Av (bcs K'.srt).length cv, .int .i64 K'.sq, .int .i64 K'.kd, .string ⟨K'.txt.toArray⟩] 59)
        have hb4 : Below w2.heap.size w2 _ := hb3.trans (hbK.mono hb3.size)
        refine (c_Contains _ K'.ep (hrD.below (hbD2.trans (hb4.mono hBr2)) (Nat.le_refl _)) (Nat.le_trans hBr2 hb4.size) hnD).mono ?_
        rintro e w5 ⟨rfl, hb5⟩
        have hb6 : Below w2.heap.size w2 w5 := hb4.trans (hb5.mono hb4.size)
        have hA6 := hA2.grow hb6
        have HP6 := HP2.below hb6 hG2
        have hmo6 := hmo2.below hb6 hBr2
        have hBr6 := Nat.le_trans hBr2 hb6.size
        have hob6 := hob.below hb6 (Nat.le_refl _)
        clear hA2 HP2 hkc2 hmo2 hown hb3 hb4 hb5 hb6 hbK hbD2 hG2 hBr2 hob
        cases hdd : dead.contains (K'.ep : Int)
        · have HK := Lib.hid (keepP_live (floor := floor) (bottom := bottom) (dead := dead) (last := last) (done := d) (p := m.pl) (ps := (L.map Pr.pl).drop (k + 1)) Hd.out hdd)
          have hKe := (dec_pre Hd.out).2.2.2
          have Hgs := Lib.hid (gs_same (d := d) Hlast.out hKe)
          clear hdd
          have hcv := run_str (P := Try.prog) Try.underlying22 Try.underlying5 Try.underlying9 (c := cb) hob6.rd
          obtain ⟨P, hP⟩ : ∃ P, P = be 2 K'.ep ++ escT K'.srt := ⟨_, rfl⟩
          rw [← hP] at hcv hob6 Hgs ⊢
          have HPe := Lib.hid hP
          clear hP
          obtain ⟨X, hX⟩ : ∃ X, X = decide (last = some (K'.ep, K'.srt)) := ⟨_, rfl⟩
          rw [← hX] at Hgs
          have HX := Lib.hid hX
          clear hX
          obtain ⟨S, hS⟩ : ∃ S, S = gsN last d := ⟨_, rfl⟩
          obtain ⟨T, hT⟩ : ∃ T, T = gsL last := ⟨_, rfl⟩
          rw [← hS, ← hT] at Hgs ⊢
          have HXT := Lib.hid (show X = true → T = P ∧ S = (if X && d then 2 else 1) from by
            intro hx
            have := HX.out
            rw [hx] at this
            have hl := of_decide_eq_true this.symm
            subst hx hT hS
            rw [hl, HPe.out]
            exact ⟨rfl, by cases d <;> rfl⟩)
          have HY := Lib.hid (show (if last = some (K'.ep, K'.srt) then d else false) = (X && d) from by
            have := HX.out
            by_cases hl : last = some (K'.ep, K'.srt)
            · rw [if_pos hl]; rw [this, decide_eq_true hl]; rfl
            · rw [if_neg hl]; rw [this, decide_eq_false hl]; rfl)
          have HL2 : Hid (∀ g : Nat × List UInt8, some (K'.ep, K'.srt) = some g → g.1 < 65536) := Lib.hid (fun g e => by cases e; exact hKe)
          clear hS hT Hlast hKe
          go_upto_region 12 with fail
          go_cut [59] from 52 to 59 (fun v wc => v = .bool (!X) ∧ wc = w5)
          case first =>
            cases hs0 : (S == 0)
            · have hX := Hgs.out
              rw [hs0, Bool.false_or] at hX
              replace hX := Lib.hid hX
              clear Hgs
              go_wp2
              go_meet
              case rel => exact ⟨by rw [← hX.out], rfl⟩
            · have hX := Hgs.out
              rw [hs0, Bool.true_or] at hX
              replace hX := Lib.hid hX
              clear Hgs
              go_wp2
              go_meet
              case rel => exact ⟨by rw [← hX.out], rfl⟩
          case rest =>
            obtain ⟨rfl, rfl⟩ := hcut
            go_upto_if 59 with fail
            go_cut [10, 11] from 59 to 61 (fun s st wx => s = .string ⟨P.toArray⟩ ∧ st = .int .i64 (if X && d then 2 else 1) ∧ wx = wc)
            case first =>
              cases hX : X
              · go_wp2
                go_meet
                case rel => exact ⟨rfl, by rw [hX]; rfl, rfl⟩
              · go_wp2
                go_meet
                case rel => exact ⟨by rw [(HXT.out hX).1], by rw [(HXT.out hX).2, hX], rfl⟩
            case rest =>
              obtain ⟨rfl, rfl, rfl⟩ := hcut
              obtain ⟨Y, hY⟩ : ∃ Y, Y = (X && d) := ⟨_, rfl⟩
              rw [← hY] at HY ⊢
              clear hY HX HXT Hgs hcv hob6
              have HK2 := HK.out
              rw [HY.out] at HK2
              clear HK HY
              unfold keepB at HK2
              have hkc6 := HP6.cell
              by_cases hF : floor < K'.sq
              · rw [decide_eq_true hF, Bool.true_or, if_pos rfl, if_pos hF] at HK2
                have HK := Lib.hid HK2
                clear HK2
                cases Y
                · go_wp2_with fail
                  refine (c_twin wc m hmo6 hBr6).mono ?_
                  rintro e w6 ⟨m', rfl, hok7, hhi7, hpl7, hb7⟩
                  have hA7 := hA6.grow hb7
                  have hfar := hA6.far (Nat.le_refl _) hhi7
                  have hsz2 := hA6.below.size
                  have Hpl7 := Lib.hid (show m'.pl = m.pl from hpl7)
                  clear hkc6 hA6 hpl7
                  go_wp2_with (first
                    | (at_builtin; (refine wpList_appK_new rfl _ _ rfl slp (by decide) rfl hA7.own hA7.below hA7.below.size rfl (news := m'.cs) rfl m'.cs_one (by omega) ?_); intro v8 w8 ho8 hb8 hg8 hat8 hs8))
                  have hA8 := hA7.snoc hok7 hfar (hhi7.mono hsz2) ho8 hg8 hat8 hb8
                  go_roundw
                  case rel => exact ⟨k + 1, L' ++ [m'], some (K'.ep, K'.srt), false, by omega, by go_num, by rw [HPe.out]; rfl, rfl, hA8, by simp; omega, HL2, Lib.hid (by rw [← HO.out, Hdr.out, HK.out, List.map_append]; simp [Hpl7.out])⟩
                  case measure => simp [intOf]; omega
                · go_wp2_with fail
                  refine (c_twin wc m hmo6 hBr6).mono ?_
                  rintro e w6 ⟨m', rfl, hok7, hhi7, hpl7, hb7⟩
                  have hA7 := hA6.grow hb7
                  have hfar := hA6.far (Nat.le_refl _) hhi7
                  have hsz2 := hA6.below.size
                  have Hpl7 := Lib.hid (show m'.pl = m.pl from hpl7)
                  clear hkc6 hA6 hpl7
                  go_wp2_with (first
                    | (at_builtin; (refine wpList_appK_new rfl _ _ rfl slp (by decide) rfl hA7.own hA7.below hA7.below.size rfl (news := m'.cs) rfl m'.cs_one (by omega) ?_); intro v8 w8 ho8 hb8 hg8 hat8 hs8))
                  have hA8 := hA7.snoc hok7 hfar (hhi7.mono hsz2) ho8 hg8 hat8 hb8
                  go_roundw
                  case rel => exact ⟨k + 1, L' ++ [m'], some (K'.ep, K'.srt), true, by omega, by go_num, by rw [HPe.out]; rfl, rfl, hA8, by simp; omega, HL2, Lib.hid (by rw [← HO.out, Hdr.out, HK.out, List.map_append]; simp [Hpl7.out])⟩
                  case measure => simp [intOf]; omega
              · rw [decide_eq_false hF, Bool.false_or, if_neg hF] at HK2
                cases Y
                · cases bottom
                  · have HK := Lib.hid HK2
                    clear HK2
                    go_wp2_with fail
                    refine (c_twin wc m hmo6 hBr6).mono ?_
                    rintro e w6 ⟨m', rfl, hok7, hhi7, hpl7, hb7⟩
                    have hA7 := hA6.grow hb7
                    have hfar := hA6.far (Nat.le_refl _) hhi7
                    have hsz2 := hA6.below.size
                    have Hpl7 := Lib.hid (show m'.pl = m.pl from hpl7)
                    clear hkc6 hA6 hpl7
                    go_wp2_with (first
                      | (at_builtin; (refine wpList_appK_new rfl _ _ rfl slp (by decide) rfl hA7.own hA7.below hA7.below.size rfl (news := m'.cs) rfl m'.cs_one (by omega) ?_); intro v8 w8 ho8 hb8 hg8 hat8 hs8))
                    have hA8 := hA7.snoc hok7 hfar (hhi7.mono hsz2) ho8 hg8 hat8 hb8
                    go_roundw
                    case rel => exact ⟨k + 1, L' ++ [m'], some (K'.ep, K'.srt), true, by omega, by go_num, by rw [HPe.out]; rfl, rfl, hA8, by simp; omega, HL2, Lib.hid (by rw [← HO.out, Hdr.out, HK.out, List.map_append]; simp [Hpl7.out])⟩
                    case measure => simp [intOf]; omega
                  · by_cases hkd : K'.kd = 0
                    · have hkd' : (K'.kd == 0) = true := by simpa using hkd
                      have hkd2 : (K'.kd != 0) = false := by simpa using hkd
                      rw [decide_eq_true hkd] at HK2
                      have HK := Lib.hid HK2
                      clear HK2 hkd
                      go_wp2
                      go_roundw
                      case rel => exact ⟨k + 1, L', some (K'.ep, K'.srt), true, by omega, by go_num, by rw [HPe.out]; rfl, rfl, hA6, by omega, HL2, Lib.hid (by rw [← HO.out, Hdr.out, HK.out]; rfl)⟩
                      case measure => simp [intOf]; omega
                    · have hkd' : (K'.kd == 0) = false := by simpa using hkd
                      have hkd2 : (K'.kd != 0) = true := by simpa using hkd
                      rw [decide_eq_false hkd] at HK2
                      have HK := Lib.hid HK2
                      clear HK2 hkd
                      go_wp2_with fail
                      refine (c_twin wc m hmo6 hBr6).mono ?_
                      rintro e w6 ⟨m', rfl, hok7, hhi7, hpl7, hb7⟩
                      have hA7 := hA6.grow hb7
                      have hfar := hA6.far (Nat.le_refl _) hhi7
                      have hsz2 := hA6.below.size
                      have Hpl7 := Lib.hid (show m'.pl = m.pl from hpl7)
                      clear hkc6 hA6 hpl7
                      go_wp2_with (first
                        | (at_builtin; (refine wpList_appK_new rfl _ _ rfl slp (by decide) rfl hA7.own hA7.below hA7.below.size rfl (news := m'.cs) rfl m'.cs_one (by omega) ?_); intro v8 w8 ho8 hb8 hg8 hat8 hs8))
                      have hA8 := hA7.snoc hok7 hfar (hhi7.mono hsz2) ho8 hg8 hat8 hb8
                      go_roundw
                      case rel => exact ⟨k + 1, L' ++ [m'], some (K'.ep, K'.srt), true, by omega, by go_num, by rw [HPe.out]; rfl, rfl, hA8, by simp; omega, HL2, Lib.hid (by rw [← HO.out, Hdr.out, HK.out, List.map_append]; simp [Hpl7.out])⟩
                      case measure => simp [intOf]; omega
                · have HK := Lib.hid HK2
                  clear HK2
                  go_wp2
                  go_roundw
                  case rel => exact ⟨k + 1, L', some (K'.ep, K'.srt), true, by omega, by go_num, by rw [HPe.out]; rfl, rfl, hA6, by omega, HL2, Lib.hid (by rw [← HO.out, Hdr.out, HK.out]; rfl)⟩
                  case measure => simp [intOf]; omega
        · have HK := Lib.hid (keepP_dead (floor := floor) (bottom := bottom) (last := last) (done := d) (p := m.pl) (ps := (L.map Pr.pl).drop (k + 1)) Hd.out hdd)
          clear hdd HP6 hmo6 hob6
          go_wp2
          go_roundw
          case rel => exact ⟨k + 1, L', last, d, by omega, by go_num, rfl, rfl, hA6, by omega, Hlast, Lib.hid (by rw [← HO.out, Hdr.out, HK.out])⟩
          case measure => simp [intOf]; omega
      · have hA2 := hA1.grow hb2
        have HP2 := HP.below hb2 hGl
        have hkc2 := HP2.cell
        have hmo2 := hmo1.below hb2 hBr1
        have hne' : ((err : Int) != 0) = true := by simpa using hne
        have HK := Lib.hid (keepP_err (floor := floor) (bottom := bottom) (dead := dead) (last := last) (done := d) (p := m.pl) (ps := (L.map Pr.pl).drop (k + 1)) hd)
        clear hkc hA1 hmo1 HP hd
        go_wp2_with fail
        refine (c_twin w2 m hmo2 (Nat.le_trans hBr1 hb2.size)).mono ?_
        rintro e w3 ⟨m', rfl, hok3, hhi3, hpl3, hb3⟩
        have hA3 := hA2.grow hb3
        have hfar := hA2.far (Nat.le_refl _) hhi3
        have hsz2 := hA2.below.size
        have Hpl3 := Lib.hid (show m'.pl = m.pl from hpl3)
        clear hkc2 hA2 hpl3
        go_wp2_with (first
          | (at_builtin; (refine wpList_appK_new rfl _ _ rfl slp (by decide) rfl hA3.own hA3.below hA3.below.size rfl (news := m'.cs) rfl m'.cs_one (by omega) ?_); intro v4 w4 ho4 hb4 hg4 hat4 hs4))
        have hA4 := hA3.snoc hok3 hfar (hhi3.mono hsz2) ho4 hg4 hat4 hb4
        go_roundw
        case rel => exact ⟨k + 1, L' ++ [m'], last, d, by omega, by go_num, rfl, rfl, hA4, by simp; omega, Hlast, Lib.hid (by rw [← HO.out, Hdr.out, HK.out, List.map_append]; simp [Hpl3.out])⟩
        case measure => simp [intOf]; omega
    · obtain rfl : k = n := by omega
      obtain ⟨As, cs, rfl, hcs⟩ := hA.own.shape
      have hfin : L'.map Pr.pl = KP := by
        rw [← HO.out, List.drop_of_length_le (by rw [List.length_map, Hln.out]; exact Nat.le_refl _)]
        simp [keepP]
      have Hfin := Lib.hid hfin
      clear hfin HO
      go_wp2
      go_ret
      exact ⟨As, _, cs, L', rfl, hcs, hA.prs rfl, Hfin.out, hA.below⟩
end Go.Proofs.Ytgpbkebmfbbamaa
