/- Layer 23: what is seen of pairs in order, from one key to another, at a number (the document's View): the walk. -/
import Derived.Test.YtedelkifadonjaaGen
import Derived.Test.YtedelkifadonjaaSeF
namespace Go.Lec
open Go.RowKit
/-- What is found: a key, its sort key's bytes, and a value, as they lie in memory. -/
structure Fnd where
  K : Key
  A1 : Option Addr
  c1 : Nat
  A2 : Option Addr
  n2 : Nat
  c2 : Nat
  vl : List UInt8
def Fnd.cs (m : Fnd) : List Value := [.int .i64 m.K.ep, .slice m.A1 (bcs m.K.srt).length m.c1, .int .i64 m.K.sq, .int .i64 m.K.kd, .string ⟨m.K.txt.toArray⟩, .slice m.A2 m.n2 m.c2]
def Fnd.pl (m : Fnd) : Key × List UInt8 := (m.K, m.vl)
def encFd : Enc Fnd where
  k := 6
  cs := Fnd.cs
  len _ := rfl
  one m u hu := by
    simp only [Fnd.cs, List.mem_cons, List.not_mem_nil, or_false] at hu
    rcases hu with rfl | rfl | rfl | rfl | rfl | rfl <;> rfl
  ps m := [⟨m.A1, (bcs m.K.srt).length, bcs m.K.srt⟩, ⟨m.A2, m.n2, bcs m.vl⟩]
  side m := (bcs m.K.srt).length ≤ m.c1 ∧ m.n2 ≤ m.c2
/-- Whether a key is from one to another. -/
def inR (frm upt : List UInt8) (p : PairB) : Bool := !(Op.bytesLess p.1 frm) && !(decide (0 < upt.length) && !(Op.bytesLess p.1 upt))
section
variable {s : Int} {last : Option (Nat × List UInt8)} {p : PairB} {ps : List PairB}
theorem viewP_err {e : Int} (h : dec p.1 = .error e) : viewP s last (p :: ps) = viewP s last ps := by rw [viewP, h]
theorem viewP_high {K : Key} (h : dec p.1 = .ok K) (hs : s < K.sq) : viewP s last (p :: ps) = viewP s last ps := by rw [viewP, h]; simp only; rw [if_pos hs]
theorem viewP_same {K : Key} (h : dec p.1 = .ok K) (hs : ¬ s < K.sq) (hl : last = some (K.ep, K.srt)) : viewP s last (p :: ps) = viewP s last ps := by rw [viewP, h]; simp only; rw [if_neg hs, if_pos hl]
theorem viewP_new {K : Key} (h : dec p.1 = .ok K) (hs : ¬ s < K.sq) (hl : ¬ last = some (K.ep, K.srt)) : viewP s last (p :: ps) = (if K.kd = 1 then [(K, p.2)] else []) ++ viewP s (some (K.ep, K.srt)) ps := by
  rw [viewP, h]; simp only; rw [if_neg hs, if_neg hl]
  split <;> rfl
end
theorem inR_nil (p : PairB) : inR [] [] p = true := by
  have : Op.bytesLess p.1 [] = false := by cases p.1 <;> rfl
  simp [inR, this]
end Go.Lec
namespace Go.Proofs.Ytedelkifadonjaa
open Go.RowKit Go.Lec
theorem infoFd : (Try.prog.info? 40).map (fun i => (i.zero, i.size, i.bytes)) = some (some (.agg #[.int .i64 0, .slice none 0 0, .int .i64 0, .int .i64 0, .string ⟨#[]⟩, .slice none 0 0]), 6, 88) := by kernel_rfl
theorem slf : SlK Try.prog 26 40 (.agg #[.int .i64 0, .slice none 0 0, .int .i64 0, .int .i64 0, .string ⟨#[]⟩, .slice none 0 0]) 88 6 := ⟨Try.underlying26, info_parts infoFd, rfl, by decide⟩
/-- What is seen. -/
def ViewPost (w : World) (O : List (Key × List UInt8)) (e : Ending) (w' : World) : Prop := ∃ (A : Option Addr) (n c : Nat) (F : List Fnd), e = .returned (.slice A n c) ∧ n ≤ c ∧ Els encFd w' w'.heap.size A n F ∧ F.map Fnd.pl = O ∧ Below w.heap.size w w'
/-- The last key that was seen, in its block. -/
structure LastK (W : World) (G : Nat) (b : Bool) (K : Key) (A : Option Addr) (c : Nat) : Prop where
  bk : Bk W G 38 #[.int .i64 K.ep, .slice A (bcs K.srt).length c, .int .i64 K.sq, .int .i64 K.kd, .string ⟨K.txt.toArray⟩]
  rd : Rd W W.heap.size A (bcs K.srt).length (bcs K.srt)
  far : 0 < (bcs K.srt).length → ∀ a, A = some a → a.block ≠ G
theorem LastK.grow {W W' : World} {G c : Nat} {b : Bool} {K : Key} {A : Option Addr} (h : LastK W G b K A c) (hb : Below W.heap.size W W') : LastK W' G b K A c :=
  ⟨h.bk.below hb h.bk.lt, (h.rd.below hb (Nat.le_refl _)).more hb.size, h.far⟩
theorem LastK.grownX {W W' : World} {G c : Nat} {b : Bool} {K : Key} {A : Option Addr} {x : Option Nat} (h : LastK W G b K A c) (hg : W.grownBy W' x) (hx : some G ≠ x) (hA : 0 < (bcs K.srt).length → ∀ a, A = some a → some a.block ≠ x) : LastK W' G b K A c :=
  ⟨h.bk.grownX hg hx, (h.rd.grownX (Nat.le_refl _) hA hg).more hg.size, h.far⟩
def lastO (b : Bool) (K : Key) : Option (Nat × List UInt8) := if b then some (K.ep, K.srt) else none

set_option maxRecDepth 40000 in
set_option maxHeartbeats 3200000 in
theorem c_View (w : World) {B n c nF cF nT cT : Nat} {A AF AT : Option Addr} {L : List Pr} {frm upt : List UInt8} (s : Int) (hr : Prs w B A n L) (hrF : Rd w B AF nF (bcs frm)) (hrT : Rd w B AT nT (bcs upt)) (hB : B ≤ w.heap.size) (hn : n ≤ 1000000) (hm : ∀ m ∈ L, m.n1 ≤ 1000000) (hnT : nT ≤ 1099511627776) :
    Calls Try.prog 8 #[.slice A n c, .slice AF nF cF, .slice AT nT cT, .int .i64 s] w (ViewPost w (viewP s none ((L.map Pr.pl).filter (inR frm upt)))) := by
  have Hln := Lib.hid hr.len
  have HM := Lib.hid hm
  clear hm
  obtain ⟨VP, hVP⟩ : ∃ VP, VP = viewP s none ((L.map Pr.pl).filter (inR frm upt)) := ⟨_, rfl⟩
  rw [← hVP]
  have HVP := Lib.hid hVP
  clear hVP
  have hK0 : LastK (w.alloc (.cells #[.int .i64 0, .slice none 0 0, .int .i64 0, .int .i64 0, .string ⟨#[]⟩] 38)) w.heap.size false ⟨0, [], 0, 0, []⟩ none 0 := ⟨Bk.new_ w 38 _, Rd.nil_, fun h => absurd h (by decide)⟩
  have hb0 : Below w.heap.size w (w.alloc (.cells #[.int .i64 0, .slice none 0 0, .int .i64 0, .int .i64 0, .string ⟨#[]⟩] 38)) := (Below.refl _ _).alloc (Nat.le_refl _) _
  go_enter Try.func8, Try.ntmps8
  go_wp2
  go_loopw [9, 11, 18] (fun v bg i wr => ∃ (k : Nat) (F : List Fnd) (b : Bool) (K0 : Key) (A0 : Option Addr) (c0 : Nat), k ≤ n ∧ i = .int .i64 k ∧ bg = .bool b ∧ Gth encFd (· ≠ w.heap.size) w wr 40 F v ∧ v.ownBlock ≠ some w.heap.size ∧ F.length ≤ k ∧ LastK wr w.heap.size b K0 A0 c0 ∧ Hid (F.map Fnd.pl ++ viewP s (lastO b K0) (((L.map Pr.pl).drop k).filter (inR frm upt)) = VP)) (fun _ _ i _ => n - (intOf i).toNat)
  case atStart => exact ⟨0, [], false, _, _, _, Nat.zero_le _, rfl, rfl, Gth.nil _ _ _ _ hb0, (by intro h; cases h), Nat.zero_le _, hK0, Lib.hid (by rw [HVP.out]; rfl)⟩
  case round =>
    clear hK0 hb0
    obtain ⟨k, F, bg, K0, A0, c0, hk, rfl, rfl, hA, hoG, hlL, hLK, HO⟩ := hrel
    by_cases hlt : k < n
    · obtain ⟨b, o, m, rfl, hbB, hmk, htk, hmok, hcell⟩ := hr.cell2 hlt
      obtain ⟨h0, h1⟩ := hcell wr (hA.below.mono hB)
      have hmo := hmok.below (hA.below.mono hB) (Nat.le_refl _)
      have hml := HM.out m (List.mem_of_getElem? hmk)
      have hdr := drop_pl hmk
      have hblk := Nat.lt_of_lt_of_le hbB (Nat.le_trans hB hA.below.size)
      have hbP := (Below.refl wr.heap.size wr).alloc (Nat.le_refl _) (.cells #[.slice m.A1 m.n1 m.c1, .slice m.A2 m.n2 m.c2] 56)
      have HP := Bk.new_ wr 56 #[.slice m.A1 m.n1 m.c1, .slice m.A2 m.n2 m.c2]
      have hA1 := hA.grow hbP
      have hLK1 := hLK.grow hbP
      have hkc := HP.cell
      obtain ⟨As, cs, rfl, hcs⟩ := hA.own.shape
      have hBr : B ≤ wr.heap.size := Nat.le_trans hB hA.below.size
      have hmo1 := hmo.alloc hBr (.cells #[.slice m.A1 m.n1 m.c1, .slice m.A2 m.n2 m.c2] 56)
      have hbD := hA1.below.mono hB
      have hwG := Nat.lt_of_lt_of_le hLK.bk.lt (Nat.le_refl _)
      obtain ⟨G, hG⟩ : ∃ G, G = wr.heap.size := ⟨_, rfl⟩
      clear hmk htk hcell hA hmok hmo hbP hLK
      go_upto_region 7 with fail
      obtain ⟨W1, hW1⟩ : ∃ W, W = wr.alloc (.cells #[.slice m.A1 m.n1 m.c1, .slice m.A2 m.n2 m.c2] 56) := ⟨_, rfl⟩
      have hBr1 : B ≤ W1.heap.size := by rw [hW1]; simp; omega
      have hGl : G < W1.heap.size := by rw [hW1, hG]; simp
      have hwG1 : w.heap.size < G := by rw [hG]; exact hwG
      rw [← hW1] at HP hA1 hLK1 hmo1 hbD hkc ⊢
      rw [← hG] at HP hkc ⊢
      clear hW1 hG h0 h1 hBr hwG
      obtain ⟨I, hI⟩ : ∃ I, I = inR frm upt m.pl := ⟨_, rfl⟩
      have HI := Lib.hid hI
      replace hdr := congrArg (List.filter (inR frm upt)) hdr
      rw [List.filter_cons, ← hI] at hdr
      have Hdr := Lib.hid hdr
      clear hI hdr
      go_cut [40] from 22 to 40 (fun v wc => v = .bool (!I) ∧ wc = W1)
      case first =>
        have hcv1 := run_str (P := Try.prog) Try.underlying23 Try.underlying5 Try.underlying9 (c := m.c1) hmo1.1
        have hcv2 := run_str (P := Try.prog) Try.underlying23 Try.underlying5 Try.underlying9 (c := cF) (hrF.below hbD (Nat.le_refl _))
        have hcv3 := run_str (P := Try.prog) Try.underlying23 Try.underlying5 Try.underlying9 (c := cT) (hrT.below hbD (Nat.le_refl _))
        have hlT : upt.length = nT := by have := hrT.1; rwa [bcs_length] at this
        have HI2 : Hid (I = (!(Op.bytesLess m.key frm) && !(decide (0 < nT) && !(Op.bytesLess m.key upt)))) := Lib.hid (by rw [HI.out, inR, hlT]; rfl)
        clear HI Hdr hlT HO HVP HM hmo1 hA1 hLK1 HP
        cases h1 : Op.bytesLess m.key frm
        · by_cases h2 : 0 < nT
          · cases h3 : Op.bytesLess m.key upt
            · have hv := HI2.out
              rw [h1, h3, decide_eq_true h2] at hv
              subst hv
              clear HI2
              go_wp2
              go_meet
              case rel => exact ⟨rfl, rfl⟩
            · have hv := HI2.out
              rw [h1, h3, decide_eq_true h2] at hv
              subst hv
              clear HI2
              go_wp2
              go_meet
              case rel => exact ⟨rfl, rfl⟩
          · have hv := HI2.out
            rw [h1, decide_eq_false h2] at hv
            replace hv := Lib.hid hv
            clear HI2
            go_wp2
            go_meet
            case rel => exact ⟨by rw [hv.out]; rfl, rfl⟩
        · have hv := HI2.out
          rw [h1] at hv
          replace hv := Lib.hid hv
          clear HI2
          go_wp2
          go_meet
          case rel => exact ⟨by rw [hv.out]; rfl, rfl⟩
      case rest =>
        obtain ⟨rfl, rfl⟩ := hcut
        clear HI
        cases I
        · have Hdr2 := Lib.hid (Hdr.out.trans (if_neg (by decide)))
          clear Hdr
          go_wp2
          go_roundw
          case rel => exact ⟨k + 1, F, bg, K0, A0, c0, by omega, by go_num, rfl, hA1, hoG, by omega, hLK1, Lib.hid (by rw [← HO.out, Hdr2.out])⟩
          case measure => simp [intOf]; omega
        · have Hdr2 := Lib.hid (Hdr.out.trans (if_pos rfl))
          clear Hdr
          go_wp2_with fail
          refine (c_rDecode wc hmo1.1 hBr1 hmo1.2.2.1 (by omega)).mono ?_
          rintro e w3 (⟨K, v, hd, rfl, hown, hb3⟩ | ⟨err, hd, rfl, hb3⟩)
          · have hA3 := hA1.grow hb3
            have hLK3 := hLK1.grow hb3
            have HP3 := HP.below hb3 hGl
            have hmo3 := hmo1.below hb3 hBr1
            have hBr3 := Nat.le_trans hBr1 hb3.size
            obtain ⟨Av, cv, rfl, hcv⟩ := hown.shape
            have hgeo := fun a ha => hown.ge a ha
            unfold keyVal
            have hbK := (Below.refl w3.heap.size w3).alloc (Nat.le_refl _) (.cells #[.int .i64 K.ep, .slice Av (bcs K.srt).length cv, .int .i64 K.sq, .int .i64 K.kd, .string ⟨K.txt.toArray⟩] 38)
            have HK := Bk.new_ w3 38 #[.int .i64 K.ep, .slice Av (bcs K.srt).length cv, .int .i64 K.sq, .int .i64 K.kd, .string ⟨K.txt.toArray⟩]
            have hrK := hown.rd.below hbK (Nat.le_refl _)
            have hA4 := hA3.grow hbK
            have hLK4 := hLK3.grow hbK
            have HP4 := HP3.below hbK (Nat.lt_of_lt_of_le hGl hb3.size)
            have hmo4 := hmo3.below hbK hBr3
            have hkc4 := HP4.cell
            have hkK := HK.cell
            have hGKl : w3.heap.size < (w3.alloc (.cells #[.int .i64 K.ep, .slice Av (bcs K.srt).length cv, .int .i64 K.sq, .int .i64 K.kd, .string ⟨K.txt.toArray⟩] 38)).heap.size := by simp
            have hwc3 := hb3.size
            have hol := fun g h => hA1.own.lt g h
            clear hA1 hLK1 HP hmo1 hkc hA3 hLK3 hbK HP3 hmo3 hown
            by_cases hs : s < K.sq
            · have HV := Lib.hid (viewP_high (s := s) (last := lastO bg K0) (p := m.pl) (ps := ((L.map Pr.pl).drop (k + 1)).filter (inR frm upt)) hd hs)
              clear hd
              go_wp2
              go_roundw
              case rel => exact ⟨k + 1, F, bg, K0, A0, c0, by omega, by go_num, rfl, hA4, hoG, by omega, hLK4, Lib.hid (by rw [← HO.out, Hdr2.out, HV.out])⟩
              case measure => simp [intOf]; omega
            · obtain ⟨D, hD⟩ : ∃ D, D = decide (lastO bg K0 = some (K.ep, K.srt)) := ⟨_, rfl⟩
              have HD := Lib.hid hD
              clear hD
              have Hd := Lib.hid hd
              clear hd
              go_upto_region 10 with fail
              obtain ⟨GK, hGK⟩ : ∃ GK, GK = w3.heap.size := ⟨_, rfl⟩
              obtain ⟨W4, hW4⟩ : ∃ W, W = w3.alloc (.cells #[.int .i64 K.ep, .slice Av (bcs K.srt).length cv, .int .i64 K.sq, .int .i64 K.kd, .string ⟨K.txt.toArray⟩] 38) := ⟨_, rfl⟩
              rw [← hW4] at hA4 hLK4 HP4 hmo4 HK hrK hGKl hkc4 hkK ⊢
              rw [← hGK] at HK hkK hGKl hrK hwc3 ⊢
              clear hW4 hGK
              go_cut [71] from 55 to 71 (fun v wx => v = .bool D ∧ wx = W4)
              case first =>
                have q0 := hLK4.bk.cell
                have hsv1 := run_str (P := Try.prog) Try.underlying23 Try.underlying5 Try.underlying9 (c := c0) hLK4.rd
                have hsv2 := run_str (P := Try.prog) Try.underlying23 Try.underlying5 Try.underlying9 (c := cv) hrK
                clear hA4 HO HVP HM hmo4 HP4 hkc4
                cases bg
                · have hDv : D = false := by rw [HD.out]; exact decide_eq_false (fun h => by cases h)
                  subst hDv
                  clear HD
                  go_wp2
                  go_meet
                  case rel => exact ⟨rfl, rfl⟩
                · by_cases he : K0.ep = K.ep
                  · have he' : ((K0.ep : Int) == (K.ep : Int)) = true := by rw [he]; exact beq_self_eq_true _
                    have hDv : D = (K0.srt == K.srt) := by
                      rw [HD.out, Bool.eq_iff_iff]
                      simp [lastO, he]
                    have HDv := Lib.hid hDv
                    clear HD hDv he
                    go_wp2
                    go_meet
                    case rel => exact ⟨by rw [HDv.out], rfl⟩
                  · have he' : ((K0.ep : Int) == (K.ep : Int)) = false := by rw [beq_eq_false_iff_ne]; exact fun h => he (Int.ofNat.inj h)
                    have hDv : D = false := by rw [HD.out]; exact decide_eq_false (fun h => by simp only [lastO, if_true, Option.some.injEq, Prod.mk.injEq] at h; exact he h.1)
                    subst hDv
                    clear HD he
                    go_wp2
                    go_meet
                    case rel => exact ⟨rfl, rfl⟩
              case rest =>
                obtain ⟨rfl, rfl⟩ := hcut
                cases hDv : D
                · have HV := Lib.hid (viewP_new (s := s) (last := lastO bg K0) (p := m.pl) (ps := ((L.map Pr.pl).drop (k + 1)).filter (inR frm upt)) Hd.out (by omega) (of_decide_eq_false (HD.out.symm.trans hDv)))
                  have hkd := dec_kd Hd.out
                  clear hDv HD
                  go_upto_region 11 with fail
                  go_cut [11] from 72 to 72 (fun v wx => v = .bool true ∧ Bk wx w.heap.size 38 #[.int .i64 K.ep, .slice Av (bcs K.srt).length cv, .int .i64 K.sq, .int .i64 K.kd, .string ⟨K.txt.toArray⟩] ∧ wc.grownBy wx (some w.heap.size))
                  case first =>
                    have q0 := hLK4.bk.cell
                    have q1 := hLK4.bk.frz
                    go_region
                    go_wp2
                    go_meet
                    case rel => exact ⟨rfl, (((((hLK4.bk.set_ 0 _).set_ 1 _).set_ 2 _).set_ 3 _).set_ 4 _), gdrew (gset (gset (gset (gset (gset (World.grownBy.refl _ _) 0 _) 1 _) 2 _) 3 _) 4 _)⟩
                  case rest =>
                    obtain ⟨rfl, hbk5, hg5⟩ := hcut
                    have hgb : ∀ a, Av = some a → a.block ≠ w.heap.size := fun a ha => by have := hgeo a ha; omega
                    have hA5 := hA4.kept hg5 (Nat.le_refl _) hoG (fun b hb => hb)
                    have hHP := HP4.grownX hg5 (fun e => by cases e; omega)
                    have hHK := HK.grownX hg5 (fun e => by cases e; omega)
                    have hrK5 := (hrK.more (Nat.le_of_lt hGKl)).grownX (Nat.le_refl _) (fun _ a ha e => hgb a ha (Option.some.inj e)) hg5
                    have hr2 := hmo4.2.1.grownX (Nat.le_of_lt (Nat.lt_of_le_of_lt (Nat.le_trans hBr1 hwc3) hGKl)) (fun hn a ha e => by obtain ⟨b', o', e', hb', _⟩ := hmo4.2.1.2 hn; rw [e'] at ha; cases ha; have e3 : b' = w.heap.size := Option.some.inj e; omega) hg5
                    have hLK5 : LastK wc w.heap.size true K Av cv := ⟨hbk5, hrK5.more hg5.size, fun _ a ha => hgb a ha⟩
                    have hkc5 := hHP.cell
                    have hkK5 := hHK.cell
                    have hc2 := hmo4.2.2.2.1
                    have hBg : B ≤ wc.heap.size := by have := hg5.size; omega
                    clear hA4 HP4 HK hrK hmo4 hLK4 hkc4 hkK hbk5
                    by_cases hk1 : K.kd = 1
                    · have hk1' : (K.kd == 1) = true := by rw [hk1]; rfl
                      have HV2 := Lib.hid (HV.out.trans (by rw [if_pos hk1]))
                      clear HV hkd hk1
                      obtain ⟨m', hm'⟩ : ∃ m' : Fnd, m' = ⟨K, Av, cv, m.A2, m.n2, m.c2, m.vl⟩ := ⟨_, rfl⟩
                      have hcs' : m'.cs = [.int .i64 K.ep, .slice Av (bcs K.srt).length cv, .int .i64 K.sq, .int .i64 K.kd, .string ⟨K.txt.toArray⟩, .slice m.A2 m.n2 m.c2] := by rw [hm']; rfl
                      have hok' : encFd.ok wc wc.heap.size m' := by
                        subst hm'
                        refine ⟨fun p hp => ?_, hcv, hc2⟩
                        simp only [encFd, List.mem_cons, List.not_mem_nil, or_false] at hp
                        rcases hp with rfl | rfl
                        · exact hrK5.more hg5.size
                        · exact hr2.more hBg
                      have hlo : encFd.lie (fun b => some b ≠ (Value.slice As F.length cs).ownBlock) m' := by
                        subst hm'
                        intro p hp hn a ha e
                        have h1 := hol _ e.symm
                        simp only [encFd, List.mem_cons, List.not_mem_nil, or_false] at hp
                        rcases hp with rfl | rfl
                        · have := hgeo a ha; omega
                        · obtain ⟨b', o', e', hb', _⟩ := hr2.2 hn; dsimp only at ha; rw [e'] at ha; cases ha; dsimp only at h1; omega
                      have hlx : encFd.lie (· ≠ w.heap.size) m' := by
                        subst hm'
                        intro p hp hn a ha e
                        simp only [encFd, List.mem_cons, List.not_mem_nil, or_false] at hp
                        rcases hp with rfl | rfl
                        · exact hgb a ha e
                        · obtain ⟨b', o', e', hb', _⟩ := hr2.2 hn; dsimp only at ha; rw [e'] at ha; cases ha; dsimp only at e; omega
                      have hpl' : m'.pl = (K, m.pl.2) := by subst hm'; rfl
                      have Hpl' := Lib.hid hpl'
                      clear hm' hpl' hrK5 hr2
                      go_wp2_with (first
                        | (at_builtin; (refine wpList_appK_new rfl _ _ rfl slf (by decide) rfl hA5.own hA5.below hA5.below.size rfl (news := [.int .i64 K.ep, .slice Av (bcs K.srt).length cv, .int .i64 K.sq, .int .i64 K.kd, .string ⟨K.txt.toArray⟩, .slice m.A2 m.n2 m.c2]) rfl (by rw [← hcs']; exact encFd.one m') (by omega) ?_); intro v8 w8 ho8 hb8 hg8 hat8 hs8))
                      replace hat8 : v8.ownBlock = (Value.slice As F.length cs).ownBlock ∨ ∃ g, v8.ownBlock = some g ∧ wc.heap.size ≤ g := hat8
                      replace hg8 : wc.grownBy w8 (Value.slice As F.length cs).ownBlock := hg8
                      have hA8 : Gth encFd (· ≠ w.heap.size) w w8 40 (F ++ [m']) v8 := hA5.snoc hok' hlo hlx (by rw [show encFd.cs m' = _ from hcs']; exact ho8) hg8 hat8 hb8
                      have hwl := hLK5.bk.lt
                      have hoG8 : v8.ownBlock ≠ some w.heap.size := by
                        rcases hat8 with e | ⟨g, e, hg⟩
                        · rw [e]; exact hoG
                        · rw [e]; intro h; cases h; omega
                      have hLK8 : LastK w8 w.heap.size true K Av cv := hLK5.grownX hg8 (fun e => hoG e.symm) (fun _ a ha e => by have h1 := hol _ e.symm; have := hgeo a ha; omega)
                      clear hok' hlo hlx hat8 hg8 hA5 hLK5 ho8 hHP hHK hkc5 hkK5
                      go_roundw
                      case rel => exact ⟨k + 1, F ++ [m'], true, K, Av, cv, by omega, by go_num, rfl, hA8, hoG8, by simp; omega, hLK8, Lib.hid (by rw [← HO.out, Hdr2.out, HV2.out, List.map_append]; simp [Hpl'.out, lastO])⟩
                      case measure => simp [intOf]; omega
                    · have hk1' : (K.kd == 1) = false := by rw [beq_eq_false_iff_ne]; exact hk1
                      have HV2 := Lib.hid (HV.out.trans (by rw [if_neg hk1]))
                      clear HV hkd hk1 hrK5 hr2
                      go_wp2
                      go_roundw
                      case rel => exact ⟨k + 1, F, true, K, Av, cv, by omega, by go_num, rfl, hA5, hoG, by omega, hLK5, Lib.hid (by rw [← HO.out, Hdr2.out, HV2.out]; rfl)⟩
                      case measure => simp [intOf]; omega
                · have HV := Lib.hid (viewP_same (s := s) (last := lastO bg K0) (p := m.pl) (ps := ((L.map Pr.pl).drop (k + 1)).filter (inR frm upt)) Hd.out (by omega) (of_decide_eq_true (HD.out.symm.trans hDv)))
                  clear hDv HD
                  go_wp2
                  go_roundw
                  case rel => exact ⟨k + 1, F, bg, K0, A0, c0, by omega, by go_num, rfl, hA4, hoG, by omega, hLK4, Lib.hid (by rw [← HO.out, Hdr2.out, HV.out])⟩
                  case measure => simp [intOf]; omega
          · have hne := dec_errne hd
            have hne' : ((err : Int) != 0) = true := by simpa using hne
            have hA3 := hA1.grow hb3
            have hLK3 := hLK1.grow hb3
            have hbK := (Below.refl w3.heap.size w3).alloc (Nat.le_refl _) (.cells #[.int .i64 0, .slice none 0 0, .int .i64 0, .int .i64 0, .string ⟨#[]⟩] 38)
            have hA4 := hA3.grow hbK
            have hLK4 := hLK3.grow hbK
            have HV := Lib.hid (viewP_err (s := s) (last := lastO bg K0) (p := m.pl) (ps := ((L.map Pr.pl).drop (k + 1)).filter (inR frm upt)) hd)
            clear hA1 hLK1 HP hmo1 hkc hA3 hLK3 hbK hd
            go_wp2
            go_roundw
            case rel => exact ⟨k + 1, F, bg, K0, A0, c0, by omega, by go_num, rfl, hA4, hoG, by omega, hLK4, Lib.hid (by rw [← HO.out, Hdr2.out, HV.out])⟩
            case measure => simp [intOf]; omega
    · obtain rfl : k = n := by omega
      obtain ⟨As, cs, rfl, hcs⟩ := hA.own.shape
      have hfin : F.map Fnd.pl = VP := by
        rw [← HO.out, List.drop_of_length_le (by rw [List.length_map, Hln.out]; exact Nat.le_refl _)]
        simp [viewP]
      have Hfin := Lib.hid hfin
      clear hfin HO
      go_wp2
      go_ret
      exact ⟨As, _, cs, F, rfl, hcs, hA.els rfl, Hfin.out, hA.below⟩
end Go.Proofs.Ytedelkifadonjaa
