/- Layer 24, LevelKeeps: how pairs are cut into files: the walk of Cut. -/
import Derived.Test.YtgpbkebmfbbamaaSeJ
import Derived.Test.YtgpbkebmfbbamaaPairsC
import Derived.Test.YtgpbkebmfbbamaaCutPlain
namespace Go.Proofs.Ytgpbkebmfbbamaa
open Go.RowKit Go.Lec
theorem infoSl : (Try.prog.info? 51).map (fun i => (i.zero, i.size, i.bytes)) = some (some (.slice none 0 0), 1, 24) := by kernel_rfl
theorem sls : SlK Try.prog 54 51 (.slice none 0 0) 24 1 := ⟨Try.underlying54, info_parts infoSl, rfl, by decide⟩
theorem _root_.Go.Lec.Pr.ok.keepX {w w' : World} {B : Nat} {x : Option Nat} {m : Pr} (h : m.ok w B) (hB : B ≤ w.heap.size) (hx : ∀ g, x = some g → B ≤ g) (hg : w.grownBy w' x) : m.ok w' B := ⟨h.1.grown hg hB hx, h.2.1.grown hg hB hx, h.2.2⟩
/-- The pieces, and no error. -/
def CutPost (w : World) (O : List (List PairB)) (e : Ending) (w' : World) : Prop := ∃ (A : Option Addr) (n c : Nat) (out : List (Sl Pr)), e = .returned (.tuple #[.slice A n c, .int .i64 0]) ∧ n ≤ c ∧ Els (encSl encPr) w' w'.heap.size A n out ∧ out.map Sl.pls = O ∧ Below w.heap.size w w'
/-- The state of a cutting, as it lies in memory. -/
structure CutIn (w W : World) (S : CSt) (out : List (Sl Pr)) (vo : Value) (now : List Pr) (vn : Value) : Prop where
  two : Two encPr w W 51 82 out vo now vn
  eo : out.map Sl.pls = S.out
  en : now.map Pr.pl = S.now

set_option maxRecDepth 40000 in
set_option maxHeartbeats 3200000 in
theorem c_Cut (w : World) {B n c : Nat} {A : Option Addr} {L : List Pr} (most : Int) (hr : Prs w B A n L) (hB : B ≤ w.heap.size) (hn : n ≤ 1000000) (hm : ∀ m ∈ L, m.n1 + m.n2 ≤ 1000000) (h1 : 1 ≤ most) :
    Calls Try.prog 24 #[.slice A n c, .int .i64 most] w (CutPost w (cutF most (L.map Pr.pl))) := by
  have Hln := Lib.hid hr.len
  have HM := Lib.hid hm
  clear hm
  have hmost : ¬ most < 1 := by omega
  obtain ⟨CP, hCP⟩ : ∃ CP, CP = cutF most (L.map Pr.pl) := ⟨_, rfl⟩
  rw [← hCP]
  have HCP := Lib.hid hCP
  clear hCP
  go_enter Try.func24, Try.ntmps24
  go_wp2
  go_loopw [6, 7, 8, 9, 10, 22] (fun vo vn sz la kn i wr => ∃ (k : Nat) (out : List (Sl Pr)) (now : List Pr) (S : CSt) (N : Int) (kb : Bool) (P : List UInt8), k ≤ n ∧ i = .int .i64 k ∧ CutIn w wr S out vo now vn ∧ sz = .int .i64 N ∧ la = .string ⟨P.toArray⟩ ∧ kn = .bool kb ∧ Hid (S.last = if kb then some P else none) ∧ Hid (S = cutSt most ((L.map Pr.pl).take k)) ∧ Hid (N = S.n) ∧ 0 ≤ N ∧ N ≤ 1000000 * k ∧ out.length ≤ k ∧ now.length ≤ k) (fun _ _ _ _ _ i _ => n - (intOf i).toNat)
  case atStart => exact ⟨0, [], [], ⟨[], [], 0, none⟩, 0, false, [], Nat.zero_le _, rfl, ⟨Two.nil _ _ _ (Below.refl _ _), rfl, rfl⟩, rfl, rfl, rfl, Lib.hid rfl, Lib.hid rfl, Lib.hid rfl, by omega, by omega, Nat.zero_le _, Nat.zero_le _⟩
  case round =>
    obtain ⟨k, out, now, S, N, kb, P, hk, rfl, hA, rfl, rfl, rfl, HSl, HS, HN, hN0, hN1, hlo, hln⟩ := hrel
    obtain ⟨Ao, co, rfl, hco⟩ := hA.two.go.own.shape
    obtain ⟨An, cn, rfl, hcn⟩ := hA.two.gn.own.shape
    by_cases hlt : k < n
    · obtain ⟨b, o, m, rfl, hbB, hmk, htk, hmok, hcell⟩ := hr.cell2 hlt
      obtain ⟨h0, h1⟩ := hcell wr (hA.two.gn.below.mono hB)
      have hmo := hmok.below (hA.two.gn.below.mono hB) (Nat.le_refl _)
      have hml := HM.out m (List.mem_of_getElem? hmk)
      have HP := Bk.new_ wr 82 #[.slice m.A1 m.n1 m.c1, .slice m.A2 m.n2 m.c2]
      have hbP := (Below.refl wr.heap.size wr).alloc (Nat.le_refl _) (.cells #[.slice m.A1 m.n1 m.c1, .slice m.A2 m.n2 m.c2] 82)
      have hA1 : CutIn w _ S out _ now _ := ⟨hA.two.grow hbP, hA.eo, hA.en⟩
      have hkc := HP.cell
      have hBr : B ≤ wr.heap.size := Nat.le_trans hB hA.two.gn.below.size
      have hmo1 := hmo.alloc hBr (.cells #[.slice m.A1 m.n1 m.c1, .slice m.A2 m.n2 m.c2] 82)
      have Hst := Lib.hid (show cutSt most ((L.map Pr.pl).take (k + 1)) = CSt.step most S m.pl from by
        have hk' : k < (L.map Pr.pl).length := by rw [List.length_map, Hln.out]; exact hlt
        rw [HS.out, cutSt, List.take_succ_eq_append_getElem hk', List.foldl_append]
        obtain ⟨_, e⟩ := List.getElem?_eq_some_iff.1 hmk
        simp [cutSt, e])
      have hogl := fun g e => hA.two.go.own.lt g e
      have hngl := fun g e => hA.two.gn.own.lt g e
      obtain ⟨G, hG⟩ : ∃ G, G = wr.heap.size := ⟨_, rfl⟩
      clear hmk htk hcell hA hmok hmo hbP
      go_upto_region 10 with fail
      obtain ⟨W1, hW1⟩ : ∃ W, W = wr.alloc (.cells #[.slice m.A1 m.n1 m.c1, .slice m.A2 m.n2 m.c2] 82) := ⟨_, rfl⟩
      have hBr1 : B ≤ W1.heap.size := by rw [hW1]; simp; omega
      have hGl : G < W1.heap.size := by rw [hW1, hG]; simp
      rw [← hW1] at HP hA1 hmo1 hkc ⊢
      rw [← hG] at HP hkc hogl hngl ⊢
      clear hW1 hG h0 h1 hBr
      go_cut [13, 16] from 26 to 33 (fun b e wx => ∃ (Ab : Option Addr) (cb : Nat) (Pb : List UInt8) (x : Int), b = .slice Ab (bcs Pb).length cb ∧ e = .int .i64 x ∧ Rd wx wx.heap.size Ab (bcs Pb).length (bcs Pb) ∧ Below W1.heap.size W1 wx ∧ (∀ a, Ab = some a → W1.heap.size ≤ a.block) ∧ Hid (preO m.pl = (if (x == 0) then some Pb else none)))
      case first =>
        go_wp2_with fail
        refine (c_SplitAny W1 hmo1.1 hBr1 hmo1.2.2.1 (by omega)).mono ?_
        rintro e w2 (⟨K, Ab, cb, hd, rfl, hob, hb2⟩ | ⟨err, hd, hne, rfl, hb2⟩)
        · have Hp := Lib.hid (show preO m.pl = (if ((0 : Int) == 0) then some (be 2 K.ep ++ escT K.srt) else none) from by unfold preO; rw [show m.pl.1 = m.key from rfl, hd]; rfl)
          clear hd
          go_wp2
          go_meet
          case rel => exact ⟨Ab, cb, _, 0, rfl, rfl, hob.rd, hb2, fun a ha => hob.ge a ha, Hp⟩
        · have Hp := Lib.hid (show preO m.pl = (if (err == 0) then some [] else none) from by unfold preO; rw [show m.pl.1 = m.key from rfl, hd, if_neg (by simpa using hne)])
          clear hd
          go_wp2
          go_meet
          case rel => exact ⟨none, 0, [], err, rfl, rfl, Rd.nil_, hb2, fun a ha => (by cases ha), Hp⟩
      case rest =>
        obtain ⟨Ab, cb, Pb, x, rfl, rfl, hob, hb2, hab, Hp⟩ := hcut
        have hA2 : CutIn w wc S out _ now _ := ⟨hA1.two.grow hb2, hA1.eo, hA1.en⟩
        have HP2 := HP.below hb2 hGl
        have hkc2 := HP2.cell
        have hmo2 := hmo1.below hb2 hBr1
        have hBr2 := Nat.le_trans hBr1 hb2.size
        obtain ⟨is_, his⟩ : ∃ z : Bool, z = (x == 0) := ⟨_, rfl⟩
        rw [← his] at Hp
        have hcv := run_str (P := Try.prog) Try.underlying22 Try.underlying5 Try.underlying9 (c := cb) hob
        obtain ⟨D, hD⟩ : ∃ D, D = S.brk most m.pl := ⟨_, rfl⟩
        have HD := Lib.hid (show D = (decide (0 < now.length) && decide (most ≤ N) && !(is_ && kb && (Pb == P))) from by
          rw [hD, CSt.brk, HSl.out, Hp.out, sameG_eq, HN.out, ← hA2.en, List.length_map])
        have HD0 := Lib.hid hD
        clear hD hA1 HP hmo1 hkc hb2
        go_upto_region 11 with fail
        go_cut [17] from 34 to 35 (fun v wx => v = .bool is_ ∧ wx = wc)
        case first =>
          go_wp2
          go_meet
          case rel => exact ⟨by rw [his], rfl⟩
        case rest =>
          obtain ⟨rfl, rfl⟩ := hcut
          clear his
          go_upto_region 12 with fail
          go_cut [56] from 36 to 56 (fun v wx => v = .bool D ∧ wx = wc)
          case first =>
            clear hA2 HP2 hkc2 hmo2 HS HSl Hst HCP HM HD0
            by_cases g1 : 0 < now.length
            · by_cases g2 : most ≤ N
              · have Hq := Lib.hid (show D = !(is_ && kb && (Pb == P)) from by rw [HD.out, decide_eq_true g1, decide_eq_true g2]; rfl)
                clear HD
                cases is_
                · go_wp2
                  go_meet
                  case rel => exact ⟨by rw [Hq.out]; rfl, rfl⟩
                · cases kb
                  · go_wp2
                    go_meet
                    case rel => exact ⟨by rw [Hq.out]; rfl, rfl⟩
                  · go_wp2
                    go_meet
                    case rel => exact ⟨by rw [Hq.out]; rfl, rfl⟩
              · have Hq := Lib.hid (show D = false from by rw [HD.out, decide_eq_false g2, Bool.and_false]; rfl)
                clear HD
                go_wp2
                go_meet
                case rel => exact ⟨by rw [Hq.out], rfl⟩
            · have Hq := Lib.hid (show D = false from by rw [HD.out, decide_eq_false g1]; rfl)
              clear HD
              go_wp2
              go_meet
              case rel => exact ⟨by rw [Hq.out], rfl⟩
          case rest =>
            obtain ⟨rfl, rfl⟩ := hcut
            go_upto_if 56 with fail
            go_cut [6, 7, 8] from 56 to 60 (fun vo vn sz wx => ∃ (S' : CSt) (out' : List (Sl Pr)) (now' : List Pr) (N' : Int), CutIn w wx S' out' vo now' vn ∧ sz = .int .i64 N' ∧ Hid (S' = if D then S.shut else S) ∧ Hid (N' = S'.n) ∧ 0 ≤ N' ∧ N' ≤ 1000000 * k ∧ out'.length ≤ k + 1 ∧ now'.length ≤ k ∧ vn.ownBlock ≠ some G ∧ Bk wx G 82 #[.slice m.A1 m.n1 m.c1, .slice m.A2 m.n2 m.c2] ∧ m.ok wx B ∧ Rd wx wx.heap.size Ab (bcs Pb).length (bcs Pb) ∧ wc.heap.size ≤ wx.heap.size)
            case first =>
              cases hDv : D
              · have H' : Hid (S = if D then S.shut else S) := Lib.hid (by rw [hDv]; rfl)
                clear hDv
                go_wp2
                go_meet
                case rel => exact ⟨S, out, now, N, hA2, rfl, H', HN, hN0, hN1, by omega, hln, fun e => by have := (hngl _ e).2; omega, HP2, hmo2, hob, Nat.le_refl _⟩
              · have H' : Hid (S.shut = if D then S.shut else S) := Lib.hid (by rw [hDv]; rfl)
                clear hDv
                go_wp2_with (first
                  | (at_builtin; (refine wpList_appK_new rfl _ _ rfl sls (by decide) rfl hA2.two.go.own hA2.two.go.below hA2.two.go.below.size rfl (news := [.slice An now.length cn]) rfl (fun u hu => by rw [List.mem_singleton.1 hu]; rfl) (by omega) ?_); intro v8 w8 ho8 hb8 hg8 hat8 hs8))
                replace hat8 : v8.ownBlock = (Value.slice Ao out.length co).ownBlock ∨ ∃ g, v8.ownBlock = some g ∧ wc.heap.size ≤ g := hat8
                replace hg8 : wc.grownBy w8 (Value.slice Ao out.length co).ownBlock := hg8
                have hA8 : CutIn w w8 S.shut (out ++ [⟨An, now.length, cn, now⟩]) v8 [] (.slice none 0 0) := ⟨Two.shut (by decide) hA2.two rfl hcn ho8 hg8 hat8 hb8, by rw [List.map_append, hA2.eo]; simp [Sl.pls, CSt.shut, hA2.en], rfl⟩
                have hP8 := HP2.grownX hg8 (fun e => by have := (hogl _ e.symm).2; omega)
                have hm8 := hmo2.keepX hBr2 (fun g e => by have := (hogl _ e).1; omega) hg8
                have hr8 := (hob.grownX (Nat.le_refl _) (fun _ a ha e => by have h1 := (hogl _ e.symm).2; have h2 := hab a ha; omega) hg8).more hg8.size
                have hz8 := hg8.size
                clear hA2 ho8 hg8 hat8
                go_wp2
                go_meet
                case rel => exact ⟨S.shut, _, [], 0, hA8, rfl, H', Lib.hid rfl, by omega, by omega, by simp; omega, Nat.zero_le _, (fun e => by cases e), hP8, hm8, hr8, hz8⟩
            case rest =>
              obtain ⟨S', out', now', N', hA3, rfl, HS', HN', hN0', hN1', hlo', hln', hnG, HP3, hmo3, hob3, hsz3⟩ := hcut
              have HS2 := Lib.hid (show S'.add m.pl = cutSt most ((L.map Pr.pl).take (k + 1)) from by rw [Hst.out, CSt.step, ← HD0.out, ← HS'.out])
              clear hA2 HP2 hkc2 hmo2 hob hcv hogl hngl HS HN HSl Hst HD HD0 HS' hN0 hN1
              obtain ⟨Ao', co', rfl, hco'⟩ := hA3.two.go.own.shape
              obtain ⟨An', cn', rfl, hcn'⟩ := hA3.two.gn.own.shape
              have hcv := run_str (P := Try.prog) Try.underlying22 Try.underlying5 Try.underlying9 (c := cb) hob3
              have hkc3 := HP3.cell
              have hBr3 : B ≤ wc.heap.size := Nat.le_trans hBr2 hsz3
              have hl1 := hmo3.1.1
              have hl2 := hmo3.2.1.1
              rw [bcs_length] at hl1 hl2
              have Hl1 := Lib.hid hl1
              have Hl2 := Lib.hid hl2
              clear hl1 hl2
              go_wp2_with fail
              refine (c_twin wc m hmo3 hBr3).mono ?_
              rintro e w6 ⟨m', rfl, hok7, hhi7, hpl7, hb7⟩
              have hA7 : CutIn w w6 S' out' _ now' _ := ⟨hA3.two.grow hb7, hA3.eo, hA3.en⟩
              have Hpl7 := Lib.hid (show m'.pl = m.pl from hpl7)
              have HP7 := HP3.below hb7 HP3.lt
              have hf1 := hA3.two.gn.far (encPr_hi hhi7)
              have hf2 := hA3.two.go.own.lt
              have hf3 : encPr.lie (fun b => some b ≠ (Value.slice Ao' out'.length co').ownBlock) m' := (encPr_hi hhi7).imp fun b hb eb => by have := (hf2 _ eb.symm).2; omega
              clear hkc3 hA3 hpl7 HP3 hob3 hcv hmo3 hf2
              go_wp2_with (first
                | (at_builtin; (refine wpList_appK_new rfl _ _ rfl slp (by decide) rfl hA7.two.gn.own hA7.two.gn.below hA7.two.gn.below.size rfl (news := m'.cs) rfl m'.cs_one (by omega) ?_); intro v8 w8 ho8 hb8 hg8 hat8 hs8; have hkc8 := (HP7.grownX (x := (Value.slice An' now'.length cn').ownBlock) hg8 (fun e => hnG e.symm)).cell))
              replace hat8 : v8.ownBlock = (Value.slice An' now'.length cn').ownBlock ∨ ∃ g, v8.ownBlock = some g ∧ w6.heap.size ≤ g := hat8
              replace hg8 : w6.grownBy w8 (Value.slice An' now'.length cn').ownBlock := hg8
              have hA8 : CutIn w w8 (S'.add m.pl) out' _ (now' ++ [m']) v8 := ⟨hA7.two.put (encPr_ok hok7) hf1 hf3 ho8 hg8 hat8 hb8, hA7.eo, by rw [List.map_append, hA7.en]; simp [CSt.add, Hpl7.out]⟩
              clear hA7 ho8 hg8 hat8 hf1 hf3 hok7 hkc8
              go_roundw
              case rel => exact ⟨k + 1, out', now' ++ [m'], S'.add m.pl, N' + ((m.n1 : Int) + (m.n2 : Int)), is_, Pb, by omega, by go_num, hA8, rfl, rfl, rfl, Lib.hid (by rw [CSt.add, Hp.out]), HS2, Lib.hid (by rw [CSt.add, HN'.out]; show _ = _ + ((m.key.length : Int) + (m.vl.length : Int)); rw [Hl1.out, Hl2.out]), by omega, by omega, by omega, by simp; omega⟩
              case measure => simp [intOf]; omega
    · obtain rfl : k = n := by omega
      have hfin : CP = if 0 < now.length then S.out ++ [S.now] else S.out := by
        have e1 : S = cutSt most (L.map Pr.pl) := by rw [HS.out, List.take_of_length_le (by rw [List.length_map, Hln.out]; exact Nat.le_refl _)]
        rw [HCP.out, cutF, ← e1, ← hA.en, List.length_map]
      by_cases g1 : 0 < now.length
      · rw [if_pos g1] at hfin
        have Hfin := Lib.hid hfin
        clear hfin HS HCP
        go_wp2_with (first
          | (at_builtin; (refine wpList_appK_new rfl _ _ rfl sls (by decide) rfl hA.two.go.own hA.two.go.below hA.two.go.below.size rfl (news := [.slice An now.length cn]) rfl (fun u hu => by rw [List.mem_singleton.1 hu]; rfl) (by omega) ?_); intro v8 w8 ho8 hb8 hg8 hat8 hs8))
        replace hat8 : v8.ownBlock = (Value.slice Ao out.length co).ownBlock ∨ ∃ g, v8.ownBlock = some g ∧ wr.heap.size ≤ g := hat8
        replace hg8 : wr.grownBy w8 (Value.slice Ao out.length co).ownBlock := hg8
        have hA8 := Two.shut (by decide) hA.two rfl hcn ho8 hg8 hat8 hb8
        have heo := hA.eo
        have hen := hA.en
        clear hA ho8 hg8 hat8
        obtain ⟨A9, c9, rfl, hc9⟩ := hA8.go.own.shape
        go_ret2
        exact ⟨A9, _, c9, _, rfl, hc9, hA8.go.els rfl, by rw [Hfin.out, List.map_append, heo]; simp [Sl.pls, hen], hA8.go.below⟩
      · rw [if_neg g1] at hfin
        have Hfin := Lib.hid hfin
        clear hfin HS HCP
        go_wp2
        go_ret2
        exact ⟨Ao, _, co, out, rfl, hco, hA.two.go.els rfl, by rw [Hfin.out, hA.eo], hA.two.go.below⟩
end Go.Proofs.Ytgpbkebmfbbamaa
