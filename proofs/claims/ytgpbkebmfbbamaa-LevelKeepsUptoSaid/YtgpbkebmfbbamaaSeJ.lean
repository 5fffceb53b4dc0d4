/- Layer 24, LevelKeeps: what a compaction keeps by the document: the walk of the reference's Keep. -/
import Derived.Test.YtgpbkebmfbbamaaSeI
namespace Go.Lec
open Go.RowKit
theorem AllR.snoc {w W W' : World} {e : TypeId} {L O : List Pr} {v v2 : Value} {m : Pr} (h : AllR w W e L v O) (hm : m ∈ L) (ho : OwnK W' w.heap.size e 2 v2 (O.length + 1) (O.flatMap Pr.cs ++ m.cs)) (hb : Below w.heap.size w W') : AllR w W' e L v2 (O ++ [m]) :=
  ⟨by simpa using ho, fun x hx => by
    rcases List.mem_append.1 hx with hx | hx
    · exact h.sub x hx
    · rw [List.mem_singleton.1 hx]; exact hm, hb⟩
theorem AllR.kept {w W W' : World} {e : TypeId} {L O : List Pr} {v : Value} {g : Nat} (h : AllR w W e L v O) (hk : W.grownBy W' (some g)) (hp : w.heap.size ≤ g) (ho : v.ownBlock ≠ some g) : AllR w W' e L v O :=
  ⟨h.own.grown hk (fun j ej => by cases ej; exact ho), h.sub, h.below.grown hk h.below.size (fun j ej => by cases ej; exact hp)⟩
end Go.Lec
namespace Go.Proofs.Ytgpbkebmfbbamaa
open Go.RowKit Go.Lec

theorem c_among (w : World) {B : Nat} {A : Option Addr} {n c : Nat} {l : List Int} (x : Int) (hr : Rd w B A n (Lec.ics l)) (hB : B ≤ w.heap.size) (hn : n ≤ 1099511627776) :
    Calls Try.prog 41 #[.slice A n c, .int .i64 x] w fun e w' => e = .returned (.bool (l.contains x)) ∧ Below w.heap.size w w' := by
  have hln := hr.1
  rw [Lec.ics_length] at hln
  have Hln := Lib.hid hln
  clear hln
  go_enter Try.func41, Try.ntmps41
  go_wp2
  go_loopw [9] (fun i wr => ∃ k : Nat, k ≤ n ∧ i = .int .i64 k ∧ Hid (∀ y ∈ l.take k, y ≠ x) ∧ Below w.heap.size w wr) (fun i _ => n - (intOf i).toNat)
  case atStart => exact ⟨0, Nat.zero_le _, rfl, Lib.hid (fun y hy => by simp at hy), Below.refl _ _⟩
  case round =>
    obtain ⟨k, hk, rfl, hno, hb⟩ := hrel
    by_cases hlt : k < n
    · obtain ⟨b, o, rfl, hbB, hcell⟩ := (hr.below hb hB).intAt hlt
      have hkl : k < l.length := by rw [Hln.out]; exact hlt
      have hc := hcell k hkl
      clear hcell
      obtain ⟨y, hy⟩ : ∃ y, y = l[k] := ⟨_, rfl⟩
      rw [← hy] at hc
      have Hy := Lib.hid hy
      clear hy
      by_cases hxy : y = x
      · subst hxy
        have hin : l.contains y = true := by simpa using (by rw [Hy.out]; exact List.getElem_mem hkl : y ∈ l)
        have Hin := Lib.hid hin
        clear hin
        go_wp2
        go_ret
        exact ⟨by rw [Hin.out]; rfl, hb⟩
      · have hne : (y == x) = false := by simpa using hxy
        have hstep : ∀ z ∈ l.take (k + 1), z ≠ x := by
          rw [List.take_succ_eq_append_getElem hkl]
          intro z hz
          rcases List.mem_append.1 hz with hz | hz
          · exact hno.out z hz
          · rw [List.mem_singleton.1 hz, ← Hy.out]; exact hxy
        have HS := Lib.hid hstep
        clear hstep
        go_wp2
        go_roundw
        case rel => exact ⟨k + 1, by omega, by go_num, HS, hb⟩
        case measure => simp [intOf]; omega
    · obtain rfl : k = n := by omega
      have hin : l.contains x = false := by
        have := hno.out
        rw [List.take_of_length_le (by rw [Hln.out]; exact Nat.le_refl _)] at this
        simpa using fun h => this x h rfl
      have Hin := Lib.hid hin
      clear hin
      go_wp2
      go_ret
      exact ⟨by rw [Hin.out]; rfl, hb⟩


set_option maxRecDepth 40000 in
set_option maxHeartbeats 3200000 in
theorem c_rKeep (w : World) {B n c nD cD : Nat} {A AD : Option Addr} {L : List Pr} {dead : List Int} (floor : Int) (bottom : Bool) (hr : Prs w B A n L) (hB : B ≤ w.heap.size) (hn : n ≤ 1000000) (hm : ∀ m ∈ L, m.n1 ≤ 1000000) (hrD : Rd w B AD nD (Lec.ics dead)) (hnD : nD ≤ 1099511627776) :
    Calls Try.prog 23 #[.slice A n c, .int .i64 floor, .bool bottom, .slice AD nD cD] w (KeepPost w (keepP floor bottom dead none false (L.map Pr.pl))) := by
  have Hln := Lib.hid hr.len
  have HM := Lib.hid hm
  clear hm
  obtain ⟨KP, hKP⟩ : ∃ KP, KP = keepP floor bottom dead none false (L.map Pr.pl) := ⟨_, rfl⟩
  rw [← hKP]
  have HKP := Lib.hid hKP
  clear hKP
  have hK0 : LastK (w.alloc (.cells #[.int .i64 0, .slice none 0 0, .int .i64 0, .int .i64 0, .string ⟨#[]⟩] 59)) w.heap.size false ⟨0, [], 0, 0, []⟩ none 0 := ⟨Bk.new_ w 59 _, Rd.nil_, fun h => absurd h (by decide)⟩
  have hb0 : Below w.heap.size w (w.alloc (.cells #[.int .i64 0, .slice none 0 0, .int .i64 0, .int .i64 0, .string ⟨#[]⟩] 59)) := (Below.refl _ _).alloc (Nat.le_refl _) _
  have hA0 : AllR w (w.alloc (.cells #[.int .i64 0, .slice none 0 0, .int .i64 0, .int .i64 0, .string ⟨#[]⟩] 59)) 82 L (.slice none 0 0) [] := ⟨OwnK.nil_ _ _ _ _, fun m h => (by cases h), hb0⟩
  go_enter Try.func23, Try.ntmps23
  go_wp2
  go_loopw [9, 11, 12, 19] (fun v bg dn i wr => ∃ (k : Nat) (O : List Pr) (b d : Bool) (K0 : Key) (A0 : Option Addr) (c0 : Nat), k ≤ n ∧ i = .int .i64 k ∧ bg = .bool b ∧ dn = .bool d ∧ AllR w wr 82 L v O ∧ v.ownBlock ≠ some w.heap.size ∧ O.length ≤ k ∧ LastK wr w.heap.size b K0 A0 c0 ∧ (0 < (bcs K0.srt).length → ∀ a, A0 = some a → some a.block ≠ v.ownBlock) ∧ Hid (O.map Pr.pl ++ keepP floor bottom dead (lastO b K0) d ((L.map Pr.pl).drop k) = KP)) (fun _ _ _ i _ => n - (intOf i).toNat)
  case atStart => exact ⟨0, [], false, false, _, _, _, Nat.zero_le _, rfl, rfl, rfl, hA0, (by intro h; cases h), Nat.zero_le _, hK0, (fun h => absurd h (by decide)), Lib.hid (by rw [HKP.out]; rfl)⟩
  case round =>
    clear hK0 hb0 hA0
    obtain ⟨k, O, bg, dn, K0, A0, c0, hk, rfl, rfl, rfl, hA, hoG, hlL, hLK, hfar, HO⟩ := hrel
    by_cases hlt : k < n
    · obtain ⟨b, o, m, rfl, hbB, hmk, htk, hmok, hcell⟩ := hr.cell2 hlt
      obtain ⟨h0, h1⟩ := hcell wr (hA.below.mono hB)
      have hmo := hmok.below (hA.below.mono hB) (Nat.le_refl _)
      have hml := HM.out m (List.mem_of_getElem? hmk)
      have hmL := List.mem_of_getElem? hmk
      have Hdr := Lib.hid (drop_pl hmk)
      have hbP := (Below.refl wr.heap.size wr).alloc (Nat.le_refl _) (.cells #[.slice m.A1 m.n1 m.c1, .slice m.A2 m.n2 m.c2] 82)
      have HP := Bk.new_ wr 82 #[.slice m.A1 m.n1 m.c1, .slice m.A2 m.n2 m.c2]
      have hA1 := hA.grow hbP
      have hLK1 := hLK.grow hbP
      have hkc := HP.cell
      obtain ⟨As, cs, rfl, hcs⟩ := hA.own.shape
      have hBr : B ≤ wr.heap.size := Nat.le_trans hB hA.below.size
      have hmo1 := hmo.alloc hBr (.cells #[.slice m.A1 m.n1 m.c1, .slice m.A2 m.n2 m.c2] 82)
      have hbD := hA1.below.mono hB
      have hwG := Nat.lt_of_lt_of_le hLK.bk.lt (Nat.le_refl _)
      obtain ⟨G, hG⟩ : ∃ G, G = wr.heap.size := ⟨_, rfl⟩
      clear hmk htk hcell hA hmok hmo hbP hLK
      go_wp2_with fail
      obtain ⟨W1, hW1⟩ : ∃ W, W = wr.alloc (.cells #[.slice m.A1 m.n1 m.c1, .slice m.A2 m.n2 m.c2] 82) := ⟨_, rfl⟩
      have hBr1 : B ≤ W1.heap.size := by rw [hW1]; simp; omega
      have hGl : G < W1.heap.size := by rw [hW1, hG]; simp
      have hwG1 : w.heap.size < G := by rw [hG]; exact hwG
      rw [← hW1] at HP hA1 hLK1 hmo1 hbD hkc ⊢
      rw [← hG] at HP hkc ⊢
      clear hW1 hG h0 h1 hBr hwG
      refine (c_rDecode W1 hmo1.1 hBr1 hmo1.2.2.1 (by omega)).mono ?_
      rintro e w3 (⟨K, v, hd, rfl, hown, hb3⟩ | ⟨err, hd, rfl, hb3⟩)
      · have hA3 := hA1.grow hb3
        have hLK3 := hLK1.grow hb3
        have HP3 := HP.below hb3 hGl
        have hBr3 := Nat.le_trans hBr1 hb3.size
        have hbD3 := hbD.trans (hb3.mono hBr1)
        obtain ⟨Av, cv, rfl, hcv⟩ := hown.shape
        have hgeo := fun a ha => hown.ge a ha
        unfold keyVal
        have hbK := (Below.refl w3.heap.size w3).alloc (Nat.le_refl _) (.cells #[.int .i64 K.ep, .slice Av (bcs K.srt).length cv, .int .i64 K.sq, .int .i64 K.kd, .string ⟨K.txt.toArray⟩] 59)
        have HK := Bk.new_ w3 59 #[.int .i64 K.ep, .slice Av (bcs K.srt).length cv, .int .i64 K.sq, .int .i64 K.kd, .string ⟨K.txt.toArray⟩]
        have hrK := hown.rd.below hbK (Nat.le_refl _)
        have hA4 := hA3.grow hbK
        have hLK4 := hLK3.grow hbK
        have HP4 := HP3.below hbK (Nat.lt_of_lt_of_le hGl hb3.size)
        have hkK := HK.cell
        have hGKl : w3.heap.size < (w3.alloc (.cells #[.int .i64 K.ep, .slice Av (bcs K.srt).length cv, .int .i64 K.sq, .int .i64 K.kd, .string ⟨K.txt.toArray⟩] 59)).heap.size := by simp
        have hwc3 := hb3.size
        have hol := fun g h => hA1.own.lt g h
        have hbD4 := hbD3.trans (hbK.mono hBr3)
        clear hA1 hLK1 HP hmo1 hkc hA3 hLK3 hbK HP3 hown hbD hbD3
        go_wp2_with fail
        obtain ⟨GK, hGK⟩ : ∃ GK, GK = w3.heap.size := ⟨_, rfl⟩
        obtain ⟨W4, hW4⟩ : ∃ W, W = w3.alloc (.cells #[.int .i64 K.ep, .slice Av (bcs K.srt).length cv, .int .i64 K.sq, .int .i64 K.kd, .string ⟨K.txt.toArray⟩] 59) := ⟨_, rfl⟩
        rw [← hW4] at hA4 hLK4 HP4 HK hrK hGKl hkK hbD4 ⊢
        rw [← hGK] at HK hkK hGKl hrK hwc3 ⊢
        clear hW4 hGK
        have hBr4 : B ≤ W4.heap.size := by omega
        refine (c_among W4 K.ep (hrD.below hbD4 (Nat.le_refl _)) hBr4 hnD).mono ?_
        rintro e w5 ⟨rfl, hb5⟩
        have hA6 := hA4.grow hb5
        have hLK6 := hLK4.grow hb5
        have HP6 := HP4.below hb5 (by omega)
        have HK6 := HK.below hb5 hGKl
        have hrK6 := (hrK.more (Nat.le_of_lt hGKl)).below hb5 (Nat.le_refl _)
        have hsz6 := hb5.size
        clear hA4 hLK4 HP4 HK hrK hkK hbD4
        have Hd := Lib.hid hd
        clear hd
        cases hdd : dead.contains (K.ep : Int)
        · have HK0 := Lib.hid (keepP_live (floor := floor) (bottom := bottom) (dead := dead) (last := lastO bg K0) (done := dn) (p := m.pl) (ps := (L.map Pr.pl).drop (k + 1)) Hd.out hdd)
          clear hdd
          obtain ⟨X, hX⟩ : ∃ X, X = decide (lastO bg K0 = some (K.ep, K.srt)) := ⟨_, rfl⟩
          have HX := Lib.hid hX
          have HY := Lib.hid (show (if lastO bg K0 = some (K.ep, K.srt) then dn else false) = (X && dn) from by
            by_cases hl : lastO bg K0 = some (K.ep, K.srt)
            · rw [if_pos hl, hX, decide_eq_true hl]; rfl
            · rw [if_neg hl, hX, decide_eq_false hl]; rfl)
          clear hX
          go_upto_region 11 with fail
          go_cut [56] from 39 to 56 (fun v wx => v = .bool (!X) ∧ wx = w5)
          case first =>
            have q0 := hLK6.bk.cell
            have hkK := HK6.cell
            have hsv1 := run_str (P := Try.prog) Try.underlying22 Try.underlying5 Try.underlying9 (c := c0) hLK6.rd
            have hsv2 := run_str (P := Try.prog) Try.underlying22 Try.underlying5 Try.underlying9 (c := cv) hrK6
            clear hA6 HO HKP HM HP6 HK0
            cases bg
            · have hDv : X = false := by rw [HX.out]; exact decide_eq_false (fun h => by cases h)
              subst hDv
              clear HX
              go_wp2
              go_meet
              case rel => exact ⟨rfl, rfl⟩
            · by_cases he : K0.ep = K.ep
              · have he' : ((K0.ep : Int) == (K.ep : Int)) = true := by rw [he]; exact beq_self_eq_true _
                have he2 : ((K0.ep : Int) != (K.ep : Int)) = false := by rw [bne, he']; rfl
                have hDv : X = (K0.srt == K.srt) := by
                  rw [HX.out, Bool.eq_iff_iff]
                  simp [lastO, he]
                have HDv := Lib.hid hDv
                clear HX hDv he
                go_wp2
                go_meet
                case rel => exact ⟨by rw [HDv.out], rfl⟩
              · have he' : ((K0.ep : Int) == (K.ep : Int)) = false := by rw [beq_eq_false_iff_ne]; exact fun h => he (Int.ofNat.inj h)
                have he2 : ((K0.ep : Int) != (K.ep : Int)) = true := by rw [bne, he']; rfl
                have hDv : X = false := by rw [HX.out]; exact decide_eq_false (fun h => by simp only [lastO, if_true, Option.some.injEq, Prod.mk.injEq] at h; exact he h.1)
                subst hDv
                clear HX he
                go_wp2
                go_meet
                case rel => exact ⟨rfl, rfl⟩
          case rest =>
            obtain ⟨rfl, rfl⟩ := hcut
            have HXL := Lib.hid (show X = true → bg = true ∧ K0.ep = K.ep ∧ K0.srt = K.srt from fun hx => by
              have h := HX.out
              rw [hx] at h
              have h2 := of_decide_eq_true h.symm
              cases bg
              · cases h2
              · simp only [lastO, if_true, Option.some.injEq, Prod.mk.injEq] at h2
                exact ⟨rfl, h2⟩)
            have hfar6 : 0 < (bcs K.srt).length → ∀ a, Av = some a → some a.block ≠ (Value.slice As O.length cs).ownBlock := fun _ a ha e => by
              have h1 := hol _ e.symm
              have h2 := hgeo a ha
              omega
            have hgb : ∀ a, Av = some a → a.block ≠ w.heap.size := fun a ha => by have := hgeo a ha; omega
            clear HX
            go_upto_if 56 with fail
            go_cut [11, 12] from 56 to 57 (fun b d wx => b = .bool true ∧ d = .bool (X && dn) ∧ ∃ (K1 : Key) (B1 : Option Addr) (c1 : Nat), Hid (K1.ep = K.ep ∧ K1.srt = K.srt) ∧ LastK wx w.heap.size true K1 B1 c1 ∧ (0 < (bcs K1.srt).length → ∀ a, B1 = some a → some a.block ≠ (Value.slice As O.length cs).ownBlock) ∧ wc.grownBy wx (some w.heap.size))
            case first =>
              cases hX : X
              · have q0 := hLK6.bk.cell
                have q1 := hLK6.bk.frz
                have hkK := HK6.cell
                clear HO HKP HM HK0 hA6 HP6
                go_wp2_with fail
                go_region
                go_wp2
                go_meet
                case rel =>
                  refine ⟨rfl, by rw [hX]; rfl, K, Av, cv, Lib.hid ⟨rfl, rfl⟩, ⟨(((((hLK6.bk.set_ 0 _).set_ 1 _).set_ 2 _).set_ 3 _).set_ 4 _), ?_, fun _ a ha => hgb a ha⟩, hfar6, gdrew (gset (gset (gset (gset (gset (World.grownBy.refl _ _) 0 _) 1 _) 2 _) 3 _) 4 _)⟩
                  have hg : wc.grownBy _ (some w.heap.size) := gdrew (gset (gset (gset (gset (gset (World.grownBy.refl wc _) 0 (.int .i64 K.ep)) 1 (.slice Av (bcs K.srt).length cv)) 2 (.int .i64 K.sq)) 3 (.int .i64 K.kd)) 4 (.string ⟨K.txt.toArray⟩))
                  exact ((hrK6.more hsz6).grownX (Nat.le_refl _) (fun _ a ha e => hgb a ha (Option.some.inj e)) hg).more hg.size
              · obtain ⟨hbt, h2, h3⟩ := HXL.out hX
                subst hbt
                have hee := Lib.hid (And.intro h2 h3)
                clear h2 h3
                go_wp2
                go_meet
                case rel => exact ⟨rfl, by rw [hX]; rfl, K0, A0, c0, hee, hLK6, hfar, World.grownBy.refl _ _⟩
            case rest =>
              obtain ⟨rfl, rfl, K1, B1, c1, HlK0, hLK5, hfar5, hg5⟩ := hcut
              have HlK := Lib.hid (show lastO true K1 = some (K.ep, K.srt) from by simp [lastO, HlK0.out.1, HlK0.out.2])
              have hA5 := hA6.kept hg5 (Nat.le_refl _) hoG
              have hHP := HP6.grownX hg5 (fun e => by cases e; omega)
              have hHK := HK6.grownX hg5 (fun e => by cases e; omega)
              have hkc5 := hHP.cell
              have hkK5 := hHK.cell
              obtain ⟨Y, hY⟩ : ∃ Y, Y = (X && dn) := ⟨_, rfl⟩
              rw [← hY] at HY ⊢
              have HK2 := HK0.out
              rw [HY.out] at HK2
              clear hY HXL HY HK0 HlK0 hA6 HP6 HK6 hLK6 hrK6 hfar6 hg5 hHP hHK hfar hgb
              unfold keepB at HK2
              by_cases hF : floor < K.sq
              · rw [decide_eq_true hF, Bool.true_or, if_pos rfl, if_pos hF] at HK2
                have HK := Lib.hid HK2
                clear HK2
                go_wp2_with (first
                  | (at_builtin; (refine wpList_appK_new rfl _ _ rfl slp (by decide) rfl hA5.own hA5.below hA5.below.size rfl (news := m.cs) rfl m.cs_one (by omega) ?_); intro v8 w8 ho8 hb8 hg8 hat8 hs8))
                replace hat8 : v8.ownBlock = (Value.slice As O.length cs).ownBlock ∨ ∃ g, v8.ownBlock = some g ∧ wc.heap.size ≤ g := hat8
                replace hg8 : wc.grownBy w8 (Value.slice As O.length cs).ownBlock := hg8
                have hA8 := hA5.snoc hmL ho8 hb8
                have hwl := hLK5.bk.lt
                have hoG8 : v8.ownBlock ≠ some w.heap.size := by
                  rcases hat8 with e | ⟨g, e, hg⟩
                  · rw [e]; exact hoG
                  · rw [e]; intro h; cases h; omega
                have hLK8 := hLK5.grownX hg8 (fun e => hoG e.symm) hfar5
                have hfar8 : 0 < (bcs K1.srt).length → ∀ a, B1 = some a → some a.block ≠ v8.ownBlock := fun h0 a ha => by
                  rcases hat8 with e | ⟨g, e, hg⟩
                  · rw [e]; exact hfar5 h0 a ha
                  · rw [e]
                    intro h
                    have h1 : a.block = g := Option.some.inj h
                    obtain ⟨b', o', e', hb', _⟩ := hLK5.rd.2 h0
                    rw [e'] at ha
                    cases ha
                    have h2 : b' = g := h1
                    omega
                clear hat8 hg8 hA5 hLK5 ho8 hkc5 hkK5
                go_roundw
                case rel => exact ⟨k + 1, O ++ [m], true, Y, K1, B1, c1, by omega, by go_num, rfl, rfl, hA8, hoG8, by simp; omega, hLK8, hfar8, Lib.hid (by rw [← HO.out, Hdr.out, HK.out, List.map_append, HlK.out]; simp)⟩
                case measure => simp [intOf]; omega
              · rw [decide_eq_false hF, Bool.false_or, if_neg hF] at HK2
                cases Y
                · cases bottom
                  · have HK := Lib.hid HK2
                    clear HK2
                    go_wp2_with (first
                      | (at_builtin; (refine wpList_appK_new rfl _ _ rfl slp (by decide) rfl hA5.own hA5.below hA5.below.size rfl (news := m.cs) rfl m.cs_one (by omega) ?_); intro v8 w8 ho8 hb8 hg8 hat8 hs8))
                    replace hat8 : v8.ownBlock = (Value.slice As O.length cs).ownBlock ∨ ∃ g, v8.ownBlock = some g ∧ wc.heap.size ≤ g := hat8
                    replace hg8 : wc.grownBy w8 (Value.slice As O.length cs).ownBlock := hg8
                    have hA8 := hA5.snoc hmL ho8 hb8
                    have hwl := hLK5.bk.lt
                    have hoG8 : v8.ownBlock ≠ some w.heap.size := by
                      rcases hat8 with e | ⟨g, e, hg⟩
                      · rw [e]; exact hoG
                      · rw [e]; intro h; cases h; omega
                    have hLK8 := hLK5.grownX hg8 (fun e => hoG e.symm) hfar5
                    have hfar8 : 0 < (bcs K1.srt).length → ∀ a, B1 = some a → some a.block ≠ v8.ownBlock := fun h0 a ha => by
                      rcases hat8 with e | ⟨g, e, hg⟩
                      · rw [e]; exact hfar5 h0 a ha
                      · rw [e]
                        intro h
                        have h1 : a.block = g := Option.some.inj h
                        obtain ⟨b', o', e', hb', _⟩ := hLK5.rd.2 h0
                        rw [e'] at ha
                        cases ha
                        have h2 : b' = g := h1
                        omega
                    clear hat8 hg8 hA5 hLK5 ho8 hkc5 hkK5
                    go_roundw
                    case rel => exact ⟨k + 1, O ++ [m], true, true, K1, B1, c1, by omega, by go_num, rfl, rfl, hA8, hoG8, by simp; omega, hLK8, hfar8, Lib.hid (by rw [← HO.out, Hdr.out, HK.out, List.map_append, HlK.out]; simp)⟩
                    case measure => simp [intOf]; omega
                  · by_cases hkd : K.kd = 0
                    · have hkd' : (K.kd == 0) = true := by simpa using hkd
                      rw [decide_eq_true hkd] at HK2
                      have HK := Lib.hid HK2
                      clear HK2 hkd
                      go_wp2
                      go_roundw
                      case rel => exact ⟨k + 1, O, true, true, K1, B1, c1, by omega, by go_num, rfl, rfl, hA5, hoG, by omega, hLK5, hfar5, Lib.hid (by rw [← HO.out, Hdr.out, HK.out, HlK.out]; rfl)⟩
                      case measure => simp [intOf]; omega
                    · have hkd' : (K.kd == 0) = false := by simpa using hkd
                      rw [decide_eq_false hkd] at HK2
                      have HK := Lib.hid HK2
                      clear HK2 hkd
                      go_wp2_with (first
                        | (at_builtin; (refine wpList_appK_new rfl _ _ rfl slp (by decide) rfl hA5.own hA5.below hA5.below.size rfl (news := m.cs) rfl m.cs_one (by omega) ?_); intro v8 w8 ho8 hb8 hg8 hat8 hs8))
                      replace hat8 : v8.ownBlock = (Value.slice As O.length cs).ownBlock ∨ ∃ g, v8.ownBlock = some g ∧ wc.heap.size ≤ g := hat8
                      replace hg8 : wc.grownBy w8 (Value.slice As O.length cs).ownBlock := hg8
                      have hA8 := hA5.snoc hmL ho8 hb8
                      have hwl := hLK5.bk.lt
                      have hoG8 : v8.ownBlock ≠ some w.heap.size := by
                        rcases hat8 with e | ⟨g, e, hg⟩
                        · rw [e]; exact hoG
                        · rw [e]; intro h; cases h; omega
                      have hLK8 := hLK5.grownX hg8 (fun e => hoG e.symm) hfar5
                      have hfar8 : 0 < (bcs K1.srt).length → ∀ a, B1 = some a → some a.block ≠ v8.ownBlock := fun h0 a ha => by
                        rcases hat8 with e | ⟨g, e, hg⟩
                        · rw [e]; exact hfar5 h0 a ha
                        · rw [e]
                          intro h
                          have h1 : a.block = g := Option.some.inj h
                          obtain ⟨b', o', e', hb', _⟩ := hLK5.rd.2 h0
                          rw [e'] at ha
                          cases ha
                          have h2 : b' = g := h1
                          omega
                      clear hat8 hg8 hA5 hLK5 ho8 hkc5 hkK5
                      go_roundw
                      case rel => exact ⟨k + 1, O ++ [m], true, true, K1, B1, c1, by omega, by go_num, rfl, rfl, hA8, hoG8, by simp; omega, hLK8, hfar8, Lib.hid (by rw [← HO.out, Hdr.out, HK.out, List.map_append, HlK.out]; simp)⟩
                      case measure => simp [intOf]; omega
                · have HK := Lib.hid HK2
                  clear HK2
                  go_wp2
                  go_roundw
                  case rel => exact ⟨k + 1, O, true, true, K1, B1, c1, by omega, by go_num, rfl, rfl, hA5, hoG, by omega, hLK5, hfar5, Lib.hid (by rw [← HO.out, Hdr.out, HK.out, HlK.out]; rfl)⟩
                  case measure => simp [intOf]; omega
        · have HK := Lib.hid (keepP_dead (floor := floor) (bottom := bottom) (last := lastO bg K0) (done := dn) (p := m.pl) (ps := (L.map Pr.pl).drop (k + 1)) Hd.out hdd)
          clear hdd HP6 HK6
          go_wp2
          go_roundw
          case rel => exact ⟨k + 1, O, bg, dn, K0, A0, c0, by omega, by go_num, rfl, rfl, hA6, hoG, by omega, hLK6, hfar, Lib.hid (by rw [← HO.out, Hdr.out, HK.out])⟩
          case measure => simp [intOf]; omega
      · have hne := dec_errne hd
        have hne' : ((err : Int) != 0) = true := by simpa using hne
        have hA3 := hA1.grow hb3
        have hLK3 := hLK1.grow hb3
        have hbK := (Below.refl w3.heap.size w3).alloc (Nat.le_refl _) (.cells #[.int .i64 0, .slice none 0 0, .int .i64 0, .int .i64 0, .string ⟨#[]⟩] 59)
        have hA5 := hA3.grow hbK
        have hLK5 := hLK3.grow hbK
        have HP5 := (HP.below hb3 hGl).alloc (.cells #[.int .i64 0, .slice none 0 0, .int .i64 0, .int .i64 0, .string ⟨#[]⟩] 59)
        have hkc5 := HP5.cell
        have HK := Lib.hid (keepP_err (floor := floor) (bottom := bottom) (dead := dead) (last := lastO bg K0) (done := dn) (p := m.pl) (ps := (L.map Pr.pl).drop (k + 1)) hd)
        clear hA1 hLK1 HP hmo1 hkc hA3 hLK3 hbK hd HP5
        go_upto_if 30 with fail
        obtain ⟨W5, hW5⟩ : ∃ W, W = w3.alloc (.cells #[.int .i64 0, .slice none 0 0, .int .i64 0, .int .i64 0, .string ⟨#[]⟩] 59) := ⟨_, rfl⟩
        rw [← hW5] at hA5 hLK5 hkc5 ⊢
        clear hW5
        go_wp2_with (first
          | (at_builtin; (refine wpList_appK_new rfl _ _ rfl slp (by decide) rfl hA5.own hA5.below hA5.below.size rfl (news := m.cs) rfl m.cs_one (by omega) ?_); intro v8 w8 ho8 hb8 hg8 hat8 hs8))
        replace hat8 : v8.ownBlock = (Value.slice As O.length cs).ownBlock ∨ ∃ g, v8.ownBlock = some g ∧ W5.heap.size ≤ g := hat8
        replace hg8 : W5.grownBy w8 (Value.slice As O.length cs).ownBlock := hg8
        have hA8 := hA5.snoc hmL ho8 hb8
        have hwl := hLK5.bk.lt
        have hoG8 : v8.ownBlock ≠ some w.heap.size := by
          rcases hat8 with e | ⟨g, e, hg⟩
          · rw [e]; exact hoG
          · rw [e]; intro h; cases h; omega
        have hLK8 := hLK5.grownX hg8 (fun e => hoG e.symm) hfar
        have hfar8 : 0 < (bcs K0.srt).length → ∀ a, A0 = some a → some a.block ≠ v8.ownBlock := fun h0 a ha => by
          rcases hat8 with e | ⟨g, e, hg⟩
          · rw [e]; exact hfar h0 a ha
          · rw [e]
            intro h
            have h1 : a.block = g := Option.some.inj h
            obtain ⟨b', o', e', hb', _⟩ := hLK5.rd.2 h0
            rw [e'] at ha
            cases ha
            have h2 : b' = g := h1
            omega
        clear hat8 hg8 hA5 hLK5 ho8 hkc5
        go_roundw
        case rel => exact ⟨k + 1, O ++ [m], bg, dn, K0, A0, c0, by omega, by go_num, rfl, rfl, hA8, hoG8, by simp; omega, hLK8, hfar8, Lib.hid (by rw [← HO.out, Hdr.out, HK.out, List.map_append]; simp)⟩
        case measure => simp [intOf]; omega
    · obtain rfl : k = n := by omega
      obtain ⟨As, cs, rfl, hcs⟩ := hA.own.shape
      have hfin : O.map Pr.pl = KP := by
        rw [← HO.out, List.drop_of_length_le (by rw [List.length_map, Hln.out]; exact Nat.le_refl _)]
        simp [keepP]
      have Hfin := Lib.hid hfin
      have hPr := hA.prs hr.2 hB rfl
      clear hfin HO
      go_wp2
      go_ret
      exact ⟨As, _, cs, O, rfl, hcs, hPr, Hfin.out, hA.below⟩
end Go.Proofs.Ytgpbkebmfbbamaa
