/- Layer 24: the law LevelKeeps: what a compaction keeps, and how it is cut into files, is what the document says: the walk. -/
import Derived.Test.YtgpbkebmfbbamaaSeO
import Derived.Test.YtgpbkebmfbbamaaSeK
namespace Go.Lec
open Go.RowKit
/-- Slice k of a row of slices. -/
theorem Els.sl {α : Type} {E : Enc α} {w : World} {B n k : Nat} {A : Option Addr} {L : List (Sl α)} (hE : 0 < E.k) (h : Els (encSl E) w B A n L) (hk : k < n) : ∃ b o s, A = some ⟨b, o, none⟩ ∧ b < B ∧ L[k]? = some s ∧ L.take (k + 1) = L.take k ++ [s] ∧ Els E w B s.A s.n s.L ∧ s.n ≤ s.c ∧ ∀ W : World, Below B w W → W.cell? ⟨b, o + k, none⟩ = some (.slice s.A s.n s.c) := by
  obtain ⟨b, o, s, e, hb, hm, ht, hok, hc⟩ := h.at hk
  obtain ⟨h1, h2⟩ := (encSl_ok hE).1 hok
  refine ⟨b, o, s, e, hb, hm, ht, h1, h2, fun W hW => ?_⟩
  have := hc W hW 0 _ rfl
  rwa [show o + k * (encSl E).k + 0 = o + k from by show o + k * 1 + 0 = o + k; omega] at this
theorem AllR.snocs {w W W' : World} {e : TypeId} {L O : List Pr} {v v2 : Value} {M : List Pr} {n : Nat} (h : AllR w W e L v O) (hm : ∀ m ∈ M, m ∈ L) (hn : M.length = n) (ho : OwnK W' w.heap.size e 2 v2 (O.length + n) (O.flatMap Pr.cs ++ M.flatMap Pr.cs)) (hb : Below w.heap.size w W') : AllR w W' e L v2 (O ++ M) :=
  ⟨by subst hn; simpa using ho, fun x hx => by
    rcases List.mem_append.1 hx with hx | hx
    · exact h.sub x hx
    · exact hm x hx, hb⟩
theorem flat_take_len {α β : Type} (f : α → List β) : ∀ (L : List α) (k : Nat), ((L.take k).flatMap f).length ≤ (L.flatMap f).length
  | [], k => by simp
  | x :: L, 0 => by simp
  | x :: L, k + 1 => by
    have := flat_take_len f L k
    rw [List.take_succ_cons, List.flatMap_cons, List.flatMap_cons, List.length_append, List.length_append]
    omega
theorem len_flat {α : Type} : ∀ (L : List (List α)), (∀ x ∈ L, x ≠ []) → L.length ≤ L.flatten.length
  | [], _ => Nat.le_refl _
  | x :: L, h => by
    have h1 := len_flat L (fun y hy => h y (List.mem_cons_of_mem _ hy))
    have h2 : 0 < x.length := List.length_pos_iff.2 (h x List.mem_cons_self)
    rw [List.flatten_cons, List.length_append, List.length_cons]
    omega
theorem pls_flat (L : List (Sl Pr)) : (L.flatMap (fun s => s.L)).map Pr.pl = (L.map Sl.pls).flatten := by
  induction L with
  | nil => rfl
  | cons s L ih => rw [List.flatMap_cons, List.map_append, ih, List.map_cons, List.flatten_cons]; rfl
end Go.Lec
namespace Go.Proofs.Ytgpbkebmfbbamaa
open Go.RowKit Go.Lec

theorem c_Cut_no (w : World) (v : Value) (most : Int) (h1 : most < 1) : Calls Try.prog 24 #[v, .int .i64 most] w fun e w' => e = .returned (.tuple #[.slice none 0 0, .int .i64 1]) ∧ w = w' := by
  go_enter Try.func24, Try.ntmps24
  go_wp2
  go_ret2
  exact ⟨rfl, rfl⟩
theorem c_rCut_no (w : World) (v : Value) (most : Int) (h1 : most < 1) : Calls Try.prog 25 #[v, .int .i64 most] w fun e w' => e = .returned (.tuple #[.slice none 0 0, .int .i64 1]) ∧ w = w' := by
  go_enter Try.func25, Try.ntmps25
  go_wp2
  go_ret2
  exact ⟨rfl, rfl⟩

set_option maxRecDepth 40000 in
set_option maxHeartbeats 3200000 in
theorem w_LevelKeeps (w : World) {B n c nD cD : Nat} {A AD : Option Addr} {L : List Pr} {dead : List Int} (floor : Int) (bottom : Bool) (most : Int) (hr : Prs w B A n L) (hB : B ≤ w.heap.size) (hc : n ≤ c) (hn : n ≤ 1048576) (hm : ∀ m ∈ L, m.n1 + m.n2 ≤ 4194304) (hrD : Rd w B AD nD (Lec.ics dead)) (hnD : nD ≤ 1048576) :
    Calls Try.prog 6 #[.slice A n c, .int .i64 floor, .bool bottom, .slice AD nD cD, .int .i64 most] w fun e w' => e = .returned (.bool true) ∧ Below w.heap.size w w' := by
  have HM := Lib.hid hm
  clear hm
  go_enter Try.func6, Try.ntmps6
  go_wp2_with fail
  refine (c_awake _).mono ?_
  rintro e w1 ⟨rfl, hb1⟩
  go_wp2_with fail
  refine (c_small w1 (hr.below hb1 hB) (Nat.le_trans hB hb1.size) hn HM.out).mono ?_
  rintro e w2 ⟨rfl, hb2⟩
  have hb2 := hb1.trans (hb2.mono hb1.size)
  clear hb1
  by_cases hs : n + plen L ≤ 5000
  · rw [decide_eq_true hs]
    by_cases hD : nD ≤ 100
    · have hD' : ¬ (100 : Int) < (nD : Int) := by omega
      go_wp2_with fail
      have hbL := (Below.refl w2.heap.size w2).alloc (Nat.le_refl _) (.cells #[.slice A n c] 51)
      have hbL2 := hb2.trans (hbL.mono hb2.size)
      have hcL := (Bk.new_ w2 51 #[.slice A n c]).cell 0
      refine (c_All _ (g := w2.heap.size) hcL (hr.below hbL2 hB) (Nat.le_trans hB hbL2.size) (by omega)).mono ?_
      rintro e w3 ⟨A3, n3, c3, O, rfl, hc3, hn3, hO, hsub, hpl, hb3⟩
      have hb4 := hbL2.trans (hb3.mono hbL2.size)
      have hnO : n3 ≤ n := by have := hr.len; omega
      have HmO := Lib.hid (show ∀ m ∈ O, m.n1 + m.n2 ≤ 5000 from fun m hm => by have := plen_mem (hsub m hm); omega)
      have HlO := Lib.hid hO.len
      clear hsub hb3 hbL hbL2 hcL hb2 HM hpl
      go_wp2_with fail
      refine (c_Keep w3 floor bottom hO (Nat.le_refl _) (by omega) (fun m hm => by have := HmO.out m hm; omega) ((hrD.below hb4 hB).more (Nat.le_trans hB hb4.size)) (by omega)).mono ?_
      rintro e w5 ⟨A5, n5, c5, Kp, rfl, hc5, hK, hplK, hb5⟩
      have HplK := Lib.hid hplK
      have hO5 := (hO.below hb5 (Nat.le_refl _)).more hb5.size
      have hb6 := hb4.trans (hb5.mono hb4.size)
      clear hplK hO hb4
      go_wp2_with fail
      refine (c_rKeep w5 floor bottom hO5 (Nat.le_refl _) (by omega) (fun m hm => by have := HmO.out m hm; omega) ((hrD.below hb6 hB).more (Nat.le_trans hB hb6.size)) (by omega)).mono ?_
      rintro e w7 ⟨A7, n7, c7, Kq, rfl, hc7, hQ, hplQ, hb7⟩
      have hl5 : n5 ≤ n3 := by
        have h1 := keepP_len floor bottom dead (O.map Pr.pl) none false
        rw [← HplK.out, List.length_map, List.length_map, HlO.out, hK.len] at h1
        exact h1
      have Hsm := Lib.hid (show Kp.map Pr.pl = Kq.map Pr.pl from by rw [HplK.out, hplQ])
      have hK7 := (hK.below hb7 (Nat.le_refl _)).more hb7.size
      have hO7 := (hO5.below hb7 (Nat.le_refl _)).more hb7.size
      have hb8 := hb6.trans (hb7.mono hb6.size)
      clear hplQ hK hO5 hb6 HplK
      go_wp2_with fail
      refine (c_SameP w7 (c1 := c5) (c2 := c7) hK7 hQ (Nat.le_refl _) Hsm.out (by omega)).mono ?_
      rintro e w9 ⟨rfl, hb9⟩
      have hO9 := (hO7.below hb9 (Nat.le_refl _)).more hb9.size
      have hb10 := hb8.trans (hb9.mono hb8.size)
      clear hK7 hO7 hQ hb8 Hsm
      by_cases hm1 : 1 ≤ most
      · have hm1' : ¬ most < 1 := by omega
        go_wp2_with fail
        refine (c_Cut w9 (c := c3) most hO9 (Nat.le_refl _) (by omega) (fun m hm => by have := HmO.out m hm; omega) hm1).mono ?_
        rintro e w11 ⟨A11, n11, c11, oC, rfl, hc11, hC, hplC, hb11⟩
        have hO11 := (hO9.below hb11 (Nat.le_refl _)).more hb11.size
        have hb12 := hb10.trans (hb11.mono hb10.size)
        have HplC := Lib.hid hplC
        clear hplC hb10 hO9
        go_wp2_with fail
        refine (c_rCut w11 (c := c3) most hO11 (Nat.le_refl _) (by omega) (fun m hm => by have := HmO.out m hm; omega) hm1).mono ?_
        rintro e w13 ⟨A13, n13, c13, oD, rfl, hc13, hDd, hplD, hb13⟩
        have hO13 := (hO11.below hb13 (Nat.le_refl _)).more hb13.size
        have hC13 := (hC.below hb13 (Nat.le_refl _)).more hb13.size
        have hb14 := hb12.trans (hb13.mono hb12.size)
        have HeCD := Lib.hid (show oC.map Sl.pls = oD.map Sl.pls from by rw [HplC.out, hplD])
        obtain rfl : n11 = n13 := by rw [← hC.2.1, ← hDd.2.1]; simpa using congrArg List.length HeCD.out
        have HlC := Lib.hid hC.2.1
        have HflC := Lib.hid (show (oC.flatMap (fun s => s.L)).map Pr.pl = O.map Pr.pl from by rw [pls_flat, HplC.out, cutF_flat])
        have HneC := Lib.hid (show ∀ s ∈ oC, s.pls ≠ [] from fun s hs => cutF_ne most _ _ (by rw [← HplC.out]; exact List.mem_map_of_mem hs))
        have hlen5 : n11 ≤ 5000 := by
          have h1 := len_flat (oC.map Sl.pls) (fun x hx => by obtain ⟨s, hs, rfl⟩ := List.mem_map.1 hx; exact HneC.out s hs)
          rw [← pls_flat, HflC.out, List.length_map, List.length_map, HlC.out, HlO.out] at h1
          omega
        clear hplD HplC hC hO11 hb12
        go_wp2_with fail
        have Htot := Lib.hid (show (oC.flatMap (fun s => s.L)).length ≤ 5000 from by
          have h1 := congrArg List.length HflC.out
          rw [List.length_map, List.length_map, HlO.out] at h1
          omega)
        have Hokc := Lib.hid (show ∀ m ∈ oC.flatMap (fun s => s.L), m.ok w13 w13.heap.size from fun m hm => by
          obtain ⟨s, hs, hm⟩ := List.mem_flatMap.1 hm
          exact pr_ok (((encSl_ok (by decide)).1 (hC13.2.2 s hs)).1.2.2 m hm))
        go_loopw [16, 68] (fun v i wr => ∃ (k : Nat) (Q : List Pr), k ≤ n11 ∧ i = .int .i64 k ∧ AllR w13 wr 82 (oC.flatMap (fun s => s.L)) v Q ∧ Hid (Q = (oC.take k).flatMap (fun s => s.L))) (fun _ i _ => n11 - (intOf i).toNat)
        case atStart => exact ⟨0, [], Nat.zero_le _, rfl, ⟨OwnK.nil_ _ _ _ _, fun m h => (by cases h), Below.refl _ _⟩, Lib.hid rfl⟩
        case round =>
          obtain ⟨k, Q, hk, rfl, hA, HQ⟩ := hrel
          obtain ⟨As, cs, rfl, hcs⟩ := hA.own.shape
          by_cases hlt : k < n11
          · obtain ⟨b1, o1, s1, rfl, hbB1, hs1, ht1, hE1, hk1, hq1⟩ := hC13.sl (by decide) hlt
            obtain ⟨b2, o2, s2, rfl, hbB2, hs2, _, hE2, hk2, hq2⟩ := hDd.sl (by decide) hlt
            have hpls : s1.L.map Pr.pl = s2.L.map Pr.pl := by
              have := congrArg (fun l => l[k]?) HeCD.out
              simpa [List.getElem?_map, hs1, hs2, Sl.pls] using this
            have hne : 0 < s1.n := by
              have h1 := HneC.out s1 (List.mem_of_getElem? hs1)
              have h2 := hE1.2.1
              rcases Nat.eq_zero_or_pos s1.n with h0 | h0
              · rw [h0] at h2
                exact absurd (by rw [Sl.pls, List.eq_nil_of_length_eq_zero h2]; rfl) h1
              · exact h0
            have Hpls := Lib.hid hpls
            have hQl : Q.length + s1.n ≤ 5000 := by
              have h1 := flat_take_len (fun s : Sl Pr => s.L) oC (k + 1)
              rw [ht1, List.flatMap_append, List.length_append, ← HQ.out] at h1
              have h2 := hE1.2.1
              have h3 := Htot.out
              simp only [List.flatMap_cons, List.flatMap_nil, List.append_nil] at h1
              omega
            have Hstep := Lib.hid (show Q ++ s1.L = (oC.take (k + 1)).flatMap (fun s => s.L) from by rw [ht1, List.flatMap_append, HQ.out]; simp)
            have hmem : ∀ m ∈ s1.L, m ∈ oC.flatMap (fun s => s.L) := fun m hm => List.mem_flatMap.2 ⟨s1, List.mem_of_getElem? hs1, hm⟩
            have Hmem := Lib.hid hmem
            clear hs1 hs2 ht1 hpls hmem
            have hC := fun (W : World) (hW : Below w13.heap.size w13 W) => And.intro (hq1 W hW) (hq2 W hW)
            have HC := Lib.hid hC
            have hP1 := (prs_of_els hE1).below hA.below (Nat.le_refl _)
            have HCall := Lib.hid (c_SameP wr.drew (c1 := s1.c) (c2 := s2.c) hP1.drew ((prs_of_els hE2).below hA.below (Nat.le_refl _)).drew hA.below.size Hpls.out (by omega))
            have i1 : (0 : Int) ≤ (k : Int) := by omega
            have i2 : (k : Int) < (n11 : Int) := by omega
            have i3 : ((s1.n : Int) == 0) = false := by rw [beq_eq_false_iff_ne]; omega
            clear hC hq1 hq2
            go_wp2_with fail
            go_region_held3 (fun W => W.cell? ⟨b1, o1 + k, none⟩ = some (.slice s1.A s1.n s1.c) ∧ W.cell? ⟨b2, o2 + k, none⟩ = some (.slice s2.A s2.n s2.c))
              ((refine HC.out _ ?_; first | exact hA.below.drew | exact hA.below.drew.trans (hbc.mono hA.below.size)))
              (first | (go_at_call 22; refine HCall.out.mono ?_; rintro e wc ⟨rfl, hbc⟩))
            have hbw := hA.below.drew.trans (hbc.mono hA.below.size)
            have hA2 := (hA.drewN 1).grow hbc
            have hE1' := hE1.1.below hbw (Nat.le_refl _)
            have q1 := (HC.out _ hbw).1
            clear hA HCall hP1 hE2
            go_wp2_with (first
              | (at_builtin; (refine wpList_appK_sl rfl _ _ rfl slp (by decide) rfl hA2.own hA2.below hA2.below.size rfl hE1' (fun u hu => by obtain ⟨x, _, hx⟩ := List.mem_flatMap.1 hu; exact x.cs_one u hx) (by omega) ?_); intro v8 w8 ho8 hb8 hg8 hs8))
            have hA8 := hA2.snocs Hmem.out hE1.2.1 ho8 hb8
            clear hA2 ho8 hg8 hE1'
            go_roundw
            case rel => exact ⟨k + 1, Q ++ s1.L, by omega, by go_num, hA8, Lib.hid Hstep.out⟩
            case measure => simp [intOf]; omega
          · obtain rfl : k = n11 := by omega
            have hfin : Q.map Pr.pl = O.map Pr.pl := by rw [HQ.out, List.take_of_length_le (by rw [HlC.out]; exact Nat.le_refl _), HflC.out]
            have hlQ : Q.length ≤ 5000 := by have := congrArg List.length hfin; rw [List.length_map, List.length_map, HlO.out] at this; omega
            have HE := Lib.hid (c_SameP wr (c1 := cs) (c2 := c3) (hA.prs (B := w13.heap.size) Hokc.out (Nat.le_refl _) rfl) ((hO13.below hA.below (Nat.le_refl _)).more hA.below.size) (Nat.le_refl _) hfin (by omega))
            have hbe := hb14.trans (hA.below.mono hb14.size)
            clear hfin HQ
            go_wp2_with fail
            refine HE.out.mono ?_
            rintro e w15 ⟨rfl, hb15⟩
            have hbf := hbe.trans (hb15.mono hbe.size)
            go_wp2
            go_ret
            exact ⟨rfl, hbf⟩
      · have hm1' : most < 1 := by omega
        go_wp2_with fail
        refine (c_Cut_no w9 _ most hm1').mono ?_
        rintro e w' ⟨rfl, rfl⟩
        go_wp2_with fail
        refine (c_rCut_no _ _ most hm1').mono ?_
        rintro e w' ⟨rfl, rfl⟩
        go_wp2
        go_loop [68] (fun i => i = .int .i64 0) (fun _ => 0)
        case atStart => exact rfl
        case round =>
          subst hrel
          go_wp2
          go_ret
          exact ⟨rfl, hb10⟩
    · have h' : (100 : Int) < (nD : Int) := by omega
      go_wp2
      go_ret
      exact ⟨rfl, hb2⟩
  · rw [decide_eq_false hs]
    go_wp2
    go_ret
    exact ⟨rfl, hb2⟩
end Go.Proofs.Ytgpbkebmfbbamaa
