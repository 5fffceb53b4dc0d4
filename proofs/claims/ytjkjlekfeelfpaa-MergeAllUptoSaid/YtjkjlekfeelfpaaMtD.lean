/- Layer 23: several lists are merged into one (MergeAll). -/
import Derived.Test.YtjkjlekfeelfpaaMtA
import Derived.Test.YtjkjlekfeelfpaaMsZ
namespace Go.Lec
theorem firstK_allL (l : List PairB) (k : List UInt8) : firstK (allL l) k = firstK l k := by
  have ha := allL_all l
  cases hf : firstK l k with
  | none =>
    cases hg : firstK (allL l) k with
    | none => rfl
    | some q =>
      obtain ⟨hq, he⟩ := firstK_mem hg
      have := (ha.mem q).1 hq
      rw [he, hf] at this
      cases this
  | some p =>
    obtain ⟨hp, he⟩ := firstK_mem hf
    have hpa : p ∈ allL l := (ha.mem p).2 (by rw [he]; exact hf)
    cases hg : firstK (allL l) k with
    | none => exact absurd he (firstK_none hg p hpa)
    | some q =>
      obtain ⟨hq, hqe⟩ := firstK_mem hg
      rw [srt_key ha.srt hq hpa (by rw [hqe, he])]
theorem firstK_flat (ls : List (List PairB)) (k : List UInt8) : firstK (ls.map allL).flatten k = firstK ls.flatten k := by
  induction ls with
  | nil => rfl
  | cons l ls ih => rw [List.map_cons, List.flatten_cons, List.flatten_cons, firstK_app, firstK_app, firstK_allL, ih]
/-- All of what is all of each. -/
theorem all_of_all (ls : List (List PairB)) : AllOf (ls.map allL).flatten (allL ls.flatten) :=
  ⟨(allL_all _).srt, fun p => by rw [firstK_flat]; exact (allL_all _).mem p⟩
theorem allL_idem (l : List PairB) : AllOf (allL l) (allL l) := ⟨(allL_all l).srt, fun p => by rw [firstK_allL]; exact (allL_all l).mem p⟩
theorem szL_ge (l : List PairB) : l.length ≤ szL l := by
  induction l with
  | nil => exact Nat.le_refl _
  | cons p l ih =>
    have : szL (p :: l) = szP p + szL l := rfl
    have h2 : 1 ≤ szP p := by unfold szP; omega
    rw [this, List.length_cons]; omega
theorem totM_ge (ls : List (List PairB)) : ls.length + ls.flatten.length ≤ totM ls := by
  unfold totM
  have : ls.flatten.length ≤ (ls.map szL).sum := by
    induction ls with
    | nil => exact Nat.le_refl _
    | cons l ls ih =>
      rw [List.flatten_cons, List.length_append, List.map_cons, List.sum_cons]
      have := szL_ge l
      omega
  omega
end Go.Lec
namespace Go.Lec
/-- An operation whose guard says yes is as one without. -/
theorem wpList_guarded {P : Program} {ops : Array Oper} {Q : Exit → Act → World → Prop} {a : Act} {w : World} {rest : List Oper} {o : Oper} (hw : Region.wanted o (yielded ops a.tmps) = true)
    (h : wpList P ops Q ({ o with guard := none } :: rest) a w) : wpList P ops Q (o :: rest) a w := by
  cases o
  unfold wpList at h ⊢
  rw [if_pos hw]
  simp only [Region.wanted, if_true] at h
  exact h
end Go.Lec
namespace Go.Proofs.Ytjkjlekfeelfpaa
open Go.RowKit Go.Lec Go.Op
/-- What the law reads: lists, not too many. -/
structure Lists (w : World) (B n : Nat) (A : Option Addr) (Ls : List (Sl Pr)) : Prop where
  els : Els (encSl encPr) w B A n Ls
  hB : B ≤ w.heap.size
  n : n ≤ 1048576
  ns : ∀ s ∈ Ls, s.n ≤ 1048576
  tot : totM (Ls.map Sl.pls) ≤ 4611686018427387904
theorem flat_pls (Ls : List (Sl Pr)) : (flatP Ls).map Pr.pl = (Ls.map Sl.pls).flatten := by
  unfold flatP
  rw [List.map_flatMap, List.flatMap_def]
  rfl
section
variable {w : World} {B n : Nat} {A : Option Addr} {Ls : List (Sl Pr)}
theorem Lists.below {w' : World} (h : Lists w B n A Ls) (hb : Below w.heap.size w w') : Lists w' B n A Ls := ⟨h.els.below hb h.hB, Nat.le_trans h.hB hb.size, h.n, h.ns, h.tot⟩
theorem Lists.few (h : Lists w B n A Ls) (hf : totM (Ls.map Sl.pls) ≤ 5000) : n ≤ 5000 ∧ (flatP Ls).length ≤ 5000 ∧ ∀ s ∈ Ls, s.n ≤ 5000 := by
  have h1 := totM_ge (Ls.map Sl.pls)
  rw [← flat_pls, List.length_map, List.length_map, h.els.2.1] at h1
  refine ⟨by omega, by omega, fun s hs => ?_⟩
  have h2 : s.L.length = s.n := ((encSl_ok (by decide)).1 (h.els.2.2 s hs)).1.2.1
  have h3 : s.L.length ≤ (flatP Ls).length := by
    unfold flatP
    obtain ⟨a, b, rfl⟩ := List.append_of_mem hs
    rw [List.flatMap_append, List.flatMap_cons, List.length_append, List.length_append]
    omega
  omega
end
theorem rd_ownK {W : World} {B n c : Nat} {e : TypeId} {A : Option Addr} {xs : List Value} (h : OwnK W B e 1 (.slice A n c) n xs) : Rd W W.heap.size A n xs := by
  have h2 := h.rd
  refine ⟨by have := h2.1; omega, fun h0 => ?_⟩
  obtain ⟨b, o, e, hb, hc⟩ := h2.2 h0
  exact ⟨b, o, e, hb, hc⟩
theorem Sr.srcL_ {w w4 : World} {Ls : List (Sl Pr)} {D : Nat → Prop} {Ss : List (Option (Nat × Sl Pr))} {v : Value} (h : Sr w Ls Ls.length D Ss v w4) : srcL Ss = (Ls.map Sl.pls).map allL := by
  rw [h.law, List.take_length, List.map_map]; rfl
theorem Sr.mall {w w4 : World} {Ls : List (Sl Pr)} {D : Nat → Prop} {Ss : List (Option (Nat × Sl Pr))} {A : Option Addr} {c : Nat} (h : Sr w Ls Ls.length D Ss (.slice A Ss.length c) w4) (hn : Ls.length ≤ 50000) (hal : (allL (Ls.map Sl.pls).flatten).length ≤ 10000) :
    Calls Try.prog 13 #[.slice A Ss.length c] w4 (MAllP w (allL (Ls.map Sl.pls).flatten)) :=
  c_mAll w w4 (rd_ownK h.own) (Nat.le_refl _) h.srcs (by rw [h.len]; omega) (fun b hb => (h.dlt b hb).2) h.below h.sge (by rw [h.srcL_]; exact all_of_all _) (fun l hl => by
    rw [h.srcL_] at hl
    obtain ⟨x, _, rfl⟩ := List.mem_map.1 hl
    exact (allL_all x).srt) hal
theorem Sr.mallN {w w4 w5 : World} {Ls : List (Sl Pr)} {D : Nat → Prop} {Ss : List (Option (Nat × Sl Pr))} {v : Value} {A : Option Addr} {c : Nat} (h : Sr w Ls Ls.length D Ss v w4) (ho : OwnK w5 w.heap.size 32 1 (.slice A (Ss.length + 1) c) (Ss.length + 1) (Ss.map srcV ++ [srcV none])) (hg : w4.grownBy w5 v.ownBlock)
    (hn : Ls.length ≤ 50000) (hal : (allL (Ls.map Sl.pls).flatten).length ≤ 10000) :
    Calls Try.prog 13 #[.slice A (Ss.length + 1) c] w5 (MAllP w (allL (Ls.map Sl.pls).flatten)) := by
  have hL : srcL (Ss ++ [none]) = srcL Ss := by unfold srcL; rw [List.filterMap_append]; simp
  have hr := rd_ownK ho
  rw [show Ss.map srcV ++ [srcV none] = (Ss ++ [none]).map srcV by simp] at hr
  have hS : Srcs D w5 (Ss ++ [none]) := ((h.srcs.kb (kb_grown hg) (fun x hx hm => by rw [Option.mem_toList] at hm; exact (h.vn _ hm).2 x hx rfl) (fun b hb hm => by rw [Option.mem_toList] at hm; exact (h.vn _ hm).1 hb))).snoc (fun _ h => h) (fun x hx => (h.srcs.ls x hx).2) none (fun x hx => by cases hx)
  have hb : Below w.heap.size w w5 := h.below.grown hg h.below.size (fun g e => (h.own.lt g e).1)
  exact c_mAll w w5 hr (Nat.le_refl _) hS (by rw [h.len]; omega) (fun b hb => Nat.lt_of_lt_of_le (h.dlt b hb).2 hg.size) hb (fun k hk => by
    rcases List.mem_append.1 hk with hk | hk
    · exact h.sge k hk
    · rw [List.mem_singleton] at hk; cases hk) (by rw [hL, h.srcL_]; exact all_of_all _) (fun l hl => by
    rw [hL, h.srcL_] at hl
    obtain ⟨x, _, rfl⟩ := List.mem_map.1 hl
    exact (allL_all x).srt) hal
set_option maxRecDepth 100000 in
set_option maxHeartbeats 3200000 in
theorem w_MergeAll (w : World) {B n c : Nat} {A : Option Addr} {Ls : List (Sl Pr)} (hl : Lists w B n A Ls) :
    Calls Try.prog 3 #[.slice A n c] w (BoolP w true) := by
  have HA := c_awake w
  unfold BoolP at HA
  have HA := Lib.hid HA
  have HL := Lib.hid (fun (V : World) (hV : Below w.heap.size w V) => hl.below hV)
  have Hl := Lib.hid hl
  clear hl
  go_enter Try.func3, Try.ntmps3
  go_wp2_with fail
  refine HA.out.mono ?_
  rintro e w1 ⟨rfl, hb1⟩
  have l1 := HL.out w1 hb1
  have HF := c_fewM w1 (c := c) l1.els l1.hB (by have := l1.n; omega) (fun s hs => by have := l1.ns s hs; omega) (by have := l1.tot; omega)
  unfold BoolP at HF
  clear HA
  by_cases hfew : totM (Ls.map Sl.pls) ≤ 5000
  · rw [decide_eq_true hfew] at HF
    have HF := Lib.hid HF
    obtain ⟨f1, f2, f3⟩ := Hl.out.few hfew
    clear l1 hfew
    go_wp2_with fail
    refine HF.out.mono ?_
    rintro e w2 ⟨rfl, hb2⟩
    have hb02 := hb1.trans (hb2.mono hb1.size)
    have l2 := HL.out w2 hb02
    have HW := c_AllM w2 (cc := c) l2.els l2.hB (by omega) (by omega)
    unfold AllPost at HW
    have HW := Lib.hid HW
    have Hb02 := Lib.hid hb02
    clear HF hb1 hb2 hb02 l2
    go_wp2_with fail
    refine HW.out.mono ?_
    rintro e w3 ⟨Aw, nw, cw, O, rfl, hncw, hnl, hO, hOm, hOp, hb3⟩
    have hb03 := Hb02.out.trans (hb3.mono Hb02.out.size)
    have HO := Lib.hid (fun (V : World) (hV : Below w3.heap.size w3 V) => hO.below hV (Nat.le_refl _))
    have Hb03 := Lib.hid hb03
    have hOl : (allL (Ls.map Sl.pls).flatten).length ≤ 5000 := by rw [← flat_pls, ← hOp, List.length_map, hO.len]; omega
    have hnw : nw ≤ 5000 := by omega
    have HOp := Lib.hid (show O.map Pr.pl = allL (Ls.map Sl.pls).flatten by rw [hOp, flat_pls])
    have HSr := Lib.hid (fun (V : World) (hV : Below w.heap.size w V) => c_sources V (c := c) (HL.out V hV).els (HL.out V hV).hB (by omega) (fun s hs => by have := f3 s hs; omega))
    unfold SourcesP at HSr
    have Hlen := Lib.hid (show Ls.length = n from Hl.out.els.2.1)
    have Hns := Lib.hid f3
    clear HW hO hOm hOp hb3 hb03 f3
    go_wp2_with fail
    refine (HSr.out w3 Hb03.out).mono ?_
    rintro e w4 ⟨D, Ss, As, cs, rfl, hS⟩
    have HM := hS.mall (by rw [Hlen.out]; omega) (by omega)
    unfold MAllP at HM
    have HM := Lib.hid HM
    clear hS
    go_wp2_with fail
    refine HM.out.mono ?_
    rintro e w5 ⟨L5, A5, c5, rfl, hE5, hp5, hb5⟩
    have HSa := Lib.hid (c_SameP w5 (c1 := c5) (c2 := cw) (prs_of_els hE5) ((HO.out w5 hb5).more hb5.size) (Nat.le_refl _) (by rw [hp5, HOp.out]) (by have := hE5.2.1; have := congrArg List.length hp5; rw [List.length_map] at this; omega))
    have Hb5 := Lib.hid hb5
    clear HM hE5 hp5 hb5
    go_wp2_with fail
    refine HSa.out.mono ?_
    rintro e w6 ⟨rfl, hb6⟩
    have Hb6 := Lib.hid (Hb5.out.trans (hb6.mono Hb5.out.size))
    have Hb06 := Lib.hid (Hb03.out.trans (Hb6.out.mono Hb03.out.size))
    clear HSa hb6 Hb5
    go_wp2_with fail
    refine (HSr.out w6 Hb06.out).mono ?_
    rintro e w7 ⟨D7, S7, A7, c7, rfl, hS7⟩
    have HS7 := Lib.hid hS7
    have hsz7 := hS7.below.size
    have hS7l : S7.length ≤ 5000 := by rw [hS7.len, Hlen.out]; omega
    clear hS7
    go_wp2_with (first
      | (at_builtin; (refine wpList_guarded (by rfl) ?_); (refine wpList_appK_new (m := 1) (c := 1) rfl (.tmp 22) (.tmp 23) rfl slsrc (by decide) rfl HS7.out.own (Below.refl _ _) hsz7 rfl (news := [srcV none]) rfl (srcV_one _) (by omega) ?_); intro v8 w8 ho8 hb8 hg8 hat8 hs8; obtain ⟨A8, c8, rfl, hc8⟩ := ho8.shape; have HM := HS7.out.mallN ho8 hg8 (by rw [Hlen.out]; omega) (by omega); unfold MAllP at HM; have HM := Lib.hid HM; clear ho8 hb8 hg8 hat8))
    refine HM.out.mono ?_
    rintro e w9 ⟨L9, A9, c9, rfl, hE9, hp9, hb9⟩
    have hb39 := Hb6.out.trans (hb9.mono Hb6.out.size)
    have HSa := Lib.hid (c_SameP w9 (c1 := c9) (c2 := cw) (prs_of_els hE9) ((HO.out w9 hb39).more hb39.size) (Nat.le_refl _) (by rw [hp9, HOp.out]) (by have := hE9.2.1; have := congrArg List.length hp9; rw [List.length_map] at this; omega))
    have Hb39 := Lib.hid hb39
    clear HM hE9 hp9 hb9 hb39 HS7 Hb6 Hb06
    go_wp2_with fail
    refine HSa.out.mono ?_
    rintro e w10 ⟨rfl, hb10⟩
    have Hb310 := Lib.hid (Hb39.out.trans (hb10.mono Hb39.out.size))
    have HG0 := Lib.hid (show OwnK w10 w10.heap.size 42 2 (.slice none 0 0) 0 ((flatP (Ls.take 0)).flatMap Pr.cs) from OwnK.nil_ _ _ _ _)
    clear HSa hb10 Hb39 hS7l
    go_wp2
    go_loopw [4, 32] (fun v4 v32 wr => ∃ (k m : Nat) (v : Value), k ≤ n ∧ v4 = v ∧ v32 = .int .i64 (k : Int) ∧ m ≤ 5000 ∧ Hid (m = (flatP (Ls.take k)).length) ∧ OwnK wr w10.heap.size 42 2 v m ((flatP (Ls.take k)).flatMap Pr.cs) ∧ Below w10.heap.size w10 wr) (fun _ v32 _ => n - (intOf v32).toNat)
    case atStart => exact ⟨0, 0, _, Nat.zero_le _, rfl, rfl, Nat.zero_le _, Lib.hid rfl, HG0.out, Below.refl _ _⟩
    case round =>
      obtain ⟨k, m, v, hk, rfl, rfl, hm, Hm, hown, hbr⟩ := hrel
      clear HG0
      obtain ⟨Ao, co, rfl, hco⟩ := hown.shape
      have hb0r := (Hb03.out.trans (Hb310.out.mono Hb03.out.size)).trans (hbr.mono (by have := Hb03.out.size; have := Hb310.out.size; omega))
      by_cases hlt : k < n
      · obtain ⟨b0, o0, s, rfl, hb0, hsk, _, hsok, hscell⟩ := Hl.out.els.at hlt
        have hg' : wr.cell? ⟨b0, o0 + k, none⟩ = some (.slice s.A s.n s.c) := by
          have := hscell wr (hb0r.mono Hl.out.hB) 0 _ rfl
          rw [show o0 + k * (encSl encPr).k + 0 = o0 + k by show o0 + k * 1 + 0 = _; omega] at this
          exact this
        have hkl : k < Ls.length := (List.getElem?_eq_some_iff.1 hsk).1
        have htk : flatP (Ls.take (k + 1)) = flatP (Ls.take k) ++ s.L := by
          rw [List.take_succ_eq_append_getElem hkl, (List.getElem?_eq_some_iff.1 hsk).2]
          unfold flatP
          rw [List.flatMap_append]; simp
        have hEl := ((encSl_ok (by decide)).1 hsok).1
        have hlen1 : s.L.length = s.n := hEl.2.1
        have hrd : RdK wr B 2 s.A s.n (s.L.flatMap Pr.cs) := (hEl.1.below (hb0r.mono Hl.out.hB) (Nat.le_refl _))
        have hm1 : m + s.n ≤ 5000 := by
          have h1 := flat_take_le Ls (k + 1)
          rw [htk, List.length_append, ← Hm.out, hlen1] at h1
          omega
        have Hnx := Lib.hid (show (m + s.n = (flatP (Ls.take (k + 1))).length) ∧ (flatP (Ls.take k)).flatMap Pr.cs ++ s.L.flatMap Pr.cs = (flatP (Ls.take (k + 1))).flatMap Pr.cs by
          rw [htk]
          exact ⟨by rw [List.length_append, ← Hm.out, hlen1], by rw [List.flatMap_append]⟩)
        have hone : ∀ u ∈ s.L.flatMap Pr.cs, u.oneCell' = true := fun u hu => by
          obtain ⟨x, _, hx⟩ := List.mem_flatMap.1 hu
          exact x.cs_one u hx
        have Hown := Lib.hid hown
        have Hbr := Lib.hid hbr
        have Hrd := Lib.hid hrd
        clear hscell hsok hEl htk hkl hlen1 hown hbr hrd hsk hb0r Hm
        go_wp2_with (first
          | (at_builtin; (refine wpList_appK_sl rfl (.tmp 36) (.tmp 37) rfl slpM (by decide) rfl Hown.out Hbr.out Hbr.out.size rfl Hrd.out hone (by omega) ?_); intro v5 w5 ho5 hb5 hg5 hs5; rw [Hnx.out.2] at ho5; obtain ⟨A5, c5, rfl, hc5⟩ := ho5.shape; have Ho5 := Lib.hid ho5; have Hb5 := Lib.hid hb5; clear ho5 hb5 hg5))
        exact ⟨⟨k + 1, m + s.n, _, by omega, rfl, by go_num, hm1, Lib.hid Hnx.out.1, Ho5.out, Hb5.out⟩, by simp [intOf]; omega⟩
      · obtain rfl : k = n := by omega
        have hT : Ls.take k = Ls := List.take_of_length_le (by rw [Hlen.out]; exact Nat.le_refl _)
        rw [hT] at hown Hm
        have hml := Hm.out
        have hok : ∀ x ∈ flatP Ls, x.ok wr wr.heap.size := fun x hx => ((flat_ok Hl.out.els x hx).below hb0r Hl.out.hB).more (Nat.le_trans Hl.out.hB hb0r.size)
        have hP : Prs wr wr.heap.size Ao m (flatP Ls) := ⟨hown.rd, hok⟩
        have HLi := c_List wr (c := co) hP (Nat.le_refl _) (by omega)
        unfold ListP at HLi
        have HLi := Lib.hid HLi
        have Hb3r := Lib.hid (Hb310.out.trans (hbr.mono Hb310.out.size))
        have Hb0r := Lib.hid hb0r
        clear hT hok hP hown Hm hbr hb0r hml
        go_wp2_with fail
        refine HLi.out.mono ?_
        rintro e w12 ⟨s1, rfl, hl1, ha1, hb12, hz12⟩
        have hb13 := (Below.refl w12.heap.size w12).alloc (Nat.le_refl _) (.cells #[.iface 74 (.pointer (some ⟨wr.heap.size, 0, none⟩))] 32)
        have HAll := c_mAll wr (w12.alloc (.cells #[.iface 74 (.pointer (some ⟨wr.heap.size, 0, none⟩))] 32)) (c := 1) (n := 1) (A := some ⟨w12.heap.size, 0, none⟩) (Ss := [some (wr.heap.size, s1)]) (all := allL (Ls.map Sl.pls).flatten) (rd_bzM (heap_alloc_new w12 _) rfl rfl) (Nat.le_refl _) ((srcs1 hl1).below hb13) (by omega) (fun b hb => by rw [World.size_alloc]; have := hb.2; omega)
          (hb12.trans (hb13.mono hb12.size)) (fun k hk => by rw [List.mem_singleton] at hk; cases hk; exact Nat.le_refl _) (by rw [← flat_pls]; show AllOf [s1.L.map Pr.pl].flatten _; rw [ha1]; simpa using allL_idem _) (fun l hl => by
            have hl : l ∈ [s1.L.map Pr.pl] := hl
            rw [List.mem_singleton] at hl
            rw [hl, ha1]; exact (allL_all _).srt) (by omega)
        unfold MAllP at HAll
        have HAll := Lib.hid HAll
        clear hl1 ha1 hb12 hz12 hb13 HLi
        go_wp2_with fail
        refine HAll.out.mono ?_
        rintro e w14 ⟨L14, A14, c14, rfl, hE14, hp14, hb14⟩
        have hb314 := Hb3r.out.trans (hb14.mono Hb3r.out.size)
        have HSa := Lib.hid (c_SameP w14 (c1 := c14) (c2 := cw) (prs_of_els hE14) ((HO.out w14 hb314).more hb314.size) (Nat.le_refl _) (by rw [hp14, HOp.out]) (by have := hE14.2.1; have := congrArg List.length hp14; rw [List.length_map] at this; omega))
        have Hb := Lib.hid (Hb03.out.trans (hb314.mono Hb03.out.size))
        clear HAll hE14 hp14 hb14 hb314
        go_wp2_with fail
        refine HSa.out.mono ?_
        rintro e w15 ⟨rfl, hb15⟩
        go_wp2
        go_ret
        exact ⟨rfl, Hb.out.trans (hb15.mono Hb.out.size)⟩
  · rw [decide_eq_false hfew] at HF
    have HF := Lib.hid HF
    clear l1 hfew
    go_wp2_with fail
    refine HF.out.mono ?_
    rintro e w2 ⟨rfl, hb2⟩
    go_wp2
    go_ret
    exact ⟨rfl, hb1.trans (hb2.mono hb1.size)⟩
end Go.Proofs.Ytjkjlekfeelfpaa
