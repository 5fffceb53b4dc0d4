/- Layer 23: a list as a source (List). -/
import Derived.Test.YtedelkifadonjaaMsK
import Derived.Test.YtedelkifadonjaaPairsC
import Derived.Test.YtedelkifadonjaaStepK
namespace Go.Proofs.Ytedelkifadonjaa
open Go.RowKit Go.Lec Go.Op
theorem infoPrM : (Try.prog.info? 56).map (fun i => (i.zero, i.size, i.bytes)) = some (some (.agg #[.slice none 0 0, .slice none 0 0]), 2, 48) := by kernel_rfl
theorem slpM : SlK Try.prog 28 56 (.agg #[.slice none 0 0, .slice none 0 0]) 48 2 := ⟨Try.underlying28, info_parts infoPrM, rfl, by decide⟩
/-- A list as a source: it lies at a block, and stands at a place. -/
structure LsM (D : Nat → Prop) (w : World) (sb : Nat) (s : Sl Pr) (at_ : Int) : Prop where
  bk : Bk w sb 87 #[.slice s.A s.n s.c, .int .i64 at_]
  ok : (encSl encPr).ok w w.heap.size s
  lie : (encSl encPr).lie D s
  n : s.n ≤ 100000
def ListP (w : World) (l : List (List UInt8 × List UInt8)) (e : Ending) (w' : World) : Prop :=
  ∃ s : Sl Pr, e = .returned (.iface 85 (.pointer (some ⟨w.heap.size, 0, none⟩))) ∧ LsM (w.heap.size + 1 ≤ ·) w' w.heap.size s (-1) ∧ s.L.map Pr.pl = allL l ∧ Below w.heap.size w w' ∧ w.heap.size < w'.heap.size
theorem own_row {W : World} {B n : Nat} {e : TypeId} {v : Value} {xs : List Value} (h : OwnK W B e 2 v n xs) :
    (v = .slice none 0 0 ∧ n = 0) ∨ ∃ g c, v = .slice (some ⟨g, 0, none⟩) n c ∧ n ≤ c ∧ B ≤ g ∧ ∃ rest, Bk W g e (xs ++ rest).toArray := by
  rcases h.2 with h2 | ⟨g, cap, cur, hv, hb, hh, hc, hm, hs, ht⟩
  · exact .inl h2
  · refine .inr ⟨g, cap, hv, hc, hb, cur.toList.drop (n * 2), ?_⟩
    rw [← ht, List.take_append_drop]
    exact hh
theorem els_prb {W : World} {g n : Nat} {L : List Pr} (h : PrB 56 W g L) (hok : ∀ m ∈ L, m.ok W W.heap.size) (hn : L.length = n) : Els encPr W W.heap.size (some ⟨g, 0, none⟩) n L := by
  refine els_of_prs ⟨⟨by rw [flat_len Pr.cs_len, hn], fun _ => ⟨g, 0, rfl, h.lt, fun i u hu => ?_⟩⟩, hok⟩
  obtain ⟨r, h⟩ := h
  rw [Nat.zero_add, h.cell, List.getElem?_toArray, List.getElem?_append_left (List.getElem?_eq_some_iff.1 hu).1]
  exact hu
theorem ret_ifc {t : TypeId} {a b : Nat} (h : a = b) : Ending.returned (.iface t (.pointer (some ⟨a, 0, none⟩))) = .returned (.iface t (.pointer (some ⟨b, 0, none⟩))) := by rw [h]
theorem encPr_away {X : Option Nat} {m : Pr} (h : encPr.lie (fun b => some b ≠ X) m) : m.away X := ⟨fun hn a e => h _ List.mem_cons_self hn a e, fun hn a e => h _ (List.mem_cons_of_mem _ List.mem_cons_self) hn a e⟩
set_option maxRecDepth 100000 in
set_option maxHeartbeats 4000000 in
theorem c_List (w : World) {B n c : Nat} {A : Option Addr} {L : List Pr} (hr : Prs w B A n L) (hB : B ≤ w.heap.size) (hn : n ≤ 100000) :
    Calls Try.prog 19 #[.slice A n c] w (ListP w (L.map Pr.pl)) := by
  have Hln := Lib.hid hr.len
  go_enter Try.func19, Try.ntmps19
  go_wp2
  obtain ⟨w0, hw0⟩ : ∃ W, W = w.alloc (.cells #[.slice none 0 0, .int .i64 (-1)] 87) := ⟨_, rfl⟩
  have hO0 := Bk.new_ w 87 #[.slice none 0 0, .int .i64 (-1)]
  have hb0 := (Below.refl w.heap.size w).alloc (Nat.le_refl _) (.cells #[.slice none 0 0, .int .i64 (-1)] 87)
  rw [← hw0] at hO0 hb0 ⊢
  obtain ⟨sb, hsb⟩ : ∃ sb, sb = w.heap.size := ⟨_, rfl⟩
  have hz0 : w0.heap.size = sb + 1 := by rw [hw0, hsb]; simp
  have hG0 : Gth encPr (sb + 1 ≤ ·) w w0 56 [] (.slice none 0 0) := Gth.nil _ _ _ _ hb0
  rw [← hsb] at hO0 ⊢
  clear hw0
  go_loopw [10] (fun i wr => ∃ (k : Nat) (O : List Pr) (v : Value), k ≤ n ∧ i = .int .i64 k ∧ Bk wr sb 87 #[v, .int .i64 (-1)] ∧ Gth encPr (sb + 1 ≤ ·) w wr 56 O v ∧ (∀ g, v.ownBlock = some g → sb + 1 ≤ g) ∧ sb + 1 ≤ wr.heap.size ∧ Hid (O.map Pr.pl = (L.map Pr.pl).take k) ∧ O.length = k ∧ Hid (k = 0 → v = .slice none 0 0)) (fun i _ => n - (intOf i).toNat)
  case atStart => exact ⟨0, [], _, Nat.zero_le _, rfl, hO0, hG0, (fun g e => by cases e), by omega, Lib.hid rfl, rfl, Lib.hid fun _ => rfl⟩
  case round =>
    obtain ⟨k, O, v, hk, rfl, hO, hA, hhi, hzr, HO, hOl, H0⟩ := hrel
    clear hO0 hG0
    obtain ⟨As, cs, rfl, hcs⟩ := hA.own.shape
    by_cases hlt : k < n
    · obtain ⟨b2, o, m, rfl, hbB, hmk, htk, hmok, hcell⟩ := hr.cell2 hlt
      have c0 := (hcell wr (hA.below.mono hB)).1
      have c1 := (hcell wr (hA.below.mono hB)).2
      clear hcell
      have hXl := hmok.1.1
      have HMT := Lib.hid (show ∀ W : World, Below w.heap.size w W → _ from fun W hW => c_mTwin W m (hmok.below hW hB) (Nat.le_trans hB hW.size))
      unfold MTwinP at HMT
      have HT := Lib.hid (show ∀ m2 : Pr, m2.pl = m.pl → (O ++ [m2]).map Pr.pl = (L.map Pr.pl).take (k + 1) from fun m2 e => by
        have hkl : k < L.length := (List.getElem?_eq_some_iff.1 hmk).1
        have hx := (List.getElem?_eq_some_iff.1 hmk).2
        rw [List.map_append, HO.out, ← List.map_take, ← List.map_take, List.take_succ_eq_append_getElem hkl, List.map_append, hx]
        simp [e])
      have Hol := Lib.hid hOl
      have Hsb := Lib.hid hsb
      have hO4 := hO.alloc (.cells #[.slice m.A1 m.n1 m.c1, .slice m.A2 m.n2 m.c2] 56)
      have hb4 := (Below.refl wr.heap.size wr).alloc (Nat.le_refl _) (.cells #[.slice m.A1 m.n1 m.c1, .slice m.A2 m.n2 m.c2] 56)
      have hA4 := hA.grow hb4
      have hP4 := Bk.new_ wr 56 #[.slice m.A1 m.n1 m.c1, .slice m.A2 m.n2 m.c2]
      have hAo := fun g (e : (Value.slice As O.length cs).ownBlock = some g) => (hA.own.lt g e).2
      clear hXl htk hmk hOl hsb hz0 hb0 hmok hr hO hA
      go_upto_region 5 with fail
      obtain ⟨W4, hW4⟩ : ∃ W, W = wr.alloc (.cells #[.slice m.A1 m.n1 m.c1, .slice m.A2 m.n2 m.c2] 56) := ⟨_, rfl⟩
      obtain ⟨pb, hpb⟩ : ∃ pb, pb = wr.heap.size := ⟨_, rfl⟩
      have hz4 : W4.heap.size = pb + 1 := by rw [hW4, hpb]; simp
      rw [← hW4] at hO4 hb4 hA4 hP4 ⊢
      rw [← hpb] at hP4 hzr hAo ⊢
      have HbW := Lib.hid hA4.below
      have hRP : some pb ≠ (Value.slice As O.length cs).ownBlock := fun e => by have := (hAo _ e.symm); omega
      have hRS : some sb ≠ (Value.slice As O.length cs).ownBlock := fun e => by have := hhi _ e.symm; omega
      have HA := Lib.hid hA4
      have HO4 := Lib.hid hO4
      have HP4 := Lib.hid hP4
      have q0 := hO4.cell 0
      have q1 := hP4.cell 0
      have q2 := hP4.cell 1
      clear hO4 hA4 hP4 hb4 hW4 c0 c1 hpb
      have hHeld : (fun W : World => W.cell? ⟨sb, 0, none⟩ = some (.slice As O.length cs) ∧ W.cell? ⟨pb, 0, none⟩ = some (.slice m.A1 m.n1 m.c1) ∧ W.cell? ⟨pb, 1, none⟩ = some (.slice m.A2 m.n2 m.c2)) W4.drew := ⟨q0, q1, q2⟩
      refine wp_region_T (S := fun W : World => W.cell? ⟨sb, 0, none⟩ = some (.slice As O.length cs) ∧ W.cell? ⟨pb, 0, none⟩ = some (.slice m.A1 m.n1 m.c1) ∧ W.cell? ⟨pb, 1, none⟩ = some (.slice m.A2 m.n2 m.c2)) (m := 9) (by kernel_rfl) ?_
      simp only [List.size_toArray, List.length_cons, List.length_nil, Nat.reduceAdd]
      refine tTake (i := 0) (v := ?_) rfl (by kernel_rfl) (by kernel_rfl) (by kernel_rfl) (by kernel_rfl) (fun _ _ _ h => h) hHeld (by rfl) ?_ ?_
      rotate_left
      · (intro w hSw; (try dsimp only at hSw); go_simp; try with_reducible rfl)
      try simp only [Act.put, List.setIfInBounds_toArray, List.set_cons_zero, List.set_cons_succ]
      refine tTake (i := 1) (v := ?_) rfl (by kernel_rfl) (by kernel_rfl) (by kernel_rfl) (by kernel_rfl) (fun _ _ _ h => h) hHeld (by rfl) ?_ ?_
      rotate_left
      · (intro w hSw; (try dsimp only at hSw); go_simp; try with_reducible rfl)
      try simp only [Act.put, List.setIfInBounds_toArray, List.set_cons_zero, List.set_cons_succ]
      refine tTake (i := 2) (v := ?_) rfl (by kernel_rfl) (by kernel_rfl) (by kernel_rfl) (by kernel_rfl) (fun _ _ _ h => h) hHeld (by rfl) ?_ ?_
      rotate_left
      · (intro w hSw; (try dsimp only at hSw); go_simp; try with_reducible rfl)
      try simp only [Act.put, List.setIfInBounds_toArray, List.set_cons_zero, List.set_cons_succ]
      refine tTake (i := 3) (v := ?_) rfl (by kernel_rfl) (by kernel_rfl) (by kernel_rfl) (by kernel_rfl) (fun _ _ _ h => h) hHeld (by rfl) ?_ ?_
      rotate_left
      · (intro w hSw; (try dsimp only at hSw); go_simp; try with_reducible rfl)
      try simp only [Act.put, List.setIfInBounds_toArray, List.set_cons_zero, List.set_cons_succ]
      refine tTake (i := 4) (v := ?_) rfl (by kernel_rfl) (by kernel_rfl) (by kernel_rfl) (by kernel_rfl) (fun _ _ _ h => h) hHeld (by rfl) ?_ ?_
      rotate_left
      · (intro w hSw; (try dsimp only at hSw); go_simp; try with_reducible rfl)
      try simp only [Act.put, List.setIfInBounds_toArray, List.set_cons_zero, List.set_cons_succ]
      refine tTake (i := 5) (v := ?_) rfl (by kernel_rfl) (by kernel_rfl) (by kernel_rfl) (by kernel_rfl) (fun _ _ _ h => h) hHeld (by rfl) ?_ ?_
      rotate_left
      · (intro w hSw; (try dsimp only at hSw); go_simp; try with_reducible rfl)
      try simp only [Act.put, List.setIfInBounds_toArray, List.set_cons_zero, List.set_cons_succ]
      refine tStep (i := 6) rfl (by kernel_rfl) (fun K hK => ?_)
      go_simp
      go_at_call 35
      refine (HMT.out W4.drew HbW.out.drew).mono ?_
      rintro e w5 ⟨m2, rfl, hm2, hh2, hp2, hb5⟩
      have hb5' : Below W4.heap.size W4 w5 := ((Below.refl W4.heap.size W4).drew).trans hb5
      have hA5 := HA.out.grow hb5'
      have hO5 := HO4.out.below hb5' HO4.out.lt
      have hP5 := HP4.out.below hb5' HP4.out.lt
      have hHeldN : (fun W : World => W.cell? ⟨sb, 0, none⟩ = some (.slice As O.length cs) ∧ W.cell? ⟨pb, 0, none⟩ = some (.slice m.A1 m.n1 m.c1) ∧ W.cell? ⟨pb, 1, none⟩ = some (.slice m.A2 m.n2 m.c2)) _ := ⟨hO5.cell 0, hP5.cell 0, hP5.cell 1⟩
      refine hK.out _ _ (fun _ => hHeldN) ?_
      clear hK K hHeld
      have hHeld := hHeldN
      clear hHeldN
      try simp only [Act.put, List.setIfInBounds_toArray, List.set_cons_zero, List.set_cons_succ]
      refine tStep (i := 7) rfl (by kernel_rfl) (fun K hK => ?_)
      go_simp
      have hb6 := (Below.refl w5.heap.size w5).alloc (Nat.le_refl _) (.cells #[.slice m2.A1 m2.n1 m2.c1, .slice m2.A2 m2.n2 m2.c2] 56)
      have hA6 := hA5.grow hb6
      have hO6 := hO5.alloc (.cells #[.slice m2.A1 m2.n1 m2.c1, .slice m2.A2 m2.n2 m2.c2] 56)
      have hP6 := hP5.alloc (.cells #[.slice m2.A1 m2.n1 m2.c1, .slice m2.A2 m2.n2 m2.c2] 56)
      have N6 := Bk.new_ w5 56 #[.slice m2.A1 m2.n1 m2.c1, .slice m2.A2 m2.n2 m2.c2]
      have hHeldN : (fun W : World => W.cell? ⟨sb, 0, none⟩ = some (.slice As O.length cs) ∧ W.cell? ⟨pb, 0, none⟩ = some (.slice m.A1 m.n1 m.c1) ∧ W.cell? ⟨pb, 1, none⟩ = some (.slice m.A2 m.n2 m.c2)) _ := ⟨hO6.cell 0, hP6.cell 0, hP6.cell 1⟩
      refine hK.out _ _ (fun _ => hHeldN) ?_
      clear hK K hHeld
      have hHeld := hHeldN
      clear hHeldN
      try simp only [Act.put, List.setIfInBounds_toArray, List.set_cons_zero, List.set_cons_succ]
      refine tStep (i := 8) rfl (by kernel_rfl) (fun K hK => ?_)
      refine at_app (.tmp 18) (.tmp 21) ?_
      refine stepK_new rfl (.tmp 18) (.tmp 21) rfl slpM (by decide) rfl hA6.own hA6.below.size rfl (news := m2.cs) rfl (fun j u hu => by rw [Nat.zero_add]; exact (N6.cell j).trans (by rw [List.getElem?_toArray]; exact hu)) m2.cs_one (by have := Hol.out; omega) ?_
      intro v8 w8 ho8 hb8 hg8 hat8
      obtain ⟨A8, c8, rfl, hc8⟩ := ho8.shape
      have hO8 := hO6.grownX (x := (Value.slice As O.length cs).ownBlock) hg8 hRS
      have hP8 := hP6.grownX (x := (Value.slice As O.length cs).ownBlock) hg8 hRP
      have qz8 := hO8.frz
      have hHeldN : (fun W : World => W.cell? ⟨sb, 0, none⟩ = some (.slice As O.length cs) ∧ W.cell? ⟨pb, 0, none⟩ = some (.slice m.A1 m.n1 m.c1) ∧ W.cell? ⟨pb, 1, none⟩ = some (.slice m.A2 m.n2 m.c2)) _ := ⟨hO8.cell 0, hP8.cell 0, hP8.cell 1⟩
      refine hK.out _ _ (fun _ => hHeldN) ?_
      clear hK K hHeld
      have hHeld := hHeldN
      clear hHeldN
      try simp only [Act.put, List.setIfInBounds_toArray, List.set_cons_zero, List.set_cons_succ]
      refine tStep (i := 9) rfl (by kernel_rfl) (fun K hK => ?_)
      go_simp
      refine hK.out _ _ (fun h => absurd h (by decide)) ?_
      clear hK K
      try simp only [Act.put, List.setIfInBounds_toArray, List.set_cons_zero, List.set_cons_succ]
      refine tStep (i := 10) rfl (by kernel_rfl) (fun K hK => ?_)
      go_simp
      refine hK.out _ _ (fun h => absurd h (by decide)) ?_
      clear hK K
      try simp only [Act.put, List.setIfInBounds_toArray, List.set_cons_zero, List.set_cons_succ]
      refine tStep (i := 11) rfl (by kernel_rfl) (fun K hK => ?_)
      go_simp
      refine hK.out _ _ (fun h => absurd h (by decide)) ?_
      clear hK K
      try simp only [Act.put, List.setIfInBounds_toArray, List.set_cons_zero, List.set_cons_succ]
      refine tDone (by kernel_rfl) ?_ _
      have hlX : encPr.lie (sb + 1 ≤ ·) m2 := (encPr_hi hh2).imp fun b hb => by have : W4.heap.size ≤ b := hb; omega
      have hA8 := hA6.snoc (v2 := .slice A8 (O.length + 1) c8) (m' := m2) (((encPr_ok hm2).below hb6 (Nat.le_refl _)).more hb6.size) (HA.out.far (encPr_hi hh2)) hlX ho8 hg8 hat8 (hA6.below.trans hb8)
      have hhi8 : ∀ g, (Value.slice A8 (O.length + 1) c8).ownBlock = some g → sb + 1 ≤ g := fun g e => by
        rcases hat8 with e1 | ⟨g', e1, hg'⟩
        · exact hhi g (by rw [← e]; exact e1.symm)
        · rw [e] at e1; cases e1; have := hb5'.size; have := hb6.size; omega
      have hA9 := hA8.set (p := ⟨sb, 0, none⟩) (by rw [Hsb.out]; exact Nat.le_refl _) (fun e => by have := hhi8 _ e; dsimp only at this; omega) (fun b hb e => by dsimp only at e; omega) (.slice A8 (O.length + 1) c8)
      have hO9 := hO8.set_ 0 (.slice A8 (O.length + 1) c8)
      have hz8 := hA8.below.size
      have hzs : sb + 1 ≤ w8.heap.size := by have := hg8.size; have := hb5'.size; have := hb6.size; omega
      have hT2 := Lib.hid (HT.out m2 hp2)
      have HO9 := Lib.hid hO9
      have HA9 := Lib.hid hA9
      clear hA8 hA6 hA5 hO8 hO6 hO5 hP8 hP6 hP5 N6 ho8 hb8 hg8 hat8 hHeld hO9 hA9
      go_wp2
      exact ⟨⟨k + 1, O ++ [m2], _, by omega, by go_num, HO9.out, HA9.out, hhi8, by simpa using hzs, hT2, by rw [List.length_append, Hol.out]; rfl, Lib.hid fun h => by omega⟩, by simp [intOf]; omega⟩
    · have hkn : k = n := by omega
      have hL := HO.out
      have hll := Hln.out
      rw [List.take_of_length_le (by rw [List.length_map]; omega)] at hL
      have q0 := hO.cell 0
      have qz := hO.frz 0
      have hsl : sb < wr.heap.size := hO.lt
      rcases own_row hA.own with ⟨hv, h0⟩ | ⟨g, cp, hv, hgc, hgB, hgr⟩
      · obtain rfl : O = [] := List.eq_nil_of_length_eq_zero h0
        simp only [List.length_nil, Value.slice.injEq] at hv
        obtain ⟨rfl, _, rfl⟩ := hv
        have HO2 := Lib.hid hO
        have HA := Lib.hid hA
        have HC2 := Lib.hid (fun W => c_compactN W)
        have HC := Lib.hid (c_stableFN wr)
        have HL := Lib.hid hL
        have Hsb := Lib.hid hsb
        simp only [List.length_nil] at hOl hcs q0 ⊢
        clear hO hA hr hhi HO hL hll hkn hOl hk H0 hcs h0 hb0 hz0 hsb hzr
        go_wp2_with (first | (go_at_call 36; (with_reducible refine HC.out.mono ?_); rintro e w5 ⟨rfl, rfl⟩) | (go_at_call 39; (with_reducible refine (HC2.out _).mono ?_); rintro e w6 ⟨rfl, rfl⟩))
        go_ret
        have hb := HA.out.below
        have hs := Hsb.out
        have hO9 := HO2.out.set_ 0 (.slice none 0 0)
        refine ⟨⟨none, 0, 0, []⟩, ret_ifc hs, ⟨by rw [← hs]; exact hO9, (encSl_ok (by decide)).2 ⟨Els.nil_, Nat.le_refl _⟩, encSl_lie (fun h => absurd h (by decide)) (fun _ h => by cases h), Nat.zero_le _⟩, by rw [← HL.out]; rfl, hb.setCell (by dsimp only; omega) _, by rw [World.size_setCell]; omega⟩
      · have HA := Lib.hid hA
        have hAo := (hA.own.lt g (by rw [hv]; rfl))
        have hgs : sb + 1 ≤ g := hhi g (by rw [hv]; rfl)
        have hn0 : 0 < k := by
          rcases Nat.eq_zero_or_pos k with h | h
          · have := H0.out h; rw [hv] at this; cases this
          · exact h
        have hPb : PrB 56 wr g O := hgr
        have hPk : PrOk wr g O := fun m hm => ⟨pr_ok (hA.oks m hm).1, encPr_away (by have := (hA.oks m hm).2.1; rw [hv] at this; exact this)⟩
        have hlie : ∀ m ∈ O, encPr.lie (sb + 1 ≤ ·) m := fun m hm => (hA.oks m hm).2.2
        have hbW := hA.below
        simp only [Value.slice.injEq] at hv
        obtain ⟨rfl, _, rfl⟩ := hv
        subst hOl
        have HC := c_stableF wr (n := O.length) (c := cs) hPb hPk rfl hgc (by omega)
        unfold SrtP at HC
        have HC := Lib.hid HC
        have hol : O.length ≤ 100000 := by omega
        have HO2 := Lib.hid hO
        have HL := Lib.hid hL
        have Hsb := Lib.hid hsb
        have HPk := Lib.hid (fun W (hk : Kb [g] wr W) => hPk.kb hk)
        have Hlie := Lib.hid hlie
        have HbW := Lib.hid hbW
        have Hn0 := Lib.hid hn0
        clear hO hA hr hhi HO hL hll hkn hk H0 hcs hb0 hz0 hsb hzr hgr hPb hPk hlie hbW hn0
        go_wp2_with (first | (go_at_call 36; go_loud ((with_reducible refine HC.out.mono ?_); rintro e w5 ⟨rfl, S, hS, hSt, hSr, hk5⟩; rw [List.nil_append, List.append_nil] at hS; have hO5 := HO2.out.kb hk5 (by simp; omega); have q05 := hO5.cell 0; have qz5 := hO5.frz 0; have HC2 := c_compact w5 (n := O.length) (c := cs) hS ((HPk.out _ hk5).perm fun m hm => hSt.mem.1 hm) hSt.length hgc (by omega) Hn0.out; unfold CpP at HC2; have HC2 := Lib.hid HC2; have HO5 := Lib.hid hO5; have HSt := Lib.hid hSt; clear hO5 hS hSt HC)) | (go_at_call 39; (with_reducible refine HC2.out.mono ?_); rintro e w6 ⟨rfl, hP6, hl6, hk6⟩; have hO6 := HO5.out.kb hk6 (by simp; omega); have q06 := hO6.cell 0; have qz6 := hO6.frz 0; have HO6 := Lib.hid hO6; clear hO6 HC2))
        go_ret
        have hs := Hsb.out
        have hb := HbW.out
        have hk2 : Kb [g] wr w6 := hk5.trans hk6 (fun b hb => .inl hb)
        have hbf : Below w.heap.size w w6 := hb.trans (hk2.below (fun b hb => by rw [List.mem_singleton] at hb; omega) hb.size)
        have hO9 := HO6.out.set_ 0 (.slice (some ⟨g, 0, none⟩) (cpR S).length cs)
        have hP9 : PrB 56 (w6.setCell ⟨sb, 0, none⟩ (.slice (some ⟨g, 0, none⟩) (cpR S).length cs)) g (cpR S) := by
          obtain ⟨r, h⟩ := hP6
          exact ⟨r, h.far (by dsimp only; omega) _⟩
        have hSO : ∀ m ∈ cpR S, m ∈ O := fun m hm => HSt.out.mem.1 (cpR_mem S m hm)
        have hok9 : ∀ m ∈ cpR S, m.ok (w6.setCell ⟨sb, 0, none⟩ (.slice (some ⟨g, 0, none⟩) (cpR S).length cs)) (w6.setCell ⟨sb, 0, none⟩ (.slice (some ⟨g, 0, none⟩) (cpR S).length cs)).heap.size := fun m hm => by
          have h1 := (HPk.out _ hk2 m (hSO m hm)).1
          have h2 := (encPr_ok h1).setFar (p := ⟨sb, 0, none⟩) ((Hlie.out m (hSO m hm)).imp fun b hb e => by dsimp only at e; omega) (.slice (some ⟨g, 0, none⟩) (cpR S).length cs)
          rw [World.size_setCell]
          exact pr_ok h2
        refine ⟨⟨some ⟨g, 0, none⟩, (cpR S).length, cs, cpR S⟩, ret_ifc hs, ⟨by rw [← hs]; exact hO9, (encSl_ok (by decide)).2 ⟨els_prb hP9 hok9 rfl, by have := HSt.out.length; dsimp only; omega⟩, encSl_lie (fun _ a ha => by cases ha; dsimp only; omega) (fun m hm => by rw [← hs]; exact Hlie.out m (hSO m hm)), by have := HSt.out.length; dsimp only; omega⟩, ?_, hbf.setCell (by dsimp only; omega) _, by have := hk2.size; rw [World.size_setCell]; omega⟩
        rw [← HL.out]
        exact list_law_pl hSr HSt.out
end Go.Proofs.Ytedelkifadonjaa
