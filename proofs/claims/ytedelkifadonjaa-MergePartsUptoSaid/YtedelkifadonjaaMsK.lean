/- Layer 23: what a list of pairs becomes: plain laws joined; nothing at all. -/
import Derived.Test.YtedelkifadonjaaMsH
import Derived.Test.YtedelkifadonjaaMgPlain
import Derived.Test.YtedelkifadonjaaPairsC
import Derived.Test.YtedelkifadonjaaStepK
import Derived.Handy
namespace Go.Lec
open Go.RowKit Go.Op
theorem cpF_pl : ∀ (l : List Pr) (x : Pr), (cpF x l).map Pr.pl = cptF x.pl (l.map Pr.pl)
  | [], _ => rfl
  | y :: l, x => by
    rw [cpF, List.map_cons, cptF]
    by_cases h : y.key = x.key
    · rw [if_pos h, if_pos (show y.pl.1 = x.pl.1 from h)]
      exact cpF_pl l y
    · rw [if_neg h, if_neg (show ¬ y.pl.1 = x.pl.1 from h), List.map_cons, cpF_pl l y]
theorem cpR_pl (l : List Pr) : (cpR l).map Pr.pl = cpt (l.map Pr.pl) := by
  cases l with
  | nil => rfl
  | cons x l => exact congrArg (List.cons x.pl) (cpF_pl l x)
theorem srtK_pl {l : List Pr} (h : SrtK Pr.key l) : SrtK Prod.fst (l.map Pr.pl) := List.pairwise_map.2 h
theorem stb_pl {l m : List Pr} (h : Stb Pr.key l m) : Stb Prod.fst (l.map Pr.pl) (m.map Pr.pl) := fun k => by
  have := congrArg (List.map Pr.pl) (h k)
  rw [List.filter_map, List.filter_map]
  exact this
/-- A list sorted and struck reads as the law's own. -/
theorem list_law_pl {l s : List Pr} (h : SrtK Pr.key s) (hs : Stb Pr.key l s) : (cpR s).map Pr.pl = allL (l.map Pr.pl) := (cpR_pl s).trans (list_law (srtK_pl h) (stb_pl hs))
end Go.Lec
namespace Go.Proofs.Ytedelkifadonjaa
open Go.RowKit Go.Lec Go.Op
set_option maxRecDepth 100000 in
theorem c_insN (w : World) :
    Calls Try.prog 65 #[.slice none 0 0, .int .i64 0, .int .i64 0, .func (.func 37) #[] #[]] w fun e w' => e = .returned (.tuple #[]) ∧ w' = w := by
  go_enter Try.func65, Try.ntmps65
  go_wp2
  go_loopw [8] (fun i wr => i = .int .i64 1 ∧ wr = w) (fun i _ => (intOf i).toNat)
  case atStart => exact ⟨rfl, rfl⟩
  case round =>
    obtain ⟨rfl, rfl⟩ := hrel
    go_wp2
    go_end0
    exact ⟨rfl, rfl⟩
set_option maxRecDepth 100000 in
theorem c_stableN (w : World) :
    Calls Try.prog 56 #[.slice none 0 0, .int .i64 0, .func (.func 37) #[] #[]] w fun e w' => e = .returned (.tuple #[]) ∧ w' = w := by
  have HC := Lib.hid (c_insN w)
  go_enter Try.func56, Try.ntmps56
  go_wp2
  go_loopw [7, 8] (fun i j wr => i = .int .i64 0 ∧ j = .int .i64 20 ∧ wr = w) (fun i _ _ => (intOf i).toNat)
  case atStart => exact ⟨rfl, rfl, rfl⟩
  case round =>
    obtain ⟨rfl, rfl, rfl⟩ := hrel
    go_wp2_with (first | (go_at_call 65; refine HC.out.mono ?_; rintro e w5 ⟨rfl, rfl⟩))
    go_loopw [6] (fun i wr => i = .int .i64 20 ∧ wr = w5) (fun i _ => (intOf i).toNat)
    case atStart => exact ⟨rfl, rfl⟩
    case round =>
      obtain ⟨rfl, rfl⟩ := hrel
      go_wp2
      go_end0
      exact ⟨rfl, rfl⟩
theorem c_stableFN (w : World) :
    Calls Try.prog 36 #[.slice none 0 0, .func (.func 37) #[] #[]] w fun e w' => e = .returned (.tuple #[]) ∧ w' = w := by
  have HC := Lib.hid (c_stableN w)
  go_enter Try.func36, Try.ntmps36
  go_wp2_with (first | (go_at_call 56; refine HC.out.mono ?_; rintro e w5 ⟨rfl, rfl⟩))
  go_end0
  exact ⟨rfl, rfl⟩
theorem c_compactN (w : World) :
    Calls Try.prog 39 #[.slice none 0 0, .func (.func 40) #[] #[]] w fun e w' => e = .returned (.slice none 0 0) ∧ w' = w := by
  go_enter Try.func39, Try.ntmps39
  go_wp2
  go_ret
  exact ⟨rfl, rfl⟩
end Go.Proofs.Ytedelkifadonjaa
/- Layer 23: a list as a source (List). -/
namespace Go.Proofs.Ytedelkifadonjaa
open Go.RowKit Go.Lec Go.Op
theorem infoPrM : (Try.prog.info? 56).map (fun i => (i.zero, i.size, i.bytes)) = some (some (.agg #[.slice none 0 0, .slice none 0 0]), 2, 48) := by kernel_rfl
theorem slpM : SlK Try.prog 28 56 (.agg #[.slice none 0 0, .slice none 0 0]) 48 2 := ⟨Try.underlying28, info_parts infoPrM, rfl, by decide⟩
/-- A list as a source: it lies at a block, and stands at a place. -/
structure LsM (D : Nat → Prop) (w : World) (sb : Nat) (s : Sl Pr) (at_ : Int) : Prop where
  bk : Bk w sb 87 #[.slice s.A s.n s.c, .int .i64 at_]
  ok : (encSl encPr).ok w w.heap.size s
  lie : (encSl encPr).lie D s
  n : s.n ≤ 100000
def ListP (w : World) (l : List (List UInt8 × List UInt8)) (e : Ending) (w' : World) : Prop :=
  ∃ s : Sl Pr, e = .returned (.iface 85 (.pointer (some ⟨w.heap.size, 0, none⟩))) ∧ LsM (w.heap.size + 1 ≤ ·) w' w.heap.size s (-1) ∧ s.L.map Pr.pl = allL l ∧ Below w.heap.size w w' ∧ w.heap.size < w'.heap.size
theorem own_row {W : World} {B n : Nat} {e : TypeId} {v : Value} {xs : List Value} (h : OwnK W B e 2 v n xs) :
    (v = .slice none 0 0 ∧ n = 0) ∨ ∃ g c, v = .slice (some ⟨g, 0, none⟩) n c ∧ n ≤ c ∧ B ≤ g ∧ ∃ rest, Bk W g e (xs ++ rest).toArray := by
  rcases h.2 with h2 | ⟨g, cap, cur, hv, hb, hh, hc, hm, hs, ht⟩
  · exact .inl h2
  · refine .inr ⟨g, cap, hv, hc, hb, cur.toList.drop (n * 2), ?_⟩
    rw [← ht, List.take_append_drop]
    exact hh
theorem els_prb {W : World} {g n : Nat} {L : List Pr} (h : PrB 56 W g L) (hok : ∀ m ∈ L, m.ok W W.heap.size) (hn : L.length = n) : Els encPr W W.heap.size (some ⟨g, 0, none⟩) n L := by
  refine els_of_prs ⟨⟨by rw [flat_len Pr.cs_len, hn], fun _ => ⟨g, 0, rfl, h.lt, fun i u hu => ?_⟩⟩, hok⟩
  obtain ⟨r, h⟩ := h
  rw [Nat.zero_add, h.cell, List.getElem?_toArray, List.getElem?_append_left (List.getElem?_eq_some_iff.1 hu).1]
  exact hu
theorem ret_ifc {t : TypeId} {a b : Nat} (h : a = b) : Ending.returned (.iface t (.pointer (some ⟨a, 0, none⟩))) = .returned (.iface t (.pointer (some ⟨b, 0, none⟩))) := by rw [h]
theorem encPr_away {X : Option Nat} {m : Pr} (h : encPr.lie (fun b => some b ≠ X) m) : m.away X := ⟨fun hn a e => h _ List.mem_cons_self hn a e, fun hn a e => h _ (List.mem_cons_of_mem _ List.mem_cons_self) hn a e⟩
set_option maxRecDepth 100000 in
set_option maxHeartbeats 4000000 in
theorem c_List (w : World) {B n c : Nat} {A : Option Addr} {L : List Pr} (hr : Prs w B A n L) (hB : B ≤ w.heap.size) (hn : n ≤ 100000) :
    Calls Try.prog 19 #[.slice A n c] w (ListP w (L.map Pr.pl)) := by
  have Hln := Lib.hid hr.len
  go_enter Try.func19, Try.ntmps19
  go_wp2
  obtain ⟨w0, hw0⟩ : ∃ W, W = w.alloc (.cells #[.slice none 0 0, .int .i64 (-1)] 87) := ⟨_, rfl⟩
  have hO0 := Bk.new_ w 87 #[.slice none 0 0, .int .i64 (-1)]
  have hb0 := (Below.refl w.heap.size w).alloc (Nat.le_refl _) (.cells #[.slice none 0 0, .int .i64 (-1)] 87)
  rw [← hw0] at hO0 hb0 ⊢
  obtain ⟨sb, hsb⟩ : ∃ sb, sb = w.heap.size := ⟨_, rfl⟩
  have hz0 : w0.heap.size = sb + 1 := by rw [hw0, hsb]; simp
  have hG0 : Gth encPr (sb + 1 ≤ ·) w w0 56 [] (.slice none 0 0) := Gth.nil _ _ _ _ hb0
  rw [← hsb] at hO0 ⊢
  clear hw0
  go_loopw [10] (fun i wr => ∃ (k : Nat) (O : List Pr) (v : Value), k ≤ n ∧ i = .int .i64 k ∧ Bk wr sb 87 #[v, .int .i64 (-1)] ∧ Gth encPr (sb + 1 ≤ ·) w wr 56 O v ∧ (∀ g, v.ownBlock = some g → sb + 1 ≤ g) ∧ sb + 1 ≤ wr.heap.size ∧ Hid (O.map Pr.pl = (L.map Pr.pl).take k) ∧ O.length = k ∧ Hid (k = 0 → v = .slice none 0 0)) (fun i _ => n - (intOf i).toNat)
  case atStart => exact ⟨0, [], _, Nat.zero_le _, rfl, hO0, hG0, (fun g e => by cases e), by omega, Lib.hid rfl, rfl, Lib.hid fun _ => rfl⟩
  case round =>
    obtain ⟨k, O, v, hk, rfl, hO, hA, hhi, hzr, HO, hOl, H0⟩ := hrel
    clear hO0 hG0
    obtain ⟨As, cs, rfl, hcs⟩ := hA.own.shape
    by_cases hlt : k < n
    · obtain ⟨b2, o, m, rfl, hbB, hmk, htk, hmok, hcell⟩ := hr.cell2 hlt
      have c0 := (hcell wr (hA.below.mono hB)).1
      have c1 := (hcell wr (hA.below.mono hB)).2
      clear hcell
      have hXl := hmok.1.1
      have HMT := Lib.hid (show ∀ W : World, Below w.heap.size w W → _ from fun W hW => c_mTwin W m (hmok.below hW hB) (Nat.le_trans hB hW.size))
      unfold MTwinP at HMT
      have HT := Lib.hid (show ∀ m2 : Pr, m2.pl = m.pl → (O ++ [m2]).map Pr.pl = (L.map Pr.pl).take (k + 1) from fun m2 e => by
        have hkl : k < L.length := (List.getElem?_eq_some_iff.1 hmk).1
        have hx := (List.getElem?_eq_some_iff.1 hmk).2
        rw [List.map_append, HO.out, ← List.map_take, ← List.map_take, List.take_succ_eq_append_getElem hkl, List.map_append, hx]
        simp [e])
      have Hol := Lib.hid hOl
      have Hsb := Lib.hid hsb
      have hO4 := hO.alloc (.cells #[.slice m.A1 m.n1 m.c1, .slice m.A2 m.n2 m.c2] 56)
      have hb4 := (Below.refl wr.heap.size wr).alloc (Nat.le_refl _) (.cells #[.slice m.A1 m.n1 m.c1, .slice m.A2 m.n2 m.c2] 56)
      have hA4 := hA.grow hb4
      have hP4 := Bk.new_ wr 56 #[.slice m.A1 m.n1 m.c1, .slice m.A2 m.n2 m.c2]
      have hAo := fun g (e : (Value.slice As O.length cs).ownBlock = some g) => (hA.own.lt g e).2
      clear hXl htk hmk hOl hsb hz0 hb0 hmok hr hO hA
      go_upto_region 5 with fail
      obtain ⟨W4, hW4⟩ : ∃ W, W = wr.alloc (.cells #[.slice m.A1 m.n1 m.c1, .slice m.A2 m.n2 m.c2] 56) := ⟨_, rfl⟩
      obtain ⟨pb, hpb⟩ : ∃ pb, pb = wr.heap.size := ⟨_, rfl⟩
      have hz4 : W4.heap.size = pb + 1 := by rw [hW4, hpb]; simp
      rw [← hW4] at hO4 hb4 hA4 hP4 ⊢
      rw [← hpb] at hP4 hzr hAo ⊢
      have HbW := Lib.hid hA4.below
      have hRP : some pb ≠ (Value.slice As O.length cs).ownBlock := fun e => by have := (hAo _ e.symm); omega
      have hRS : some sb ≠ (Value.slice As O.length cs).ownBlock := fun e => by have := hhi _ e.symm; omega
      have HA := Lib.hid hA4
      have HO4 := Lib.hid hO4
      have HP4 := Lib.hid hP4
      have q0 := hO4.cell 0
      have q1 := hP4.cell 0
      have q2 := hP4.cell 1
      clear hO4 hA4 hP4 hb4 hW4 c0 c1 hpb
      have hHeld : (fun W : World => W.cell? ⟨sb, 0, none⟩ = some (.slice As O.length cs) ∧ W.cell? ⟨pb, 0, none⟩ = some (.slice m.A1 m.n1 m.c1) ∧ W.cell? ⟨pb, 1, none⟩ = some (.slice m.A2 m.n2 m.c2)) W4.drew := ⟨q0, q1, q2⟩
      refine wp_region_T (S := fun W : World => W.cell? ⟨sb, 0, none⟩ = some (.slice As O.length cs) ∧ W.cell? ⟨pb, 0, none⟩ = some (.slice m.A1 m.n1 m.c1) ∧ W.cell? ⟨pb, 1, none⟩ = some (.slice m.A2 m.n2 m.c2)) (m := 9) (by kernel_rfl) ?_
      simp only [List.size_toArray, List.length_cons, List.length_nil, Nat.reduceAdd]
      refine tTake (i := 0) (v := ?_) rfl (by kernel_rfl) (by kernel_rfl) (by kernel_rfl) (by kernel_rfl) (fun _ _ _ h => h) hHeld (by rfl) ?_ ?_
      rotate_left
      · (intro w hSw; (try dsimp only at hSw); go_simp; try with_reducible rfl)
      try simp only [Act.put, List.setIfInBounds_toArray, List.set_cons_zero, List.set_cons_succ]
      refine tTake (i := 1) (v := ?_) rfl (by kernel_rfl) (by kernel_rfl) (by kernel_rfl) (by kernel_rfl) (fun _ _ _ h => h) hHeld (by rfl) ?_ ?_
      rotate_left
      · (intro w hSw; (try dsimp only at hSw); go_simp; try with_reducible rfl)
      try simp only [Act.put, List.setIfInBounds_toArray, List.set_cons_zero, List.set_cons_succ]
      refine tTake (i := 2) (v := ?_) rfl (by kernel_rfl) (by kernel_rfl) (by kernel_rfl) (by kernel_rfl) (fun _ _ _ h => h) hHeld (by rfl) ?_ ?_
      rotate_left
      · (intro w hSw; (try dsimp only at hSw); go_simp; try with_reducible rfl)
      try simp only [Act.put, List.setIfInBounds_toArray, List.set_cons_zero, List.set_cons_succ]
      refine tTake (i := 3) (v := ?_) rfl (by kernel_rfl) (by kernel_rfl) (by kernel_rfl) (by kernel_rfl) (fun _ _ _ h => h) hHeld (by rfl) ?_ ?_
      rotate_left
      · (intro w hSw; (try dsimp only at hSw); go_simp; try with_reducible rfl)
      try simp only [Act.put, List.setIfInBounds_toArray, List.set_cons_zero, List.set_cons_succ]
      refine tTake (i := 4) (v := ?_) rfl (by kernel_rfl) (by kernel_rfl) (by kernel_rfl) (by kernel_rfl) (fun _ _ _ h => h) hHeld (by rfl) ?_ ?_
      rotate_left
      · (intro w hSw; (try dsimp only at hSw); go_simp; try with_reducible rfl)
      try simp only [Act.put, List.setIfInBounds_toArray, List.set_cons_zero, List.set_cons_succ]
      refine tTake (i := 5) (v := ?_) rfl (by kernel_rfl) (by kernel_rfl) (by kernel_rfl) (by kernel_rfl) (fun _ _ _ h => h) hHeld (by rfl) ?_ ?_
      rotate_left
      · (intro w hSw; (try dsimp only at hSw); go_simp; try with_reducible rfl)
      try simp only [Act.put, List.setIfInBounds_toArray, List.set_cons_zero, List.set_cons_succ]
      refine tStep (i := 6) rfl (by kernel_rfl) (fun K hK => ?_)
      go_simp
      go_at_call 35
      refine (HMT.out W4.drew HbW.out.drew).mono ?_
      rintro e w5 ⟨m2, rfl, hm2, hh2, hp2, hb5⟩
      have hb5' : Below W4.heap.size W4 w5 := ((Below.refl W4.heap.size W4).drew).trans hb5
      have hA5 := HA.out.grow hb5'
      have hO5 := HO4.out.below hb5' HO4.out.lt
      have hP5 := HP4.out.below hb5' HP4.out.lt
      have hHeldN : (fun W : World => W.cell? ⟨sb, 0, none⟩ = some (.slice As O.length cs) ∧ W.cell? ⟨pb, 0, none⟩ = some (.slice m.A1 m.n1 m.c1) ∧ W.cell? ⟨pb, 1, none⟩ = some (.slice m.A2 m.n2 m.c2)) _ := ⟨hO5.cell 0, hP5.cell 0, hP5.cell 1⟩
      refine hK.out _ _ (fun _ => hHeldN) ?_
      clear hK K hHeld
      have hHeld := hHeldN
      clear hHeldN
      try simp only [Act.put, List.setIfInBounds_toArray, List.set_cons_zero, List.set_cons_succ]
      refine tStep (i := 7) rfl (by kernel_rfl) (fun K hK => ?_)
      go_simp
      have hb6 := (Below.refl w5.heap.size w5).alloc (Nat.le_refl _) (.cells #[.slice m2.A1 m2.n1 m2.c1, .slice m2.A2 m2.n2 m2.c2] 56)
      have hA6 := hA5.grow hb6
      have hO6 := hO5.alloc (.cells #[.slice m2.A1 m2.n1 m2.c1, .slice m2.A2 m2.n2 m2.c2] 56)
      have hP6 := hP5.alloc (.cells #[.slice m2.A1 m2.n1 m2.c1, .slice m2.A2 m2.n2 m2.c2] 56)
      have N6 := Bk.new_ w5 56 #[.slice m2.A1 m2.n1 m2.c1, .slice m2.A2 m2.n2 m2.c2]
      have hHeldN : (fun W : World => W.cell? ⟨sb, 0, none⟩ = some (.slice As O.length cs) ∧ W.cell? ⟨pb, 0, none⟩ = some (.slice m.A1 m.n1 m.c1) ∧ W.cell? ⟨pb, 1, none⟩ = some (.slice m.A2 m.n2 m.c2)) _ := ⟨hO6.cell 0, hP6.cell 0, hP6.cell 1⟩
      refine hK.out _ _ (fun _ => hHeldN) ?_
      clear hK K hHeld
      have hHeld := hHeldN
      clear hHeldN
      try simp only [Act.put, List.setIfInBounds_toArray, List.set_cons_zero, List.set_cons_succ]
      refine tStep (i := 8) rfl (by kernel_rfl) (fun K hK => ?_)
      refine at_app (.tmp 18) (.tmp 21) ?_
      refine stepK_new rfl (.tmp 18) (.tmp 21) rfl slpM (by decide) rfl hA6.own hA6.below.size rfl (news := m2.cs) rfl (fun j u hu => by rw [Nat.zero_add]; exact (N6.cell j).trans (by rw [List.getElem?_toArray]; exact hu)) m2.cs_one (by have := Hol.out; omega) ?_
      intro v8 w8 ho8 hb8 hg8 hat8
      obtain ⟨A8, c8, rfl, hc8⟩ := ho8.shape
      have hO8 := hO6.grownX (x := (Value.slice As O.length cs).ownBlock) hg8 hRS
      have hP8 := hP6.grownX (x := (Value.slice As O.length cs).ownBlock) hg8 hRP
      have qz8 := hO8.frz
      have hHeldN : (fun W : World => W.cell? ⟨sb, 0, none⟩ = some (.slice As O.length cs) ∧ W.cell? ⟨pb, 0, none⟩ = some (.slice m.A1 m.n1 m.c1) ∧ W.cell? ⟨pb, 1, none⟩ = some (.slice m.A2 m.n2 m.c2)) _ := ⟨hO8.cell 0, hP8.cell 0, hP8.cell 1⟩
      refine hK.out _ _ (fun _ => hHeldN) ?_
      clear hK K hHeld
      have hHeld := hHeldN
      clear hHeldN
      try simp only [Act.put, List.setIfInBounds_toArray, List.set_cons_zero, List.set_cons_succ]
      refine tStep (i := 9) rfl (by kernel_rfl) (fun K hK => ?_)
      go_simp
      refine hK.out _ _ (fun h => absurd h (by decide)) ?_
      clear hK K
      try simp only [Act.put, List.setIfInBounds_toArray, List.set_cons_zero, List.set_cons_succ]
      refine tStep (i := 10) rfl (by kernel_rfl) (fun K hK => ?_)
      go_simp
      refine hK.out _ _ (fun h => absurd h (by decide)) ?_
      clear hK K
      try simp only [Act.put, List.setIfInBounds_toArray, List.set_cons_zero, List.set_cons_succ]
      refine tStep (i := 11) rfl (by kernel_rfl) (fun K hK => ?_)
      go_simp
      refine hK.out _ _ (fun h => absurd h (by decide)) ?_
      clear hK K
      try simp only [Act.put, List.setIfInBounds_toArray, List.set_cons_zero, List.set_cons_succ]
      refine tDone (by kernel_rfl) ?_ _
      have hlX : encPr.lie (sb + 1 ≤ ·) m2 := (encPr_hi hh2).imp fun b hb => by have : W4.heap.size ≤ b := hb; omega
      have hA8 := hA6.snoc (v2 := .slice A8 (O.length + 1) c8) (m' := m2) (((encPr_ok hm2).below hb6 (Nat.le_refl _)).more hb6.size) (HA.out.far (encPr_hi hh2)) hlX ho8 hg8 hat8 (hA6.below.trans hb8)
      have hhi8 : ∀ g, (Value.slice A8 (O.length + 1) c8).ownBlock = some g → sb + 1 ≤ g := fun g e => by
        rcases hat8 with e1 | ⟨g', e1, hg'⟩
        · exact hhi g (by rw [← e]; exact e1.symm)
        · rw [e] at e1; cases e1; have := hb5'.size; have := hb6.size; omega
      have hA9 := hA8.set (p := ⟨sb, 0, none⟩) (by rw [Hsb.out]; exact Nat.le_refl _) (fun e => by have := hhi8 _ e; dsimp only at this; omega) (fun b hb e => by dsimp only at e; omega) (.slice A8 (O.length + 1) c8)
      have hO9 := hO8.set_ 0 (.slice A8 (O.length + 1) c8)
      have hz8 := hA8.below.size
      have hzs : sb + 1 ≤ w8.heap.size := by have := hg8.size; have := hb5'.size; have := hb6.size; omega
      have hT2 := Lib.hid (HT.out m2 hp2)
      have HO9 := Lib.hid hO9
      have HA9 := Lib.hid hA9
      clear hA8 hA6 hA5 hO8 hO6 hO5 hP8 hP6 hP5 N6 ho8 hb8 hg8 hat8 hHeld hO9 hA9
      go_wp2
      exact ⟨⟨k + 1, O ++ [m2], _, by omega, by go_num, HO9.out, HA9.out, hhi8, by simpa using hzs, hT2, by rw [List.length_append, Hol.out]; rfl, Lib.hid fun h => by omega⟩, by simp [intOf]; omega⟩
    · have hkn : k = n := by omega
      have hL := HO.out
      have hll := Hln.out
      rw [List.take_of_length_le (by rw [List.length_map]; omega)] at hL
      have q0 := hO.cell 0
      have qz := hO.frz 0
      have hsl : sb < wr.heap.size := hO.lt
      rcases own_row hA.own with ⟨hv, h0⟩ | ⟨g, cp, hv, hgc, hgB, hgr⟩
      · obtain rfl : O = [] := List.eq_nil_of_length_eq_zero h0
        simp only [List.length_nil, Value.slice.injEq] at hv
        obtain ⟨rfl, _, rfl⟩ := hv
        have HO2 := Lib.hid hO
        have HA := Lib.hid hA
        have HC2 := Lib.hid (fun W => c_compactN W)
        have HC := Lib.hid (c_stableFN wr)
        have HL := Lib.hid hL
        have Hsb := Lib.hid hsb
        simp only [List.length_nil] at hOl hcs q0 ⊢
        clear hO hA hr hhi HO hL hll hkn hOl hk H0 hcs h0 hb0 hz0 hsb hzr
        go_wp2_with (first | (go_at_call 36; (with_reducible refine HC.out.mono ?_); rintro e w5 ⟨rfl, rfl⟩) | (go_at_call 39; (with_reducible refine (HC2.out _).mono ?_); rintro e w6 ⟨rfl, rfl⟩))
        go_ret
        have hb := HA.out.below
        have hs := Hsb.out
        have hO9 := HO2.out.set_ 0 (.slice none 0 0)
        refine ⟨⟨none, 0, 0, []⟩, ret_ifc hs, ⟨by rw [← hs]; exact hO9, (encSl_ok (by decide)).2 ⟨Els.nil_, Nat.le_refl _⟩, encSl_lie (fun h => absurd h (by decide)) (fun _ h => by cases h), Nat.zero_le _⟩, by rw [← HL.out]; rfl, hb.setCell (by dsimp only; omega) _, by rw [World.size_setCell]; omega⟩
      · have HA := Lib.hid hA
        have hAo := (hA.own.lt g (by rw [hv]; rfl))
        have hgs : sb + 1 ≤ g := hhi g (by rw [hv]; rfl)
        have hn0 : 0 < k := by
          rcases Nat.eq_zero_or_pos k with h | h
          · have := H0.out h; rw [hv] at this; cases this
          · exact h
        have hPb : PrB 56 wr g O := hgr
        have hPk : PrOk wr g O := fun m hm => ⟨pr_ok (hA.oks m hm).1, encPr_away (by have := (hA.oks m hm).2.1; rw [hv] at this; exact this)⟩
        have hlie : ∀ m ∈ O, encPr.lie (sb + 1 ≤ ·) m := fun m hm => (hA.oks m hm).2.2
        have hbW := hA.below
        simp only [Value.slice.injEq] at hv
        obtain ⟨rfl, _, rfl⟩ := hv
        subst hOl
        have HC := c_stableF wr (n := O.length) (c := cs) hPb hPk rfl hgc (by omega)
        unfold SrtP at HC
        have HC := Lib.hid HC
        have hol : O.length ≤ 100000 := by omega
        have HO2 := Lib.hid hO
        have HL := Lib.hid hL
        have Hsb := Lib.hid hsb
        have HPk := Lib.hid (fun W (hk : Kb [g] wr W) => hPk.kb hk)
        have Hlie := Lib.hid hlie
        have HbW := Lib.hid hbW
        have Hn0 := Lib.hid hn0
        clear hO hA hr hhi HO hL hll hkn hk H0 hcs hb0 hz0 hsb hzr hgr hPb hPk hlie hbW hn0
        go_wp2_with (first | (go_at_call 36; go_loud ((with_reducible refine HC.out.mono ?_); rintro e w5 ⟨rfl, S, hS, hSt, hSr, hk5⟩; rw [List.nil_append, List.append_nil] at hS; have hO5 := HO2.out.kb hk5 (by simp; omega); have q05 := hO5.cell 0; have qz5 := hO5.frz 0; have HC2 := c_compact w5 (n := O.length) (c := cs) hS ((HPk.out _ hk5).perm fun m hm => hSt.mem.1 hm) hSt.length hgc (by omega) Hn0.out; unfold CpP at HC2; have HC2 := Lib.hid HC2; have HO5 := Lib.hid hO5; have HSt := Lib.hid hSt; clear hO5 hS hSt HC)) | (go_at_call 39; (with_reducible refine HC2.out.mono ?_); rintro e w6 ⟨rfl, hP6, hl6, hk6⟩; have hO6 := HO5.out.kb hk6 (by simp; omega); have q06 := hO6.cell 0; have qz6 := hO6.frz 0; have HO6 := Lib.hid hO6; clear hO6 HC2))
        go_ret
        have hs := Hsb.out
        have hb := HbW.out
        have hk2 : Kb [g] wr w6 := hk5.trans hk6 (fun b hb => .inl hb)
        have hbf : Below w.heap.size w w6 := hb.trans (hk2.below (fun b hb => by rw [List.mem_singleton] at hb; omega) hb.size)
        have hO9 := HO6.out.set_ 0 (.slice (some ⟨g, 0, none⟩) (cpR S).length cs)
        have hP9 : PrB 56 (w6.setCell ⟨sb, 0, none⟩ (.slice (some ⟨g, 0, none⟩) (cpR S).length cs)) g (cpR S) := by
          obtain ⟨r, h⟩ := hP6
          exact ⟨r, h.far (by dsimp only; omega) _⟩
        have hSO : ∀ m ∈ cpR S, m ∈ O := fun m hm => HSt.out.mem.1 (cpR_mem S m hm)
        have hok9 : ∀ m ∈ cpR S, m.ok (w6.setCell ⟨sb, 0, none⟩ (.slice (some ⟨g, 0, none⟩) (cpR S).length cs)) (w6.setCell ⟨sb, 0, none⟩ (.slice (some ⟨g, 0, none⟩) (cpR S).length cs)).heap.size := fun m hm => by
          have h1 := (HPk.out _ hk2 m (hSO m hm)).1
          have h2 := (encPr_ok h1).setFar (p := ⟨sb, 0, none⟩) ((Hlie.out m (hSO m hm)).imp fun b hb e => by dsimp only at e; omega) (.slice (some ⟨g, 0, none⟩) (cpR S).length cs)
          rw [World.size_setCell]
          exact pr_ok h2
        refine ⟨⟨some ⟨g, 0, none⟩, (cpR S).length, cs, cpR S⟩, ret_ifc hs, ⟨by rw [← hs]; exact hO9, (encSl_ok (by decide)).2 ⟨els_prb hP9 hok9 rfl, by have := HSt.out.length; dsimp only; omega⟩, encSl_lie (fun _ a ha => by cases ha; dsimp only; omega) (fun m hm => by rw [← hs]; exact Hlie.out m (hSO m hm)), by have := HSt.out.length; dsimp only; omega⟩, ?_, hbf.setCell (by dsimp only; omega) _, by have := hk2.size; rw [World.size_setCell]; omega⟩
        rw [← HL.out]
        exact list_law_pl hSr HSt.out
end Go.Proofs.Ytedelkifadonjaa
/- Layer 23: a list as a source: First, Next, Pair, Seek. -/
namespace Go.Lec
open Go.RowKit
section
variable {α : Type} {E : Enc α} {w w' : World} {D : Nat → Prop} {S : List Nat} {m : α}
theorem Enc.ok.kb (h : E.ok w w.heap.size m) (hl : E.lie D m) (hk : Kb S w w') (hD : ∀ b, D b → b ∉ S) : E.ok w' w'.heap.size m :=
  (h.kept (fun b hb hx => hk.block b hb (hD b hx)) hl).more hk.size
theorem belowNm {B : Nat} {a w : World} (h : Below B a w) (n : Nat) : Below B a (w.drewN n) := ⟨h.os, h.tape, h.output, h.size, h.block⟩
end
end Go.Lec
namespace Go.Proofs.Ytedelkifadonjaa
open Go.RowKit Go.Lec Go.Op
section
variable {D D' : Nat → Prop} {w w' : World} {sb : Nat} {s : Sl Pr} {a a' : Int} {S : List Nat}
theorem LsM.kb (h : LsM D w sb s a) (hk : Kb S w w') (hS : sb ∉ S) (hD : ∀ b, D b → b ∉ S) : LsM D w' sb s a := ⟨h.bk.kb hk hS, h.ok.kb h.lie hk hD, h.lie, h.n⟩
theorem LsM.imp (h : LsM D w sb s a) (hi : ∀ b, D b → D' b) : LsM D' w sb s a := ⟨h.bk, h.ok, h.lie.imp hi, h.n⟩
theorem LsM.to_ (h : LsM D w sb s a) (hk : Kb [sb] w w') (hD : ∀ b, D b → b ≠ sb) (hb : Bk w' sb 87 #[.slice s.A s.n s.c, .int .i64 a']) : LsM D w' sb s a' :=
  ⟨hb, h.ok.kb h.lie hk (fun b hb => by simpa using hD b hb), h.lie, h.n⟩
theorem LsM.els (h : LsM D w sb s a) : Els encPr w w.heap.size s.A s.n s.L := ((encSl_ok (by decide)).1 h.ok).1
theorem LsM.len (h : LsM D w sb s a) : s.L.length = s.n := h.els.2.1
end
/-- It stands at a place, or behind its end. -/
def ToP (w : World) (sb : Nat) (s : Sl Pr) (k : Nat) (e : Ending) (w' : World) : Prop :=
  e = .returned (.bool (decide (k < s.n))) ∧ Kb [sb] w w' ∧ Bk w' sb 87 #[.slice s.A s.n s.c, .int .i64 ((min k s.n : Nat) : Int)]
set_option maxRecDepth 100000 in
set_option maxHeartbeats 1600000 in
theorem c_to (w : World) {D : Nat → Prop} {sb k : Nat} {s : Sl Pr} {a : Int} (h : LsM D w sb s a) (hk : k ≤ 1000000) :
    Calls Try.prog 90 #[.pointer (some ⟨sb, 0, none⟩), .int .i64 (k : Int)] w (ToP w sb s k) := by
  have hn := h.n
  have HB := Lib.hid h.bk
  have q0 := h.bk.cell 0
  have q1 := h.bk.cell 1
  have y1 := h.bk.frz 1
  clear h
  obtain ⟨A, n, c, L⟩ := s
  dsimp only at *
  rcases Nat.lt_trichotomy k n with hlt | rfl | hlt
  · obtain ⟨j, hj⟩ : ∃ j, j = k := ⟨_, rfl⟩
    have HJ := Lib.hid (show ((min k n : Nat) : Int) = (j : Int) by omega)
    have Hd := Lib.hid (show true = decide (k < n) by simpa using hlt)
    subst hj
    have hi : (j : Int) < (n : Int) := by omega
    go_enter Try.func90, Try.ntmps90
    go_wp2
    have HB2 := HB.out.set_ 1 (.int .i64 (j : Int))
    have z0 := HB2.cell 0
    have z1 := HB2.cell 1
    have HB2 := Lib.hid HB2
    go_quiet (fail)
    go_wp2
    go_ret
    exact ⟨congrArg (fun b => Ending.returned (.bool b)) Hd.out, ((Kb.refl _ _).setCell (.inl (by simp)) _).drewN _, by dsimp only; rw [HJ.out]; exact HB2.out.drewN _⟩
  · obtain ⟨j, hj⟩ : ∃ j, j = k := ⟨_, rfl⟩
    have HJ := Lib.hid (show ((min k k : Nat) : Int) = (j : Int) by omega)
    have Hd := Lib.hid (show false = decide (k < k) by simp)
    subst hj
    go_enter Try.func90, Try.ntmps90
    go_wp2
    have HB2 := HB.out.set_ 1 (.int .i64 (j : Int))
    have z0 := HB2.cell 0
    have z1 := HB2.cell 1
    have HB2 := Lib.hid HB2
    go_quiet (fail)
    go_wp2
    go_ret
    exact ⟨congrArg (fun b => Ending.returned (.bool b)) Hd.out, ((Kb.refl _ _).setCell (.inl (by simp)) _).drewN _, by dsimp only; rw [HJ.out]; exact HB2.out.drewN _⟩
  · obtain ⟨j, hj⟩ : ∃ j, j = n := ⟨_, rfl⟩
    have HJ := Lib.hid (show ((min k n : Nat) : Int) = (j : Int) by omega)
    have Hd := Lib.hid (show false = decide (k < n) by simp; omega)
    subst hj
    have hi : (j : Int) < (k : Int) := by omega
    go_enter Try.func90, Try.ntmps90
    go_wp2
    have HB2 := HB.out.set_ 1 (.int .i64 (j : Int))
    have z0 := HB2.cell 0
    have z1 := HB2.cell 1
    have HB2 := Lib.hid HB2
    go_quiet (fail)
    go_wp2
    go_ret
    exact ⟨congrArg (fun b => Ending.returned (.bool b)) Hd.out, ((Kb.refl _ _).setCell (.inl (by simp)) _).drewN _, by dsimp only; rw [HJ.out]; exact HB2.out.drewN _⟩
set_option maxRecDepth 100000 in
theorem c_lFirst (w : World) {D : Nat → Prop} {sb : Nat} {s : Sl Pr} {a : Int} (h : LsM D w sb s a) :
    Calls Try.prog 86 #[.pointer (some ⟨sb, 0, none⟩)] w (ToP w sb s 0) := by
  have HC := c_to w h (k := 0) (by omega)
  unfold ToP at HC ⊢
  have HC := Lib.hid HC
  go_enter Try.func86, Try.ntmps86
  go_wp2_with (first | (go_at_call 90; (refine HC.out.mono ?_); rintro e w2 ⟨rfl, h2, h3⟩))
  go_ret
  exact ⟨rfl, h2, h3⟩
set_option maxRecDepth 100000 in
theorem c_lNext (w : World) {D : Nat → Prop} {sb k : Nat} {s : Sl Pr} (h : LsM D w sb s ((k : Int) - 1)) (hk : k ≤ 1000000) :
    Calls Try.prog 87 #[.pointer (some ⟨sb, 0, none⟩)] w (ToP w sb s k) := by
  have HC := c_to w h hk
  unfold ToP at HC ⊢
  have HC := Lib.hid HC
  have q1 := h.bk.cell 1
  have hw : IntKind.i64.wrap ((k : Int) - 1 + 1) = (k : Int) := by rw [IntWalk.i64_in _ (by omega)]; omega
  go_enter Try.func87, Try.ntmps87
  go_wp2_with (first | (go_at_call 90; (refine HC.out.mono ?_); rintro e w2 ⟨rfl, h2, h3⟩))
  go_ret
  exact ⟨rfl, h2, h3⟩
/-- A pair in memory of its own, and that there is one. -/
def PairP (w : World) (p : List UInt8 × List UInt8) (e : Ending) (w' : World) : Prop :=
  ∃ m : Pr, e = .returned (.tuple #[.agg #[.slice m.A1 m.n1 m.c1, .slice m.A2 m.n2 m.c2], .bool true]) ∧ m.ok w' w'.heap.size ∧ m.hi w.heap.size ∧ m.pl = p ∧ Below w.heap.size w w'
set_option maxRecDepth 100000 in
set_option maxHeartbeats 1600000 in
theorem c_lPair (w : World) {D : Nat → Prop} {sb k : Nat} {s : Sl Pr} {p : Pr} (h : LsM D w sb s (k : Int)) (hp : s.L[k]? = some p) :
    Calls Try.prog 88 #[.pointer (some ⟨sb, 0, none⟩)] w (PairP w p.pl) := by
  have hkn : k < s.n := by rw [← h.len]; exact (List.getElem?_eq_some_iff.1 hp).1
  have hn := h.n
  have hsb := h.bk.lt
  obtain ⟨b, o, m, hA, hbB, hm, _, hmok, hcell⟩ := h.els.at hkn
  obtain rfl : m = p := by rw [hp] at hm; exact (Option.some.inj hm).symm
  have hm2 := pr_ok hmok
  have HB := h.bk
  clear h hp hm
  obtain ⟨A, n, c, L⟩ := s
  dsimp only at *
  subst hA
  have hcc : ∀ W : World, Below w.heap.size w W → W.cell? ⟨b, o + k * 2, none⟩ = some (.slice m.A1 m.n1 m.c1) ∧ W.cell? ⟨b, o + k * 2 + 1, none⟩ = some (.slice m.A2 m.n2 m.c2) := fun W hW => ⟨hcell W hW 0 _ rfl, hcell W hW 1 _ rfl⟩
  have hf : ((k : Int) < 0) = False := by simp
  have hg1 : decide ((k : Int) < 0) = false := by simp
  have hg2 : decide (n ≤ k) = false := by simp; omega
  clear hcell
  go_enter Try.func88, Try.ntmps88
  go_wp2
  have hb0 := (Below.refl w.heap.size w).alloc (Nat.le_refl _) (.cells #[.slice none 0 0, .slice none 0 0] 56)
  have N := Bk.new_ w 56 #[.slice none 0 0, .slice none 0 0]
  have HB1 := HB.alloc (.cells #[.slice none 0 0, .slice none 0 0] 56)
  obtain ⟨W, hW⟩ : ∃ W, W = w.alloc (.cells #[.slice none 0 0, .slice none 0 0] 56) := ⟨_, rfl⟩
  have hz : W.heap.size = w.heap.size + 1 := by rw [hW]; simp
  rw [← hW] at hb0 N HB1 ⊢
  clear hW hf
  have q0 := HB1.cell 0
  have q1 := HB1.cell 1
  go_quiet (fail)
  go_wp2
  have hc := hcc _ hb0
  have hHeld : (fun W : World => (W.cell? ⟨sb, 0, none⟩ = some (.slice (some ⟨b, o, none⟩) n c) ∧ W.cell? ⟨sb, 1, none⟩ = some (.int .i64 (k : Int))) ∧ W.cell? ⟨b, o + k * 2, none⟩ = some (.slice m.A1 m.n1 m.c1) ∧ W.cell? ⟨b, o + k * 2 + 1, none⟩ = some (.slice m.A2 m.n2 m.c2)) (W.drewN nq).drew := ⟨⟨q0, q1⟩, hc⟩
  have HT := Lib.hid (show ∀ W5 : World, Below w.heap.size w W5 → _ from fun W5 hW => c_mTwin W5 m (hm2.below hW (Nat.le_refl _)) hW.size)
  unfold MTwinP at HT
  have k0 : (0 : Int) ≤ (k : Int) := by omega
  have k1 : (k : Int) < (n : Int) := by omega
  refine wp_region_T (S := fun W : World => (W.cell? ⟨sb, 0, none⟩ = some (.slice (some ⟨b, o, none⟩) n c) ∧ W.cell? ⟨sb, 1, none⟩ = some (.int .i64 (k : Int))) ∧ W.cell? ⟨b, o + k * 2, none⟩ = some (.slice m.A1 m.n1 m.c1) ∧ W.cell? ⟨b, o + k * 2 + 1, none⟩ = some (.slice m.A2 m.n2 m.c2)) (m := 11) (by kernel_rfl) ?_
  simp only [List.size_toArray, List.length_cons, List.length_nil, Nat.reduceAdd]
  refine tTake (i := 0) (v := ?_) rfl (by kernel_rfl) (by kernel_rfl) (by kernel_rfl) (by kernel_rfl) (fun _ _ _ h => h) hHeld (by rfl) ?_ ?_
  rotate_left
  · (intro w hSw; (try dsimp only at hSw); go_simp; try with_reducible rfl)
  try simp only [Act.put, List.setIfInBounds_toArray, List.set_cons_zero, List.set_cons_succ]
  refine tTake (i := 1) (v := ?_) rfl (by kernel_rfl) (by kernel_rfl) (by kernel_rfl) (by kernel_rfl) (fun _ _ _ h => h) hHeld (by rfl) ?_ ?_
  rotate_left
  · (intro w hSw; (try dsimp only at hSw); go_simp; try with_reducible rfl)
  try simp only [Act.put, List.setIfInBounds_toArray, List.set_cons_zero, List.set_cons_succ]
  refine tTake (i := 2) (v := ?_) rfl (by kernel_rfl) (by kernel_rfl) (by kernel_rfl) (by kernel_rfl) (fun _ _ _ h => h) hHeld (by rfl) ?_ ?_
  rotate_left
  · (intro w hSw; (try dsimp only at hSw); go_simp; try with_reducible rfl)
  try simp only [Act.put, List.setIfInBounds_toArray, List.set_cons_zero, List.set_cons_succ]
  refine tTake (i := 3) (v := ?_) rfl (by kernel_rfl) (by kernel_rfl) (by kernel_rfl) (by kernel_rfl) (fun _ _ _ h => h) hHeld (by rfl) ?_ ?_
  rotate_left
  · (intro w hSw; (try dsimp only at hSw); go_simp; try with_reducible rfl)
  try simp only [Act.put, List.setIfInBounds_toArray, List.set_cons_zero, List.set_cons_succ]
  refine tTake (i := 4) (v := ?_) rfl (by kernel_rfl) (by kernel_rfl) (by kernel_rfl) (by kernel_rfl) (fun _ _ _ h => h) hHeld (by rfl) ?_ ?_
  rotate_left
  · (intro w hSw; (try dsimp only at hSw); go_simp; try with_reducible rfl)
  try simp only [Act.put, List.setIfInBounds_toArray, List.set_cons_zero, List.set_cons_succ]
  refine tTake (i := 5) (v := ?_) rfl (by kernel_rfl) (by kernel_rfl) (by kernel_rfl) (by kernel_rfl) (fun _ _ _ h => h) hHeld (by rfl) ?_ ?_
  rotate_left
  · (intro w hSw; (try dsimp only at hSw); go_simp; try with_reducible rfl)
  try simp only [Act.put, List.setIfInBounds_toArray, List.set_cons_zero, List.set_cons_succ]
  refine tTake (i := 6) (v := ?_) rfl (by kernel_rfl) (by kernel_rfl) (by kernel_rfl) (by kernel_rfl) (fun _ _ _ h => h) hHeld (by rfl) ?_ ?_
  rotate_left
  · (intro w hSw; (try dsimp only at hSw); go_simp; try with_reducible rfl)
  try simp only [Act.put, List.setIfInBounds_toArray, List.set_cons_zero, List.set_cons_succ]
  refine tTake (i := 7) (v := ?_) rfl (by kernel_rfl) (by kernel_rfl) (by kernel_rfl) (by kernel_rfl) (fun _ _ _ h => h) hHeld (by rfl) ?_ ?_
  rotate_left
  · (intro w hSw; (try dsimp only at hSw); go_simp; try with_reducible rfl)
  try simp only [Act.put, List.setIfInBounds_toArray, List.set_cons_zero, List.set_cons_succ]
  refine tTake (i := 8) (v := ?_) rfl (by kernel_rfl) (by kernel_rfl) (by kernel_rfl) (by kernel_rfl) (fun _ _ _ h => h) hHeld (by rfl) ?_ ?_
  rotate_left
  · (intro w hSw; (try dsimp only at hSw); go_simp; try with_reducible rfl)
  try simp only [Act.put, List.setIfInBounds_toArray, List.set_cons_zero, List.set_cons_succ]
  refine tTake (i := 9) (v := ?_) rfl (by kernel_rfl) (by kernel_rfl) (by kernel_rfl) (by kernel_rfl) (fun _ _ _ h => h) hHeld (by rfl) ?_ ?_
  rotate_left
  · (intro w hSw; (try dsimp only at hSw); go_simp; try with_reducible rfl)
  try simp only [Act.put, List.setIfInBounds_toArray, List.set_cons_zero, List.set_cons_succ]
  refine tStep (i := 10) rfl (by kernel_rfl) (fun K hK => ?_)
  go_simp
  go_at_call 35
  refine (HT.out _ ?_).mono ?_
  rotate_left
  · rintro e w5 ⟨m2, rfl, hm2', hh2, hp2, hb5⟩
    have hb5' : Below W.heap.size W w5 := (belowNm (Below.refl W.heap.size W) (nq + 1)).trans hb5
    have HB5 := HB1.below hb5' HB1.lt
    have N5 := N.below hb5' N.lt
    have x0 := N5.cell 0
    have x1 := N5.cell 1
    have y0 := N5.frz 0
    have y1 := N5.frz 1
    have hbW5 := hb0.trans (hb5'.mono (by omega))
    have hHeldN : (fun W : World => (W.cell? ⟨sb, 0, none⟩ = some (.slice (some ⟨b, o, none⟩) n c) ∧ W.cell? ⟨sb, 1, none⟩ = some (.int .i64 (k : Int))) ∧ W.cell? ⟨b, o + k * 2, none⟩ = some (.slice m.A1 m.n1 m.c1) ∧ W.cell? ⟨b, o + k * 2 + 1, none⟩ = some (.slice m.A2 m.n2 m.c2)) _ := ⟨⟨HB5.cell 0, HB5.cell 1⟩, hcc _ hbW5⟩
    refine hK.out _ _ (fun _ => hHeldN) ?_
    clear hK K hHeld
    have hHeld := hHeldN
    clear hHeldN
    try simp only [Act.put, List.setIfInBounds_toArray, List.set_cons_zero, List.set_cons_succ]
    refine tStep (i := 11) rfl (by kernel_rfl) (fun K hK => ?_)
    go_simp
    refine hK.out _ _ (fun h => absurd h (by decide)) ?_
    clear hK K
    try simp only [Act.put, List.setIfInBounds_toArray, List.set_cons_zero, List.set_cons_succ]
    refine tStep (i := 12) rfl (by kernel_rfl) (fun K hK => ?_)
    go_simp
    refine hK.out _ _ (fun h => absurd h (by decide)) ?_
    clear hK K
    try simp only [Act.put, List.setIfInBounds_toArray, List.set_cons_zero, List.set_cons_succ]
    refine tDone (by kernel_rfl) ?_ _
    have N6 := (N5.set_ 0 (.slice m2.A1 m2.n1 m2.c1)).set_ 1 (.slice m2.A2 m2.n2 m2.c2)
    have g0 := N6.cell 0
    have g1 := N6.cell 1
    have hz5 := hb5'.size
    have hm6 := (encPr_ok hm2').setFar (p := ⟨w.heap.size, 0, none⟩) ((encPr_hi hh2).imp fun b hb e => by have h : W.heap.size ≤ b := hb; dsimp only at e; omega) (.slice m2.A1 m2.n1 m2.c1)
    have hm7 := hm6.setFar (p := ⟨w.heap.size, 1, none⟩) ((encPr_hi hh2).imp fun b hb e => by have h : W.heap.size ≤ b := hb; dsimp only at e; omega) (.slice m2.A2 m2.n2 m2.c2)
    have hbf := (hbW5.setCell (p := ⟨w.heap.size, 0, none⟩) (Nat.le_refl _) (.slice m2.A1 m2.n1 m2.c1)).setCell (p := ⟨w.heap.size, 1, none⟩) (Nat.le_refl _) (.slice m2.A2 m2.n2 m2.c2)
    clear x0 x1 y0 y1 q0 q1
    go_wp2
    refine bodyPost_ret (v := .tuple #[.agg #[.slice m2.A1 m2.n1 m2.c1, .slice m2.A2 m2.n2 m2.c2], .bool true]) (by simp [results, Try.results88, go_sem, g0, g1]) rfl ⟨m2, rfl, ?_, ?_, hp2, hbf⟩
    · have := pr_ok hm7
      simpa only [World.size_setCell] using this
    · exact hh2.mono (by show _ ≤ W.heap.size; omega)
  · exact belowNm hb0 (nq + 1)
end Go.Proofs.Ytedelkifadonjaa
/- Layer 23: a list as a source: the search by halves, Seek. -/
namespace Go.Proofs.Ytedelkifadonjaa
open Go.RowKit Go.Lec Go.Op
set_option maxRecDepth 100000 in
theorem c_seekcmp (w : World) {B B2 nk ck : Nat} {Ak : Option Addr} {x : Pr} {key : List UInt8} (hx : x.ok w B) (hk : Rd w B2 Ak nk (bcs key)) (hB : B ≤ w.heap.size) (hB2 : B2 ≤ w.heap.size) :
    Calls Try.prog 92 #[.agg #[.slice x.A1 x.n1 x.c1, .slice x.A2 x.n2 x.c2], .slice Ak nk ck] w fun e w' => e = .returned (.int .i64 (Lib.compareBytes x.key key)) ∧ Below w.heap.size w w' := by
  have hb1 := (Below.refl w.heap.size w).alloc (Nat.le_refl _) (.cells #[.slice x.A1 x.n1 x.c1, .slice x.A2 x.n2 x.c2] 56)
  have N1 := Bk.new_ w 56 #[.slice x.A1 x.n1 x.c1, .slice x.A2 x.n2 x.c2]
  have q1 := N1.cell 0
  have HC := Lib.hid (c_bCompare _ (c := x.c1) (c2 := ck) (hx.1.below hb1 hB) (hk.below hb1 hB2))
  have Hb := Lib.hid hb1
  clear N1 hb1
  go_enter Try.func92, Try.ntmps92
  go_wp2_with (first | (go_at_call 38; refine HC.out.mono ?_; rintro e w1 ⟨rfl, rfl⟩))
  go_ret
  exact ⟨rfl, Hb.out⟩
/-- The place of a key in a list in order. -/
structure PosOf (L : List Pr) (key : List UInt8) (p : Nat) : Prop where
  le : p ≤ L.length
  at_ : ∀ t (h : t < L.length), bytesLess (L[t]).key key = decide (t < p)
def BsP (w : World) (p : Nat) (e : Ending) (w' : World) : Prop := (∃ b : Bool, e = .returned (.tuple #[.int .i64 (p : Int), .bool b])) ∧ Below w.heap.size w w'
set_option maxRecDepth 100000 in
set_option maxHeartbeats 1600000 in
theorem c_bsearch (w : World) {B B2 n c nk ck p : Nat} {A Ak : Option Addr} {L : List Pr} {key : List UInt8} (hr : Els encPr w B A n L) (hk : Rd w B2 Ak nk (bcs key)) (hB : B ≤ w.heap.size) (hB2 : B2 ≤ w.heap.size) (hn : n ≤ 100000) (hp : PosOf L key p) :
    Calls Try.prog 91 #[.slice A n c, .slice Ak nk ck, .func (.func 92) #[] #[]] w (BsP w p) := by
  have hpn : p ≤ n := by rw [← hr.2.1]; exact hp.le
  have HP := Lib.hid hp
  have HK := Lib.hid (fun (W : World) (h : Below w.heap.size w W) => (hk.below h hB2 : Rd W B2 Ak nk (bcs key)))
  have HR := Lib.hid hr
  clear hp hk
  go_enter Try.func91, Try.ntmps91
  go_wp2
  go_loopw [9, 10] (fun i j wr => ∃ a b : Nat, i = .int .i64 (a : Int) ∧ j = .int .i64 (b : Int) ∧ a ≤ p ∧ p ≤ b ∧ b ≤ n ∧ Below w.heap.size w wr) (fun i j _ => (intOf j).toNat - (intOf i).toNat)
  case atStart => exact ⟨0, n, rfl, rfl, Nat.zero_le _, hpn, Nat.le_refl _, Below.refl _ _⟩
  case round =>
    obtain ⟨a, b, rfl, rfl, hap, hpb, hbn, hbw⟩ := hrel
    by_cases hlt : a < b
    · obtain ⟨h, hh⟩ : ∃ h, h = (a + b) / 2 := ⟨_, rfl⟩
      have hh1 : a ≤ h := by omega
      have hh2 : h < b := by omega
      have hhi : ((a : Int) + (b : Int)) / 2 = (h : Int) := by omega
      obtain ⟨b2, o, m, rfl, hbB, hm, _, hmok, hcell⟩ := HR.out.at (k := h) (by omega)
      have hm2 := (pr_ok hmok).below hbw hB
      have c0 : wr.cell? ⟨b2, o + h * 2, none⟩ = some (.slice m.A1 m.n1 m.c1) := hcell wr (hbw.mono hB) 0 _ rfl
      have c1 : wr.cell? ⟨b2, o + h * 2 + 1, none⟩ = some (.slice m.A2 m.n2 m.c2) := hcell wr (hbw.mono hB) 1 _ rfl
      have hl : h < L.length := (List.getElem?_eq_some_iff.1 hm).1
      have hme : L[h] = m := (List.getElem?_eq_some_iff.1 hm).2
      have hat := HP.out.at_ h hl
      rw [hme] at hat
      have HC := Lib.hid (c_seekcmp wr (ck := ck) hm2 (HK.out wr hbw) (Nat.le_trans hB hbw.size) (Nat.le_trans hB2 hbw.size))
      clear hh hme hm hcell hmok hm2
      by_cases hph : h < p
      · have hcmp : decide (Lib.compareBytes m.key key < 0) = true := by rw [cmp_neg_decide, hat]; simpa using hph
        clear hat
        go_wp2_with (first | (go_at_call 92; refine HC.out.mono ?_; rintro e w1 ⟨rfl, hb1⟩))
        go_roundw
        case rel => exact ⟨h + 1, b, by go_num, rfl, by omega, by omega, hbn, hbw.trans (hb1.mono hbw.size)⟩
        case measure => simp [intOf]; omega
      · have hcmp : decide (Lib.compareBytes m.key key < 0) = false := by rw [cmp_neg_decide, hat]; simpa using hph
        clear hat
        go_wp2_with (first | (go_at_call 92; refine HC.out.mono ?_; rintro e w1 ⟨rfl, hb1⟩))
        go_roundw
        case rel => exact ⟨a, h, rfl, rfl, by omega, by omega, by omega, hbw.trans (hb1.mono hbw.size)⟩
        case measure => simp [intOf]; omega
    · obtain rfl : a = p := by omega
      have hlt' : ¬ (a : Int) < (b : Int) := by omega
      by_cases han : a < n
      · obtain ⟨b2, o, m, rfl, hbB, hm, _, hmok, hcell⟩ := HR.out.at (k := a) han
        have hm2 := (pr_ok hmok).below hbw hB
        have c0 : wr.cell? ⟨b2, o + a * 2, none⟩ = some (.slice m.A1 m.n1 m.c1) := hcell wr (hbw.mono hB) 0 _ rfl
        have c1 : wr.cell? ⟨b2, o + a * 2 + 1, none⟩ = some (.slice m.A2 m.n2 m.c2) := hcell wr (hbw.mono hB) 1 _ rfl
        have HC := Lib.hid (c_seekcmp wr (ck := ck) hm2 (HK.out wr hbw) (Nat.le_trans hB hbw.size) (Nat.le_trans hB2 hbw.size))
        clear hm hcell hmok hm2
        go_wp2_with (first | (go_at_call 92; refine HC.out.mono ?_; rintro e w1 ⟨rfl, hb1⟩))
        go_ret2
        exact ⟨⟨_, rfl⟩, hbw.trans (hb1.mono hbw.size)⟩
      · have han' : decide (a < n) = false := by simpa using han
        go_wp2
        go_ret2
        exact ⟨⟨_, rfl⟩, hbw⟩
set_option maxRecDepth 100000 in
theorem c_lSeek (w : World) {D : Nat → Prop} {sb B2 nk ck p : Nat} {s : Sl Pr} {a : Int} {Ak : Option Addr} {key : List UInt8} (h : LsM D w sb s a) (hD : ∀ b, D b → b ≠ sb) (hk : Rd w B2 Ak nk (bcs key)) (hB2 : B2 ≤ w.heap.size) (hp : PosOf s.L key p) :
    Calls Try.prog 89 #[.pointer (some ⟨sb, 0, none⟩), .slice Ak nk ck] w fun e w' => e = .returned (.bool (decide (p < s.n))) ∧ Kb [sb] w w' ∧ LsM D w' sb s ((min p s.n : Nat) : Int) := by
  have hpn : p ≤ s.n := by rw [← h.len]; exact hp.le
  have hn := h.n
  have HC := c_bsearch w (c := s.c) (ck := ck) h.els hk (Nat.le_refl _) hB2 h.n hp
  unfold BsP at HC
  have HC := Lib.hid HC
  have q0 := h.bk.cell 0
  have Hn := Lib.hid h.bk.lt
  have HL := Lib.hid (fun (W : World) (hb : Below w.heap.size w W) => h.kb (Kb.of_below hb) (by simp) (by simp) (S := []))
  have HT := Lib.hid (fun (W : World) (hb : Below w.heap.size w W) => c_to W (HL.out W hb) (k := p) (by omega))
  unfold ToP at HT
  clear h hk hp
  go_enter Try.func89, Try.ntmps89
  go_wp2_with (first | (go_at_call 91; refine HC.out.mono ?_; rintro e w1 ⟨⟨b, rfl⟩, hb1⟩) | (go_at_call 90; refine (HT.out _ hb1).mono ?_; rintro e w2 ⟨rfl, hk2, hB2'⟩))
  go_ret
  exact ⟨rfl, (Kb.of_below hb1).trans hk2 (fun b hb => .inl hb), (HL.out w1 hb1).to_ hk2 hD hB2'⟩
end Go.Proofs.Ytedelkifadonjaa
/- Layer 23: an iterator over several lists, as it lies in memory. -/
namespace Go.Proofs.Ytedelkifadonjaa
open Go.RowKit Go.Lec Go.Op
/-- A head: its block, its list's block, the list, where that stands, whether it stands at a pair, and which. -/
structure Hd where
  hb : Nat
  sb : Nat
  s : Sl Pr
  at_ : Int
  is : Bool
  p : Pr
/-- What never turns of a head. -/
def Hd.k (h : Hd) : Nat × Nat × Sl Pr := (h.hb, h.sb, h.s)
def Hd.ptr (h : Hd) : Value := .pointer (some ⟨h.hb, 0, none⟩)
structure HdOk (D : Nat → Prop) (w : World) (h : Hd) : Prop where
  bk : Bk w h.hb 75 #[.iface 85 (.pointer (some ⟨h.sb, 0, none⟩)), .slice h.p.A1 h.p.n1 h.p.c1, .slice h.p.A2 h.p.n2 h.p.c2, .bool h.is]
  ls : LsM D w h.sb h.s h.at_
  pok : h.p.ok w w.heap.size
  plie : encPr.lie D h.p
/-- An iterator: its block, the row of its heads, the heads. -/
structure It where
  ib : Nat
  A : Option Addr
  c : Nat
  Hs : List Hd
def It.K (X : It) : List (Nat × Nat × Sl Pr) := X.Hs.map Hd.k
/-- The blocks that its calls turn. -/
def ctlK (ib : Nat) (K : List (Nat × Nat × Sl Pr)) : List Nat := ib :: K.flatMap fun k => [k.1, k.2.1]
def It.ctl (X : It) : List Nat := ctlK X.ib X.K
structure ItM (D : Nat → Prop) (w : World) (X : It) (st steps : Nat) : Prop where
  bk : Bk w X.ib 72 #[.int .i64 1, .slice X.A X.Hs.length X.c, .int .i64 (st : Int), .int .i64 (steps : Int)]
  row : Rd w w.heap.size X.A X.Hs.length (X.Hs.map Hd.ptr)
  rowD : 0 < X.Hs.length → ∀ a, X.A = some a → D a.block
  hds : ∀ h ∈ X.Hs, HdOk D w h
  dj : ∀ (i j : Nat) (k1 k2 : Nat × Nat × Sl Pr), X.K[i]? = some k1 → X.K[j]? = some k2 → (k1.1 = k2.1 ∨ k1.2.1 = k2.2.1) → i = j
  nD : ∀ b ∈ X.ctl, ¬ D b
  n : X.Hs.length ≤ 100000
/-- What has come to the iterator's memory is new. -/
structure Grows (D : Nat → Prop) (w : World) (D' : Nat → Prop) (w' : World) : Prop where
  old : ∀ b, D b → D' b
  new_ : ∀ b, D' b → D b ∨ (w.heap.size ≤ b ∧ b < w'.heap.size)
  size : w.heap.size ≤ w'.heap.size
section
variable {D D' D'' : Nat → Prop} {w w' w'' : World} {X : It} {st steps st' steps' j : Nat} {h h' : Hd} {S : List Nat}
theorem Grows.refl (D : Nat → Prop) (w : World) : Grows D w D w := ⟨fun _ h => h, fun _ h => .inl h, Nat.le_refl _⟩
theorem Grows.same (hs : w.heap.size ≤ w'.heap.size) : Grows D w D w' := ⟨fun _ h => h, fun _ h => .inl h, hs⟩
theorem Grows.trans (h : Grows D w D' w') (k : Grows D' w' D'' w'') : Grows D w D'' w'' :=
  ⟨fun b hb => k.old b (h.old b hb), fun b hb => by
    rcases k.new_ b hb with h1 | h1
    · rcases h.new_ b h1 with h2 | h2
      · exact .inl h2
      · exact .inr ⟨h2.1, Nat.lt_of_lt_of_le h2.2 k.size⟩
    · exact .inr ⟨Nat.le_trans h.size h1.1, h1.2⟩, Nat.le_trans h.size k.size⟩
theorem Grows.all (D : Nat → Prop) (hs : w.heap.size ≤ w'.heap.size) : Grows D w (fun b => D b ∨ (w.heap.size ≤ b ∧ b < w'.heap.size)) w' := ⟨fun _ h => .inl h, fun _ h => h, hs⟩
theorem bk_type {b : Nat} {t t' : TypeId} {cs cs' : Array Value} (h : Bk w b t cs) (h' : Bk w b t' cs') : t = t' := by
  unfold Bk at h h'
  rw [h] at h'
  injection h' with h'
  injection h'
theorem ctl_mem {X : It} {b : Nat} : b ∈ X.ctl ↔ b = X.ib ∨ ∃ h ∈ X.Hs, b = h.hb ∨ b = h.sb := by
  unfold It.ctl ctlK It.K
  simp only [List.mem_cons, List.mem_flatMap, List.mem_map, Hd.k, List.not_mem_nil, or_false]
  constructor
  · rintro (h | ⟨k, ⟨h, hh, rfl⟩, hb⟩)
    · exact .inl h
    · exact .inr ⟨h, hh, hb⟩
  · rintro (h | ⟨h, hh, hb⟩)
    · exact .inl h
    · exact .inr ⟨_, ⟨h, hh, rfl⟩, hb⟩
theorem HdOk.kb (h : HdOk D w h') (hk : Kb S w w') (h1 : h'.hb ∉ S) (h2 : h'.sb ∉ S) (hD : ∀ b, D b → b ∉ S) : HdOk D w' h' :=
  ⟨h.bk.kb hk h1, h.ls.kb hk h2 hD, pr_ok ((encPr_ok h.pok).kb h.plie hk hD), h.plie⟩
theorem HdOk.imp (h : HdOk D w h') (hi : ∀ b, D b → D' b) : HdOk D' w h' := ⟨h.bk, h.ls.imp hi, h.pok, h.plie.imp hi⟩
theorem ItM.lt (hI : ItM D w X st steps) : ∀ b ∈ X.ctl, b < w.heap.size := fun b hb => by
  rcases ctl_mem.1 hb with rfl | ⟨h, hh, rfl | rfl⟩
  · exact hI.bk.lt
  · exact (hI.hds h hh).bk.lt
  · exact (hI.hds h hh).ls.bk.lt
theorem ItM.ne (hI : ItM D w X st steps) (hh : h ∈ X.Hs) : X.ib ≠ h.hb ∧ X.ib ≠ h.sb ∧ h.hb ≠ h.sb :=
  ⟨fun e => by have := (hI.hds h hh).bk; rw [← e] at this; exact absurd (bk_type hI.bk this) (by decide),
   fun e => by have := (hI.hds h hh).ls.bk; rw [← e] at this; exact absurd (bk_type hI.bk this) (by decide),
   fun e => by have := (hI.hds h hh).ls.bk; rw [← e] at this; exact absurd (bk_type (hI.hds h hh).bk this) (by decide)⟩
theorem rd_kb {A : Option Addr} {n : Nat} {xs : List Value} (h : Rd w w.heap.size A n xs) (hl : 0 < n → ∀ a, A = some a → D a.block) (hk : Kb S w w') (hD : ∀ b, D b → b ∉ S) : Rd w' w'.heap.size A n xs :=
  ⟨h.1, fun hn => by
    obtain ⟨b, o, e, hb, hc⟩ := h.2 hn
    exact ⟨b, o, e, Nat.lt_of_lt_of_le hb hk.size, fun i u hu => (hk.cell (p := ⟨b, o + i, none⟩) hb (hD b (hl hn ⟨b, o, none⟩ e))).trans (hc i u hu)⟩⟩
/-- What turns elsewhere leaves it as it is. -/
theorem ItM.kb (hI : ItM D w X st steps) (hk : Kb S w w') (hS : ∀ b ∈ X.ctl, b ∉ S) (hD : ∀ b, D b → b ∉ S) : ItM D w' X st steps :=
  ⟨hI.bk.kb hk (hS _ (ctl_mem.2 (.inl rfl))), rd_kb hI.row hI.rowD hk hD, hI.rowD,
    fun h hh => (hI.hds h hh).kb hk (hS _ (ctl_mem.2 (.inr ⟨h, hh, .inl rfl⟩))) (hS _ (ctl_mem.2 (.inr ⟨h, hh, .inr rfl⟩))) hD, hI.dj, hI.nD, hI.n⟩
theorem ItM.below (hI : ItM D w X st steps) (hb : Below w.heap.size w w') : ItM D w' X st steps := hI.kb (Kb.of_below hb) (S := []) (by simp) (by simp)
theorem set_map {α β : Type} (f : α → β) (l : List α) (j : Nat) (x y : α) (hj : l[j]? = some x) (hf : f y = f x) : (l.set j y).map f = l.map f := by
  apply List.ext_getElem?
  intro i
  rw [List.getElem?_map, List.getElem?_map, List.getElem?_set]
  split
  · rename_i e
    subst e
    rw [hj]
    split
    · rw [Option.map_some, Option.map_some, hf]
    · rename_i h1
      exact absurd (List.getElem?_eq_some_iff.1 hj).1 h1
  · rfl
/-- One head has moved. -/
theorem ItM.upd (hI : ItM D w X st steps) (hj : X.Hs[j]? = some h) (hk : Kb [X.ib, h.hb, h.sb] w w') (hg : Grows D w D' w') (he : h'.k = h.k)
    (hib : Bk w' X.ib 72 #[.int .i64 1, .slice X.A X.Hs.length X.c, .int .i64 (st' : Int), .int .i64 (steps' : Int)]) (hh : HdOk D' w' h') : ItM D' w' { X with Hs := X.Hs.set j h' } st' steps' := by
  have hK : (X.Hs.set j h').map Hd.k = X.Hs.map Hd.k := set_map Hd.k X.Hs j h h' hj he
  have hP : (X.Hs.set j h').map Hd.ptr = X.Hs.map Hd.ptr := set_map Hd.ptr X.Hs j h h' hj (by have : h'.hb = h.hb := congrArg (·.1) he; unfold Hd.ptr; rw [this])
  have hmem : h ∈ X.Hs := List.mem_of_getElem? hj
  have hctl : ∀ b ∈ [X.ib, h.hb, h.sb], b ∈ X.ctl := fun b hb => by
    simp only [List.mem_cons, List.not_mem_nil, or_false] at hb
    rcases hb with rfl | rfl | rfl
    · exact ctl_mem.2 (.inl rfl)
    · exact ctl_mem.2 (.inr ⟨h, hmem, .inl rfl⟩)
    · exact ctl_mem.2 (.inr ⟨h, hmem, .inr rfl⟩)
  have hDS : ∀ b, D b → b ∉ [X.ib, h.hb, h.sb] := fun b hb hm => hI.nD b (hctl b hm) hb
  have hlen : (X.Hs.set j h').length = X.Hs.length := List.length_set
  refine ⟨by dsimp only; rw [hlen]; exact hib, ?_, ?_, ?_, ?_, ?_, by dsimp only; rw [hlen]; exact hI.n⟩
  · dsimp only; rw [hlen, hP]; exact rd_kb hI.row hI.rowD hk hDS
  · dsimp only; rw [hlen]; exact fun hn a e => hg.old _ (hI.rowD hn a e)
  · intro h2 hm
    obtain ⟨i, hi, he2⟩ := List.getElem_of_mem hm
    dsimp only at hi he2
    rw [List.getElem_set] at he2
    split at he2
    · subst he2; exact hh
    · rename_i hij
      have hi2 : X.Hs[i]? = some h2 := by
        rw [hlen] at hi
        rw [List.getElem?_eq_getElem hi, he2]
      have hm2 : h2 ∈ X.Hs := List.mem_of_getElem? hi2
      have hk1 : X.K[i]? = some h2.k := by unfold It.K; rw [List.getElem?_map, hi2]; rfl
      have hk2 : X.K[j]? = some h.k := by unfold It.K; rw [List.getElem?_map, hj]; rfl
      have n1 := hI.ne hm2
      have a1 := (hI.hds h2 hm2)
      have a2 := (hI.hds h hmem)
      refine (a1.kb hk ?_ ?_ hDS).imp hg.old
      · simp only [List.mem_cons, List.not_mem_nil, or_false]
        rintro (e | e | e)
        · exact n1.1 e.symm
        · exact hij (hI.dj i j _ _ hk1 hk2 (.inl e)).symm
        · have := a2.ls.bk; rw [← e] at this; exact absurd (bk_type a1.bk this) (by decide)
      · simp only [List.mem_cons, List.not_mem_nil, or_false]
        rintro (e | e | e)
        · exact n1.2.1 e.symm
        · have := a2.bk; rw [← e] at this; exact absurd (bk_type a1.ls.bk this) (by decide)
        · exact hij (hI.dj i j _ _ hk1 hk2 (.inr e)).symm
  · unfold It.K; dsimp only; rw [hK]; exact hI.dj
  · intro b hb hD
    have hb' : b ∈ X.ctl := by unfold It.ctl It.K at hb ⊢; dsimp only at hb; rw [hK] at hb; exact hb
    rcases hg.new_ b hD with h1 | h1
    · exact hI.nD b hb' h1
    · have := hI.lt b hb'; omega
end
end Go.Proofs.Ytedelkifadonjaa
