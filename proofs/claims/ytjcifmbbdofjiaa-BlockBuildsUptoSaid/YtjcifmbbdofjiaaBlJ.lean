/- Layer 20: an iterator's small methods: the walks. -/
import Derived.Test.YtjcifmbbdofjiaaBlI
namespace Go.Proofs.Ytjcifmbbdofjiaa
open Go.RowKit Go.Lec Go.Op
set_option maxRecDepth 40000 in
theorem c_Iis_none (w : World) : Calls Try.prog 39 #[.pointer none] w fun e w' => e = .returned (.bool false) ∧ w' = w := by
  go_enter Try.func39, Try.ntmps39
  go_wp2
  go_ret
  exact ⟨rfl, rfl⟩
set_option maxRecDepth 40000 in
theorem c_Iis_no (w : World) (it : Nat) (q : w.cell? ⟨it, 0, none⟩ = some (.int .i64 0)) : Calls Try.prog 39 #[.pointer (some ⟨it, 0, none⟩)] w fun e w' => e = .returned (.bool false) ∧ w' = w := by
  go_enter Try.func39, Try.ntmps39
  go_wp2
  go_ret
  exact ⟨rfl, rfl⟩
set_option maxRecDepth 40000 in
theorem c_Iis (w : World) (it : Nat) (q : w.cell? ⟨it, 0, none⟩ = some (.int .i64 1)) : Calls Try.prog 39 #[.pointer (some ⟨it, 0, none⟩)] w fun e w' => e = .returned (.bool true) ∧ w' = w := by
  go_enter Try.func39, Try.ntmps39
  go_wp2
  go_ret
  exact ⟨rfl, rfl⟩
/-- What a step leaves: where the iterator stands then, and what it has looked at. -/
def StPost (w : World) (it L : Nat) (A : Option Addr) (n c : Nat) (X : List Ex) (ev : Nat) (k : Nat) (lk : Int) (e : Ending) (w' : World) : Prop :=
  e = .returned (.bool (decide (k < n))) ∧ Itr w' it L A n c X ev (k : Int) lk ∧ Kb [it] w w'
set_option maxRecDepth 40000 in
set_option maxHeartbeats 400000 in
theorem c_stand (w : World) {it L n c ev at_ : Nat} {A : Option Addr} {X : List Ex} {p lk : Int} (h : Itr w it L A n c X ev p lk) (ha : at_ ≤ 1099511627776) :
    Calls Try.prog 40 #[.pointer (some ⟨it, 0, none⟩), .int .i64 (at_ : Int)] w (StPost w it L A n c X ev (min at_ n) lk) := by
  have q := h.bk.cell
  have z := h.bk.frz
  have hle := h.le
  have hS : ∀ b ∈ [it], b < L := fun b hb => by simp only [List.mem_singleton] at hb; have := h.lt; omega
  by_cases hlt : n < at_
  · rw [Nat.min_eq_right (by omega)]
    have hlt' : (n : Int) < (at_ : Int) := by omega
    have h2 := h.bk.set_ 3 (.int .i64 (n : Int))
    have hk2 := (Kb.refl [it] w).setCell (p := ⟨it, 3, none⟩) (.inl (by simp)) (.int .i64 (n : Int))
    have r := h2.cell
    go_enter Try.func40, Try.ntmps40
    go_wp2
    go_quiet (fail)
    go_wp2
    go_ret
    have hk3 := hk2.drewN (nq)
    exact ⟨by simp, h.move hk3 hS (h2.drewN _), hk3⟩
  · rw [Nat.min_eq_left (by omega)]
    have hlt' : ¬ (n : Int) < (at_ : Int) := by omega
    have h2 := h.bk.set_ 3 (.int .i64 (at_ : Int))
    have hk2 := (Kb.refl [it] w).setCell (p := ⟨it, 3, none⟩) (.inl (by simp)) (.int .i64 (at_ : Int))
    have r := h2.cell
    go_enter Try.func40, Try.ntmps40
    go_wp2
    go_quiet (fail)
    go_wp2
    go_ret
    have hk3 := hk2.drewN (nq)
    exact ⟨by simp, h.move hk3 hS (h2.drewN _), hk3⟩
set_option maxRecDepth 40000 in
set_option maxHeartbeats 400000 in
theorem c_First (w : World) {it L n c ev : Nat} {A : Option Addr} {X : List Ex} {p lk : Int} (h : Itr w it L A n c X ev p lk) (h0 : 0 ≤ lk) (h1 : lk ≤ 1099511627776) :
    Calls Try.prog 21 #[.pointer (some ⟨it, 0, none⟩)] w (StPost w it L A n c X ev 0 (if 0 < n then lk + 1 else lk)) := by
  have q := h.bk.cell
  have z := h.bk.frz
  have hle := h.le
  have hlt := h.lt
  go_enter Try.func21, Try.ntmps21
  by_cases hn : 0 < n
  · have hn' : (0 : Int) < (n : Int) := by omega
    have h2 := h.bk.set_ 4 (.int .i64 (lk + 1))
    have hk2 := (Kb.refl [it] w).setCell (p := ⟨it, 4, none⟩) (.inl (by simp)) (.int .i64 (lk + 1))
    have hI := h.move hk2 (fun b hb => by simp only [List.mem_singleton] at hb; omega) h2
    have HC := Lib.hid (c_stand _ (at_ := 0) hI (by omega))
    rw [if_pos hn]
    clear h2
    go_wp2_with (first | (go_at_call 39; refine (c_Iis w it (q 0)).mono ?_; rintro e w' ⟨rfl, rfl⟩) | (go_at_call 40; refine HC.out.mono ?_; rintro e w' ⟨rfl, hI', hk'⟩))
    go_ret
    rw [Nat.min_eq_left (Nat.zero_le _)] at hI'
    exact ⟨by simp [hn], hI', hk2.trans hk' (fun b hb => .inl hb)⟩
  · have hn' : ¬ (0 : Int) < (n : Int) := by omega
    have HC := Lib.hid (c_stand _ (at_ := 0) h (by omega))
    rw [if_neg hn]
    go_wp2_with (first | (go_at_call 39; refine (c_Iis w it (q 0)).mono ?_; rintro e w' ⟨rfl, rfl⟩) | (go_at_call 40; refine HC.out.mono ?_; rintro e w' ⟨rfl, hI', hk'⟩))
    go_ret
    rw [Nat.min_eq_left (Nat.zero_le _)] at hI'
    exact ⟨by simp [hn], hI', hk'⟩
set_option maxRecDepth 40000 in
set_option maxHeartbeats 400000 in
theorem c_Looked (w : World) {it L n c ev : Nat} {A : Option Addr} {X : List Ex} {p lk : Int} (h : Itr w it L A n c X ev p lk) :
    Calls Try.prog 20 #[.pointer (some ⟨it, 0, none⟩)] w fun e w' => e = .returned (.int .i64 lk) ∧ w' = w := by
  have q := h.bk.cell
  go_enter Try.func20, Try.ntmps20
  go_wp2_with (first | (go_at_call 39; refine (c_Iis w it (q 0)).mono ?_; rintro e w' ⟨rfl, rfl⟩))
  go_ret
  exact ⟨rfl, rfl⟩
/-- A pair in memory of its own. -/
def PairIn (w : World) (k v : List UInt8) (u : Value) (w' : World) : Prop := ∃ m : Pr, u = .agg #[.slice m.A1 m.n1 m.c1, .slice m.A2 m.n2 m.c2] ∧ m.ok w' w'.heap.size ∧ m.hi w.heap.size ∧ m.pl = (k, v) ∧ m.n1 ≤ 1048576 ∧ m.n2 ≤ 1048576 ∧ Below w.heap.size w w'
set_option maxRecDepth 40000 in
set_option maxHeartbeats 1600000 in
theorem c_pair (w : World) {it L n c ev at_ : Nat} {A : Option Addr} {X : List Ex} {p lk : Int} {x : En} (h : Itr w it L A n c X ev p lk) (ha : (X.map Ex.en)[at_]? = some x) :
    Calls Try.prog 43 #[.pointer (some ⟨it, 0, none⟩), .int .i64 (at_ : Int)] w fun e w' => ∃ u, e = .returned u ∧ PairIn w x.key x.val u w' := by
  have q := h.bk.cell
  have hle := h.le
  have hXl := h.els.2.1
  have hat : at_ < n := by
    have := (List.getElem?_eq_some_iff.1 ha).1
    rw [List.length_map] at this
    omega
  have hati : (at_ : Int) < (n : Int) := by omega
  obtain ⟨b, o, m, rfl, hbB, hmk, _, hmok, hcell⟩ := h.els.at hat
  have hxm : x = m.en := by
    rw [List.getElem?_map, hmk] at ha
    exact (Option.some.inj ha).symm
  subst hxm
  obtain ⟨h1, h2, hc1, hc2, hn1, hn2⟩ := ex_ok hmok
  have c1' := hcell w (Below.refl _ _) 1 _ rfl
  have c2 := hcell w (Below.refl _ _) 2 _ rfl
  rw [show encEx.k = 5 from rfl] at c1' c2
  have c1a := (World.cell?_alloc_lt w (.cells #[.slice none 0 0, .slice none 0 0] 35) ⟨b, o + at_ * 5 + 1, none⟩ hbB).trans c1'
  have c2a := (World.cell?_alloc_lt w (.cells #[.slice none 0 0, .slice none 0 0] 35) ⟨b, o + at_ * 5 + 2, none⟩ hbB).trans c2
  have q1a := (World.cell?_alloc_lt w (.cells #[.slice none 0 0, .slice none 0 0] 35) ⟨it, 1, none⟩ h.bk.lt).trans (q 1)
  have hb0 := ((Below.refl w.heap.size w).alloc (Nat.le_refl _) (.cells #[.slice none 0 0, .slice none 0 0] 35)).alloc (by simp) (.cells #[.slice m.A1 m.n1 m.c1, .slice m.A2 m.n2 m.c2] 35)
  have bT := (Bk.new_ w 35 #[.slice none 0 0, .slice none 0 0]).alloc (.cells #[.slice m.A1 m.n1 m.c1, .slice m.A2 m.n2 m.c2] 35)
  have bS := Bk.new_ (w.alloc (.cells #[.slice none 0 0, .slice none 0 0] 35)) 35 #[.slice m.A1 m.n1 m.c1, .slice m.A2 m.n2 m.c2]
  have hz0 : ((w.alloc (.cells #[.slice none 0 0, .slice none 0 0] 35)).alloc (.cells #[.slice m.A1 m.n1 m.c1, .slice m.A2 m.n2 m.c2] 35)).heap.size = w.heap.size + 2 := by simp
  simp only [World.size_alloc] at bS
  have hl1 := h1.1
  have hl2 := h2.1
  rw [bcs_length] at hl1 hl2
  have Hl1 := Lib.hid hl1
  have Hl2 := Lib.hid hl2
  clear hl1 hl2 hXl hmk hcell hmok ha c1' c2
  go_enter Try.func43, Try.ntmps43
  go_upto_region 2 with fail
  obtain ⟨W0, hW0⟩ : ∃ W, W = (w.alloc (.cells #[.slice none 0 0, .slice none 0 0] 35)).alloc (.cells #[.slice m.A1 m.n1 m.c1, .slice m.A2 m.n2 m.c2] 35) := ⟨_, rfl⟩
  rw [← hW0] at bS bT hb0 hz0 ⊢
  clear hW0 c1a c2a q h q1a
  have hBW : w.heap.size ≤ W0.drew.heap.size := by show w.heap.size ≤ W0.heap.size; omega
  have HC1 := Lib.hid (c_Clone W0.drew (c := m.c1) (h1.below hb0 (Nat.le_refl _)).drew hBW (by omega))
  have HC2 : ∀ W, Below W0.drew.heap.size W0.drew W → Calls Try.prog 61 #[.slice m.A2 m.n2 m.c2] W (RetB 5 W m.vl) := fun W h => c_Clone W (c := m.c2) ((h2.below hb0 (Nat.le_refl _)).drew.below h hBW) (Nat.le_trans hBW h.size) (by omega)
  have HC2 := Lib.hid HC2
  have HC := Lib.hid (fun (wc : World) (hk : Kb [w.heap.size] W0 wc) => (⟨(hk.cell (p := ⟨w.heap.size + 1, 0, none⟩) (by dsimp only; omega) (by simp)).trans (bS.cell 0), (hk.cell (p := ⟨w.heap.size + 1, 1, none⟩) (by dsimp only; omega) (by simp)).trans (bS.cell 1)⟩ :
    wc.cell? ⟨w.heap.size + 1, 0, none⟩ = some (.slice m.A1 m.n1 m.c1) ∧ wc.cell? ⟨w.heap.size + 1, 1, none⟩ = some (.slice m.A2 m.n2 m.c2)))
  go_region_held3 (fun W => W.cell? ⟨w.heap.size + 1, 0, none⟩ = some (.slice m.A1 m.n1 m.c1) ∧ W.cell? ⟨w.heap.size + 1, 1, none⟩ = some (.slice m.A2 m.n2 m.c2))
    ((refine HC.out _ ?_; first | exact (Kb.refl _ _).drew | exact Kb.of_below hq1 | exact Kb.of_below hq2 | exact ((Kb.of_below hq2).setCell (.inl (by simp)) _).setCell (.inl (by simp)) _ | exact (Kb.of_below hq2).setCell (.inl (by simp)) _))
    (first
      | (go_at_call 61; (with_reducible refine HC1.out.mono ?_); rintro e w1 ⟨v1, rfl, ho1, hb1⟩; obtain ⟨A1, c1, rfl, hc1'⟩ := ho1.shapeN (n := m.key.length) (bcs_length _); have hq1 : Below W0.heap.size W0 w1 := (Below.refl _ _).drew.trans (hb1.mono (by show _ ≤ W0.heap.size; omega)))
      | (go_at_call 61; (with_reducible refine (HC2.out _ hb1).mono ?_); rintro e w2 ⟨v2, rfl, ho2, hb2⟩; obtain ⟨A2, c2, rfl, hc2'⟩ := ho2.shapeN (n := m.vl.length) (bcs_length _); have hq2 : Below W0.heap.size W0 w2 := hq1.trans (hb2.mono (by have := hq1.size; omega)); have hz2 := hb2.size; have bT2 := (bT.drew.below hb1 (by show _ < W0.heap.size; omega)).below hb2 (by have := hb1.size; have h : W0.heap.size ≤ w1.heap.size := this; omega); have t0 := bT2.cell 0; have t1 := bT2.cell 1; have y0 := bT2.frz 0; have y1 := bT2.frz 1))
  have bT5 := (bT2.set_ 0 (.slice A1 m.key.length c1)).set_ 1 (.slice A2 m.vl.length c2)
  have g0 := bT5.cell 0
  have g1 := bT5.cell 1
  have hs1 : W0.drew.heap.size = w.heap.size + 2 := hz0
  have hs2 := hb1.size
  have o1 := ownsRow_setCell_below (ownsRow_setCell_below (ho1.below hb2 (Nat.le_refl _)) (a := ⟨w.heap.size, 0, none⟩) (by dsimp only; omega) (.slice A1 m.key.length c1)) (a := ⟨w.heap.size, 1, none⟩) (by dsimp only; omega) (.slice A2 m.vl.length c2)
  have o2 := ownsRow_setCell_below (ownsRow_setCell_below ho2 (a := ⟨w.heap.size, 0, none⟩) (by dsimp only; omega) (.slice A1 m.key.length c1)) (a := ⟨w.heap.size, 1, none⟩) (by dsimp only; omega) (.slice A2 m.vl.length c2)
  have hbf : Below w.heap.size w ((w2.setCell ⟨w.heap.size, 0, none⟩ (.slice A1 m.key.length c1)).setCell ⟨w.heap.size, 1, none⟩ (.slice A2 m.vl.length c2)) := ((hb0.trans (hq2.mono (by omega))).setCell (Nat.le_refl _) _).setCell (Nat.le_refl _) _
  have hge1 := fun a ha => (Lec.Own.ge ho1 a ha)
  have hge2 := fun a ha => (Lec.Own.ge ho2 a ha)
  clear t0 t1 y0 y1
  go_wp2
  refine bodyPost_ret (v := .agg #[.slice A1 m.key.length c1, .slice A2 m.vl.length c2]) ?_ rfl ?_
  · simp [results, Try.results43, go_sem, g0, g1]
  · have hl1 := Hl1.out
    have hl2 := Hl2.out
    exact ⟨_, rfl, ⟨A1, m.key.length, c1, m.key, A2, m.vl.length, c2, m.vl⟩, rfl, ⟨Lec.Own.rd o1, Lec.Own.rd o2, hc1', hc2', by dsimp only; omega, by dsimp only; omega⟩, ⟨fun a ha => by have := hge1 a ha; omega, fun a ha => by have := hge2 a ha; omega⟩, rfl, by dsimp only; omega, by dsimp only; omega, hbf⟩
end Go.Proofs.Ytjcifmbbdofjiaa
/- Layer 20: an iterator's Pair: the walk. -/
namespace Go.Proofs.Ytjcifmbbdofjiaa
open Go.RowKit Go.Lec Go.Op
/-- What Pair answers. -/
def PairPost (w : World) (l : List En) (p : Int) (e : Ending) (w' : World) : Prop :=
  (∃ x, 0 ≤ p ∧ l[p.toNat]? = some x ∧ ∃ u, e = .returned (.tuple #[u, .bool true]) ∧ PairIn w x.key x.val u w') ∨
  (¬ (0 ≤ p ∧ p < l.length) ∧ e = .returned (.tuple #[.agg #[.slice none 0 0, .slice none 0 0], .bool false]) ∧ Below w.heap.size w w')
set_option maxRecDepth 40000 in
set_option maxHeartbeats 800000 in
theorem c_Pair (w : World) {it L n c ev : Nat} {A : Option Addr} {X : List Ex} {p lk : Int} (h : Itr w it L A n c X ev p lk) :
    Calls Try.prog 26 #[.pointer (some ⟨it, 0, none⟩)] w (PairPost w (X.map Ex.en) p) := by
  have hle := h.le
  have hXl : (X.map Ex.en).length = n := by rw [List.length_map]; exact h.els.2.1
  have lit := h.bk.lt
  have hb1 := (Below.refl w.heap.size w).alloc (Nat.le_refl _) (.cells #[.slice none 0 0, .slice none 0 0] 35)
  have hI1 := h.below hb1
  have bT := Bk.new_ w 35 #[.slice none 0 0, .slice none 0 0]
  have hz0 : (w.alloc (.cells #[.slice none 0 0, .slice none 0 0] 35)).heap.size = w.heap.size + 1 := by simp
  obtain ⟨W1, hW1⟩ : ∃ W, W = w.alloc (.cells #[.slice none 0 0, .slice none 0 0] 35) := ⟨_, rfl⟩
  rw [← hW1] at hb1 hI1 bT hz0
  have q := hI1.bk.cell
  have r := bT.cell
  have z := bT.frz
  by_cases h0 : p < 0
  · have hd : decide (p < 0) = true := decide_eq_true h0
    go_enter Try.func26, Try.ntmps26
    go_wp2
    rw [← hW1]
    clear hW1
    go_quiet (first | (go_at_call 39; exact Calls.quiet_of_same (c_Iis _ it (q 0))))
    have hbf := ((belowN hb1 nq).setCell (p := ⟨w.heap.size, 0, none⟩) (Nat.le_refl _) (.slice none 0 0)).setCell (p := ⟨w.heap.size, 1, none⟩) (Nat.le_refl _) (.slice none 0 0)
    have bT2 := ((bT.drewN nq).set_ 0 (.slice none 0 0)).set_ 1 (.slice none 0 0)
    have g0 := bT2.cell 0
    have g1 := bT2.cell 1
    clear r
    have r := (bT.drewN nq).cell
    go_wp2
    refine bodyPost_ret (v := .tuple #[.agg #[.slice none 0 0, .slice none 0 0], .bool false]) (by simp [results, Try.results26, go_sem, g0, g1]) rfl ?_
    exact .inr ⟨by omega, rfl, hbf⟩
  · have hd : decide (p < 0) = false := decide_eq_false h0
    by_cases h2 : (n : Int) ≤ p
    · have hd2 : decide ((n : Int) ≤ p) = true := decide_eq_true h2
      go_enter Try.func26, Try.ntmps26
      go_wp2
      rw [← hW1]
      clear hW1
      go_quiet (first | (go_at_call 39; exact Calls.quiet_of_same (c_Iis _ it (q 0))))
      have hbf := ((belowN hb1 nq).setCell (p := ⟨w.heap.size, 0, none⟩) (Nat.le_refl _) (.slice none 0 0)).setCell (p := ⟨w.heap.size, 1, none⟩) (Nat.le_refl _) (.slice none 0 0)
      have bT2 := ((bT.drewN nq).set_ 0 (.slice none 0 0)).set_ 1 (.slice none 0 0)
      have g0 := bT2.cell 0
      have g1 := bT2.cell 1
      clear r
      have r := (bT.drewN nq).cell
      go_wp2
      refine bodyPost_ret (v := .tuple #[.agg #[.slice none 0 0, .slice none 0 0], .bool false]) (by simp [results, Try.results26, go_sem, g0, g1]) rfl ?_
      exact .inr ⟨by omega, rfl, hbf⟩
    · have hd2 : decide ((n : Int) ≤ p) = false := decide_eq_false h2
      obtain ⟨k, rfl⟩ : ∃ k : Nat, p = (k : Int) := ⟨p.toNat, by omega⟩
      have hk : k < n := by omega
      obtain ⟨x, hx⟩ : ∃ x, (X.map Ex.en)[k]? = some x := ⟨_, List.getElem?_eq_getElem (by omega)⟩
      have Hx := Lib.hid hx
      have HC := Lib.hid (fun nq : Nat => c_pair (W1.drewN nq) (hI1.kb (S := []) ((Kb.refl _ _).drewN nq) (fun b hb => by cases hb)) hx)
      clear hx
      go_enter Try.func26, Try.ntmps26
      go_wp2
      rw [← hW1]
      clear hW1
      go_quiet (first | (go_at_call 39; exact Calls.quiet_of_same (c_Iis _ it (q 0))))
      go_wp2_with (first | (go_at_call 43; refine (HC.out nq).mono ?_; rintro e w1 ⟨u, rfl, m, rfl, hm, hmh, hml, hm1, hm2, hb2⟩; have hz1 : w.heap.size + 1 ≤ w1.heap.size := (by have := hb2.size; rw [← hz0]; exact this); have bT1 := (bT.drewN nq).below hb2 (by show w.heap.size < W1.heap.size; omega); have r1 := bT1.cell; have z1 := bT1.frz))
      have bT2 := (bT1.set_ 0 (.slice m.A1 m.n1 m.c1)).set_ 1 (.slice m.A2 m.n2 m.c2)
      have g0 := bT2.cell 0
      have g1 := bT2.cell 1
      refine bodyPost_ret (v := .tuple #[.agg #[.slice m.A1 m.n1 m.c1, .slice m.A2 m.n2 m.c2], .bool true]) (by simp [results, Try.results26, go_sem, g0, g1]) rfl ?_
      have hmh' : m.hi (w.heap.size + 1) := hmh.mono (by rw [← hz0]; exact Nat.le_refl _)
      refine .inl ⟨x, by omega, Hx.out, _, rfl, m, rfl, ((hm.setLow hmh' (p := ⟨w.heap.size, 0, none⟩) (by dsimp only; omega) _).setLow hmh' (p := ⟨w.heap.size, 1, none⟩) (by dsimp only; omega) _).more (by simp), hmh'.mono (by omega), hml, hm1, hm2, ?_⟩
      exact (((belowN hb1 nq).trans (hb2.mono (by show w.heap.size ≤ W1.heap.size; omega))).setCell (Nat.le_refl _) _).setCell (Nat.le_refl _) _
end Go.Proofs.Ytjcifmbbdofjiaa
