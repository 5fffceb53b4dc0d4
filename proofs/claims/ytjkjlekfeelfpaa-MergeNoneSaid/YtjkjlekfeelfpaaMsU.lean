/- Layer 23: Next, Pair, Steps of an iterator: the contracts. -/
import Derived.Test.YtjkjlekfeelfpaaMsR
namespace Go.Proofs.Ytjkjlekfeelfpaa
open Go.RowKit Go.Lec Go.Op
set_option maxRecDepth 100000 in
theorem c_INext2 (w : World) {D : Nat → Prop} {X : It} {steps : Nat} (hI : ItM D w X 2 steps) :
    Calls Try.prog 19 #[.pointer (some ⟨X.ib, 0, none⟩)] w fun e w' => e = .returned (.bool false) ∧ w' = w := by
  have HC := Lib.hid (c_isI w hI.bk rfl)
  have q2 := hI.bk.cell 2
  clear hI
  go_enter Try.func19, Try.ntmps19
  go_wp2_with (first | (go_at_call 36; (refine HC.out.mono ?_); rintro e w1 ⟨rfl, rfl⟩))
  go_ret
  exact ⟨rfl, rfl⟩
set_option maxRecDepth 100000 in
theorem c_INext0 (w : World) {D : Nat → Prop} {X : It} {steps : Nat} (hI : ItM D w X 0 steps) (hst : steps ≤ 2305843009213693952) :
    Calls Try.prog 19 #[.pointer (some ⟨X.ib, 0, none⟩)] w (ToI D w X steps noneD) := by
  have HC := Lib.hid (c_isI w hI.bk rfl)
  have q2 := hI.bk.cell 2
  have HF := Lib.hid (c_IFirst w hI hst)
  unfold ToI at HF ⊢
  clear hI
  go_enter Try.func19, Try.ntmps19
  go_wp2_with (first | (go_at_call 36; (refine HC.out.mono ?_); rintro e w1 ⟨rfl, rfl⟩) | (go_at_call 18; (refine HF.out.mono ?_); rintro e w2 ⟨rfl, h2⟩))
  go_ret
  exact ⟨rfl, h2⟩
/-- One head, one step on. -/
theorem up_at {Dn : List UInt8 → Bool} (hD : Down Dn) {h : Hd} (hs : Srt h.l) (hl : h.s.L.length = h.s.n) (ha : StAt h (posD Dn h.l)) {key : List UInt8} (hk : Dn key = false) (hmin : ∀ q, h.is = true → q = h.p.pl → bytesLess q.1 key = false) :
    (h.is = true → h.p.key = key → posD Dn h.l < h.s.n ∧ posD (upD key) h.l = posD Dn h.l + 1) ∧ ((h.is = false ∨ h.p.key ≠ key) → posD (upD key) h.l = posD Dn h.l) := by
  have hll : h.l.length = h.s.n := by unfold Hd.l; rw [List.length_map, hl]
  have hat : ∀ hlt : posD Dn h.l < h.l.length, h.l[posD Dn h.l] = h.p.pl := fun hlt => by
    have hlt' : posD Dn h.l < h.s.L.length := by rw [hl, ← hll]; exact hlt
    rw [ha.p _ (List.getElem?_eq_getElem hlt')]
    exact List.getElem_map Pr.pl
  have hup := up_list hD hs hk (fun hlt => by
    rw [hat hlt]
    exact hmin _ (by rw [ha.is]; simpa [hll] using hlt) rfl)
  rw [hup]
  constructor
  · intro h1 h2
    rw [ha.is] at h1
    have h1 : posD Dn h.l < h.s.n := by simpa using h1
    refine ⟨h1, ?_⟩
    rw [dif_pos (by rw [hll]; exact h1), if_pos (by rw [hat (by rw [hll]; exact h1)]; exact h2)]
  · intro h1
    split
    · rename_i hlt
      rw [if_neg]
      rw [hat hlt]
      rcases h1 with h1 | h1
      · rw [ha.is] at h1
        have : ¬ posD Dn h.l < h.s.n := by simpa using h1
        rw [hll] at hlt
        exact absurd hlt this
      · exact h1
    · rfl
set_option maxRecDepth 100000 in
set_option maxHeartbeats 1600000 in
theorem c_INext1 (w : World) {D : Nat → Prop} {X : It} {steps i : Nat} {Dn : List UInt8 → Bool} {p : PairB} (hI : ItM D w X 1 steps) (hst : steps ≤ 2305843009213693952) (hD : Down Dn) (hat : AtD Dn X.Hs) (hsr : ∀ l ∈ lsK X.K, Srt l) (hbest : bestF (headsD Dn (lsK X.K)) 0 none = some (i, p)) :
    Calls Try.prog 19 #[.pointer (some ⟨X.ib, 0, none⟩)] w (ToI D w X steps (upD p.1)) := by
  have hn := hI.n
  have hheads : heads X.Hs = headsD Dn (lsK X.K) := heads_at hat.at_ fun x hx => (hI.hds x hx).ls.len
  have hlen : ∀ x ∈ X.Hs, x.s.L.length = x.s.n := fun x hx => (hI.hds x hx).ls.len
  have hok := best_ok (headsD Dn (lsK X.K))
  rw [hbest] at hok
  obtain ⟨hi1, hi2, hi3⟩ := hok
  rw [← hheads] at hi2 hi3 hbest
  have hDp : Dn p.1 = false := by
    unfold heads at hi2
    rw [List.getElem?_map] at hi2
    cases hg : X.Hs[i]? with
    | none => rw [hg] at hi2; cases hi2
    | some g =>
      rw [hg] at hi2
      have hm := List.mem_of_getElem? hg
      have ha := hat.at_ g hm
      have his : g.is = true := by
        cases h : g.is with
        | true => rfl
        | false => rw [Option.map_some, h] at hi2; cases hi2
      rw [Option.map_some, his] at hi2
      have hpe : g.p.pl = p := Option.some.inj (Option.some.inj hi2)
      rw [ha.is] at his
      have hlt : posD Dn g.l < g.s.n := by simpa using his
      have hll := hlen g hm
      have hlt' : posD Dn g.l < g.s.L.length := by omega
      have := ha.p _ (List.getElem?_eq_getElem hlt')
      have hlt2 : posD Dn g.l < g.l.length := by unfold Hd.l at hlt' ⊢; rw [List.length_map]; exact hlt'
      have h3 := posD_at (D := Dn) (l := g.l) hlt2
      have e : g.l[posD Dn g.l] = (g.s.L[posD Dn g.l]).pl := List.getElem_map Pr.pl
      rw [← hpe, this, ← e]
      exact h3
  have hmin : ∀ (x : Hd), x ∈ X.Hs → x.is = true → bytesLess x.p.pl.1 p.1 = false := fun x hx his => by
    obtain ⟨j, hj, he⟩ := List.getElem_of_mem hx
    refine (hi3 j x.p.pl (by unfold heads; rw [List.length_map]; exact hj) ?_).1
    unfold heads
    rw [List.getElem?_map, List.getElem?_eq_getElem hj, he, Option.map_some, his]; rfl
  have HUp := Lib.hid (fun (x : Hd) (hx : x ∈ X.Hs) => up_at hD (hsr x.l (List.mem_map.2 ⟨x.k, List.mem_map.2 ⟨x, hx, rfl⟩, rfl⟩)) (hlen x hx) (hat.at_ x hx) hDp (fun q his e => by rw [e]; exact hmin x hx his))
  have Hat := Lib.hid hat
  unfold ToI
  clear hheads hlen hi1 hi2 hi3 hDp hmin hsr hat
  have hL := c_least w hI
  unfold LeastP at hL
  rw [hbest] at hL
  obtain ⟨ib, A, cA, Hs⟩ := X
  have HC := Lib.hid (c_isI w hI.bk rfl)
  have HL := Lib.hid hL
  have q1 := hI.bk.cell 1
  have q2 := hI.bk.cell 2
  dsimp only at hn q1 q2 HC HL HUp Hat
  obtain ⟨n, hnn⟩ : ∃ n, n = Hs.length := ⟨_, rfl⟩
  rw [← hnn] at hn q1
  have Hn := Lib.hid hnn
  have HI := Lib.hid hI
  clear hnn hL hbest hI
  go_enter Try.func19, Try.ntmps19
  go_wp2_with (first | (go_at_call 36; (refine HC.out.mono ?_); rintro e w1 ⟨rfl, rfl⟩) | (go_at_call 37; (refine HL.out.mono ?_); rintro e w2 ⟨a, ⟨g, hg1, hg2, hg3, rfl⟩, rfl, hb2⟩; have h2 := HI.out.below hb2; have hgo := h2.hds g (List.mem_of_getElem? hg1); have hg0 := HI.out.hds g (List.mem_of_getElem? hg1); have qg := hgo.bk.cell 1; have qi := h2.bk.cell 1; have H2 := Lib.hid h2; have HK := Lib.hid (And.intro hg0.pok.1 hg0.plie); have Hg3 := Lib.hid hg3; dsimp only at qi; rw [← Hn.out] at qi; clear h2 hgo hg0 hg1 hg2 hg3 HL HC))
  go_loopw [34] (fun v34 wr => ∃ (k : Nat) (D' : Nat → Prop) (Hs' : List Hd) (steps' : Nat), k ≤ n ∧ v34 = .int .i64 (k : Int) ∧ steps' ≤ steps + k ∧ Pre D w1 ⟨ib, A, cA, Hs⟩ 1 steps' (upD p.1) k D' Hs' wr) (fun v34 _ => n - (intOf v34).toNat)
  case atStart => exact ⟨0, D, Hs, steps, Nat.zero_le _, rfl, Nat.le_refl _, (Pre.zero HI.out _).grow hb2⟩
  case round =>
    obtain ⟨k, D', Hs', steps', hk, rfl, hsp, hP⟩ := hrel
    clear q1 q2 qg qi
    by_cases hlt : k < n
    · have hI' := hP.it
      have hlen : Hs'.length = n := by have := len_k hP.k; dsimp only at this; rw [this, Hn.out]
      obtain ⟨h, hh⟩ : ∃ h, Hs'[k]? = some h := ⟨_, List.getElem?_eq_getElem (by omega)⟩
      have hm := List.mem_of_getElem? hh
      have hho := hI'.hds h hm
      have hh0 : Hs[k]? = some h := by rw [← hP.rest k (Nat.le_refl _)]; exact hh
      have hst0 := Hat.out.at_ h (List.mem_of_getElem? hh0)
      have hup := HUp.out h (List.mem_of_getElem? hh0)
      obtain ⟨b, o, hA, hbB, hc⟩ := hI'.row.2 (by dsimp only; omega)
      dsimp only at hA
      subst hA
      have c0 : wr.cell? ⟨b, o + k, none⟩ = some (.pointer (some ⟨h.hb, 0, none⟩)) := hc k (.pointer (some ⟨h.hb, 0, none⟩)) (by rw [List.getElem?_map, hh]; rfl)
      have c1 := hho.bk.cell 0
      have c2 := hho.bk.cell 1
      have c3 := hho.bk.cell 3
      have hkr := rd_kb (D := D) HK.out.1 (fun hn a ha => HK.out.2 _ List.mem_cons_self hn a ha) hP.kb (fun x hx hm => HI.out.nD x hm hx)
      have hpk : p.1 = g.p.key := by rw [← Hg3.out]; rfl
      have HE := Lib.hid (c_bEqual wr (c := h.p.c1) (c2 := g.p.c1) hho.pok.1 hkr)
      have HP := Lib.hid hP
      have Hh := Lib.hid hh
      have Hst := Lib.hid hst0
      rw [hpk] at hup
      have Hpk := Lib.hid hpk
      cases his : h.is with
      | false =>
        have hq := hup.2 (.inl his)
        have HSt := Lib.hid (show StAt h (posD (upD p.1) h.l) by rw [hpk, hq]; exact hst0)
        rw [his] at c3
        clear hc hho hI' hP hh hm hh0 hst0 hup hkr hpk hq his
        go_wp2
        refine ⟨⟨k + 1, D', Hs', steps', by omega, by go_num, by omega, HP.out.stay Hh.out HSt.out (Below.refl _ _)⟩, by simp [intOf]; omega⟩
      | true =>
        by_cases hke : h.p.key = g.p.key
        · have hq := hup.1 his hke
          have HM := c_mvNext hI' hh (by omega) hst0.at_ hq.1
          unfold MvP at HM
          have HM := Lib.hid HM
          have Hq := Lib.hid (show posD Dn h.l + 1 = posD (upD p.1) h.l by rw [hpk]; exact hq.2.symm)
          rw [decide_eq_true hke] at HE
          rw [his] at c3
          clear hc hho hI' hP hh hm hh0 hst0 hup hkr hpk hq his hke
          go_wp2_with (first | (go_at_call 35; (refine HE.out.mono ?_); rintro e w3 ⟨rfl, rfl⟩) | (go_at_call 38; (refine HM.out.mono ?_); rintro e w4 ⟨rfl, D2, h2, hI2, ht, hg, hkb⟩))
          refine ⟨⟨k + 1, D2, Hs'.set k h2, steps' + 1, by omega, by go_num, by omega, HP.out.next Hh.out hI2 ht Hq.out hg hkb⟩, by simp [intOf]; omega⟩
        · have hq := hup.2 (.inr hke)
          have HSt := Lib.hid (show StAt h (posD (upD p.1) h.l) by rw [hpk, hq]; exact hst0)
          rw [decide_eq_false hke] at HE
          rw [his] at c3
          clear hc hho hI' hP hh hm hh0 hst0 hup hkr hpk hq his hke
          go_wp2_with (first | (go_at_call 35; (refine HE.out.mono ?_); rintro e w3 ⟨rfl, rfl⟩))
          refine ⟨⟨k + 1, D', Hs', steps', by omega, by go_num, by omega, HP.out.stay Hh.out HSt.out (Below.refl _ _)⟩, by simp [intOf]; omega⟩
    · obtain rfl : k = n := by omega
      have HSt := c_settle _ hP.it
      unfold SettleP at HSt
      have HSt := Lib.hid HSt
      have HP := Lib.hid hP
      clear hP
      go_wp2_with (first | (go_at_call 39; (refine HSt.out.mono ?_); rintro e w2 ⟨rfl, hI2, hkb⟩))
      go_ret
      exact ⟨(by rw [← HP.out.heads Hn.out]; rfl), D', Hs', steps', by have := Hn.out; show steps' ≤ steps + Hs.length; omega, HP.out.to_ Hn.out hI2 hkb⟩
set_option maxRecDepth 100000 in
theorem c_ISteps (w : World) {D : Nat → Prop} {X : It} {st steps : Nat} (hI : ItM D w X st steps) :
    Calls Try.prog 21 #[.pointer (some ⟨X.ib, 0, none⟩)] w fun e w' => e = .returned (.int .i64 (steps : Int)) ∧ w' = w := by
  have HC := Lib.hid (c_isI w hI.bk rfl)
  have q2 := hI.bk.cell 3
  clear hI
  go_enter Try.func21, Try.ntmps21
  go_wp2_with (first | (go_at_call 36; (refine HC.out.mono ?_); rintro e w1 ⟨rfl, rfl⟩))
  go_ret
  exact ⟨rfl, rfl⟩
/-- No pair. -/
def NoPair (w : World) (e : Ending) (w' : World) : Prop := e = .returned (.tuple #[.agg #[.slice none 0 0, .slice none 0 0], .bool false]) ∧ Below w.heap.size w w'
set_option maxRecDepth 100000 in
theorem c_IPairN (w : World) {D : Nat → Prop} {X : It} {st steps : Nat} (hI : ItM D w X st steps) (hst : st ≠ 1) (hs2 : st ≤ 2) :
    Calls Try.prog 17 #[.pointer (some ⟨X.ib, 0, none⟩)] w (NoPair w) := by
  have hb0 := (Below.refl w.heap.size w).alloc (Nat.le_refl _) (.cells #[.slice none 0 0, .slice none 0 0] 42)
  have hI0 := hI.below hb0
  have N := Bk.new_ w 42 #[.slice none 0 0, .slice none 0 0]
  obtain ⟨W, hW⟩ : ∃ W, W = w.alloc (.cells #[.slice none 0 0, .slice none 0 0] 42) := ⟨_, rfl⟩
  rw [← hW] at hI0 N hb0
  have HC := Lib.hid (c_isI W hI0.bk rfl)
  have q2 := hI0.bk.cell 2
  have x0 := N.cell 0
  have x1 := N.cell 1
  have y0 := N.frz 0
  have y1 := N.frz 1
  have hne : decide ((st : Int) = 1) = false := by simp; omega
  have hne2 : ((st : Int) == 1) = false := by simp; omega
  have hne3 : ((st : Int) != 1) = true := by simp; omega
  have Hb := Lib.hid hb0
  have HN := Lib.hid N
  clear hI hI0 hb0 N hst
  go_enter Try.func17, Try.ntmps17
  go_wp2_with fail
  rw [← hW]
  clear hW
  refine HC.out.mono ?_
  rintro e w1 ⟨rfl, rfl⟩
  go_wp2
  have N2 := (HN.out.set_ 0 (.slice none 0 0)).set_ 1 (.slice none 0 0)
  have g0 := N2.cell 0
  have g1 := N2.cell 1
  exact bodyPost_ret (v := .tuple #[.agg #[.slice none 0 0, .slice none 0 0], .bool false]) (by simp [results, Try.results17, go_sem, g0, g1]) rfl ⟨rfl, (Hb.out.setCell (by dsimp only; omega) _).setCell (by dsimp only; omega) _⟩
end Go.Proofs.Ytjkjlekfeelfpaa
/- Layer 23: Pair of an iterator; how one is made (New). -/
namespace Go.Proofs.Ytjkjlekfeelfpaa
open Go.RowKit Go.Lec Go.Op
set_option maxRecDepth 100000 in
set_option maxHeartbeats 1600000 in
theorem c_IPair1 (w : World) {D : Nat → Prop} {X : It} {steps i : Nat} {p : PairB} (hI : ItM D w X 1 steps) (hb : bestF (heads X.Hs) 0 none = some (i, p)) :
    Calls Try.prog 17 #[.pointer (some ⟨X.ib, 0, none⟩)] w (PairP w p) := by
  have hb0 := (Below.refl w.heap.size w).alloc (Nat.le_refl _) (.cells #[.slice none 0 0, .slice none 0 0] 42)
  have hI0 := hI.below hb0
  have N := Bk.new_ w 42 #[.slice none 0 0, .slice none 0 0]
  obtain ⟨W, hW⟩ : ∃ W, W = w.alloc (.cells #[.slice none 0 0, .slice none 0 0] 42) := ⟨_, rfl⟩
  have hz0 : W.heap.size = w.heap.size + 1 := by rw [hW]; simp
  rw [← hW] at hI0 N hb0
  have HC := Lib.hid (c_isI W hI0.bk rfl)
  have HL := c_least W hI0
  unfold LeastP at HL
  rw [hb] at HL
  have HL := Lib.hid HL
  have q2 := hI0.bk.cell 2
  have Hb := Lib.hid hb0
  have HN := Lib.hid N
  have HI := Lib.hid hI0
  clear hI hI0 hb0 N hb
  go_enter Try.func17, Try.ntmps17
  go_wp2_with fail
  rw [← hW]
  clear hW
  refine HC.out.mono ?_
  rintro e w1 ⟨rfl, rfl⟩
  go_wp2_with fail
  refine HL.out.mono ?_
  rintro e w2 ⟨a, ⟨g, hg1, hg2, hg3, rfl⟩, rfl, hb2⟩
  have h2 := HI.out.below hb2
  have hgo := h2.hds g (List.mem_of_getElem? hg1)
  have c1 := hgo.bk.cell 1
  have c2 := hgo.bk.cell 2
  have HT := c_mTwin w2 g.p hgo.pok (Nat.le_refl _)
  unfold MTwinP at HT
  have HT := Lib.hid HT
  have Hg3 := Lib.hid hg3
  clear h2 hgo hg1 hg2 hg3 HL HC
  go_wp2_with fail
  refine HT.out.mono ?_
  rintro e w3 ⟨m, rfl, hm1, hm2, hm3, hb3⟩
  have N3 := (HN.out.below hb2 HN.out.lt).below hb3 (HN.out.below hb2 HN.out.lt).lt
  have x0 := N3.cell 0
  have x1 := N3.cell 1
  have y0 := N3.frz 0
  have y1 := N3.frz 1
  have N4 := (N3.set_ 0 (.slice m.A1 m.n1 m.c1)).set_ 1 (.slice m.A2 m.n2 m.c2)
  have g0 := N4.cell 0
  have g1 := N4.cell 1
  have hz2 := hb2.size
  have hm6 := (encPr_ok hm1).setFar (p := ⟨w.heap.size, 0, none⟩) ((encPr_hi hm2).imp fun b hb e => by have h : w2.heap.size ≤ b := hb; dsimp only at e; omega) (.slice m.A1 m.n1 m.c1)
  have hm7 := hm6.setFar (p := ⟨w.heap.size, 1, none⟩) ((encPr_hi hm2).imp fun b hb e => by have h : w2.heap.size ≤ b := hb; dsimp only at e; omega) (.slice m.A2 m.n2 m.c2)
  have hbf := (((Hb.out.trans (hb2.mono (by omega))).trans (hb3.mono (by omega))).setCell (p := ⟨w.heap.size, 0, none⟩) (Nat.le_refl _) (.slice m.A1 m.n1 m.c1)).setCell (p := ⟨w.heap.size, 1, none⟩) (Nat.le_refl _) (.slice m.A2 m.n2 m.c2)
  have hp : m.pl = p := by rw [← Hg3.out]; exact hm3
  have hp := Lib.hid hp
  clear N3 N4 hm1 hb2 hb3 hm6 HT hm3
  have hmf := Lib.hid (pr_ok hm7)
  have hmh := Lib.hid (hm2.mono (show w.heap.size ≤ w2.heap.size by omega))
  have hbf := Lib.hid hbf
  clear hm7 hm2
  go_wp2
  refine bodyPost_ret (v := .tuple #[.agg #[.slice m.A1 m.n1 m.c1, .slice m.A2 m.n2 m.c2], .bool true]) (by simp [results, Try.results17, go_sem, g0, g1]) rfl ⟨m, rfl, ?_, hmh.out, hp.out, hbf.out⟩
  have := hmf.out
  simpa only [World.size_setCell] using this
/-- A source's value: a list, or none. -/
def srcV : Option (Nat × Sl Pr) → Value
  | none => .nilIface
  | some (sb, _) => .iface 74 (.pointer (some ⟨sb, 0, none⟩))
/-- Sources that are ready: each list at its beginning, all in blocks of their own. -/
structure Srcs (D : Nat → Prop) (w : World) (Ss : List (Option (Nat × Sl Pr))) : Prop where
  ls : ∀ k, some k ∈ Ss → LsM D w k.1 k.2 (-1) ∧ ¬ D k.1
  dj : ∀ (i j : Nat) (a b : Nat × Sl Pr), Ss[i]? = some (some a) → Ss[j]? = some (some b) → a.1 = b.1 → i = j
def Hd.src (h : Hd) : Nat × Sl Pr := (h.sb, h.s)
def NewP (D : Nat → Prop) (w : World) (Ss : List (Option (Nat × Sl Pr))) (e : Ending) (w' : World) : Prop :=
  ∃ X D', e = .returned (.pointer (some ⟨X.ib, 0, none⟩)) ∧ ItM D' w' X 0 0 ∧ X.Hs.map Hd.src = Ss.filterMap id ∧ Below w.heap.size w w' ∧ Grows D w D' w' ∧ w.heap.size ≤ X.ib ∧ ∀ h ∈ X.Hs, w.heap.size ≤ h.hb
theorem infoHd : (Try.prog.info? 84).map (fun i => (i.zero, i.size, i.bytes)) = some (some (.pointer none), 1, 8) := by kernel_rfl
theorem slhM : SlK Try.prog 36 84 (.pointer none) 8 1 := ⟨Try.underlying36, info_parts infoHd, rfl, by decide⟩
def zPr : Pr := ⟨none, 0, 0, [], none, 0, 0, []⟩
theorem zPr_ok (w : World) (B : Nat) : zPr.ok w B := ⟨Rd.nil_, Rd.nil_, Nat.le_refl _, Nat.le_refl _, by decide, by decide⟩
theorem zPr_lie (D : Nat → Prop) : encPr.lie D zPr := fun p hp hn => by
  simp only [encPr, zPr, List.mem_cons, List.not_mem_nil, or_false] at hp
  rcases hp with rfl | rfl <;> exact absurd hn (by decide)
/-- The heads that have been made. -/
structure Mk (D : Nat → Prop) (w : World) (Ss : List (Option (Nat × Sl Pr))) (ib k : Nat) (Hs : List Hd) (v : Value) (wr : World) : Prop where
  bk : Bk wr ib 38 #[.int .i64 1, v, .int .i64 0, .int .i64 0]
  own : OwnK wr (ib + 1) 84 1 v Hs.length (Hs.map Hd.ptr)
  src : Hs.map Hd.src = (Ss.take k).filterMap id
  ok : ∀ h ∈ Hs, HdOk D wr h ∧ ib + 1 ≤ h.hb ∧ v.ownBlock ≠ some h.hb
  dj : ∀ (i j : Nat) (a b : Hd), Hs[i]? = some a → Hs[j]? = some b → (a.hb = b.hb ∨ a.sb = b.sb) → i = j
  below : Below w.heap.size w wr
  size : ib + 1 ≤ wr.heap.size
theorem kb_grown {w w' : World} {x : Option Nat} (h : w.grownBy w' x) : Kb x.toList w w' :=
  ⟨h.os, h.tape, h.output, h.size, fun k hk hn => h.block k hk fun e => hn (by rw [← e]; simp)⟩
section
variable {D : Nat → Prop} {w wr w' : World} {Ss : List (Option (Nat × Sl Pr))} {ib k sb c2 : Nat} {Hs : List Hd} {v v' : Value} {s : Sl Pr} {A2 : Option Addr}
theorem Mk.mem (hM : Mk D w Ss ib k Hs v wr) {h : Hd} (hh : h ∈ Hs) : ∃ i, i < k ∧ Ss[i]? = some (some h.src) := by
  have h1 : h.src ∈ (Ss.take k).filterMap id := by rw [← hM.src]; exact List.mem_map.2 ⟨h, hh, rfl⟩
  obtain ⟨o, ho, he⟩ := List.mem_filterMap.1 h1
  have he : o = some h.src := he
  subst he
  obtain ⟨i, hi, hx⟩ := List.getElem_of_mem ho
  have hik : i < k := by rw [List.length_take] at hi; omega
  refine ⟨i, hik, ?_⟩
  have := List.getElem?_eq_getElem hi
  rw [List.getElem?_take, if_pos hik] at this
  rw [this, hx]
def newHd (hb sb : Nat) (s : Sl Pr) : Hd := ⟨hb, sb, s, -1, false, zPr⟩
/-- One more head. -/
theorem Mk.next (hM : Mk D w Ss ib k Hs v wr) (hS : Srcs D w Ss) (hib : ib = w.heap.size) (hD : ∀ b, D b → b < w.heap.size) (hk : Ss[k]? = some (some (sb, s)))
    (ho : OwnK w' (ib + 1) 84 1 v' (Hs.length + 1) (Hs.map Hd.ptr ++ [.pointer (some ⟨wr.heap.size, 0, none⟩)]))
    (hg : (wr.alloc (.cells #[.iface 74 (.pointer (some ⟨sb, 0, none⟩)), .slice none 0 0, .slice none 0 0, .bool false] 86)).grownBy w' v.ownBlock)
    (hat : v'.ownBlock = v.ownBlock ∨ ∃ g, v'.ownBlock = some g ∧ (wr.alloc (.cells #[.iface 74 (.pointer (some ⟨sb, 0, none⟩)), .slice none 0 0, .slice none 0 0, .bool false] 86)).heap.size ≤ g) :
    Mk D w Ss ib (k + 1) (Hs ++ [newHd wr.heap.size sb s]) v' (w'.setCell ⟨ib, 1, none⟩ v') := by
  have hb4 := (Below.refl wr.heap.size wr).alloc (Nat.le_refl _) (.cells #[.iface 74 (.pointer (some ⟨sb, 0, none⟩)), .slice none 0 0, .slice none 0 0, .bool false] 86)
  have N4 := Bk.new_ wr 86 #[.iface 74 (.pointer (some ⟨sb, 0, none⟩)), .slice none 0 0, .slice none 0 0, .bool false]
  obtain ⟨W, hW⟩ : ∃ W, W = wr.alloc (.cells #[.iface 74 (.pointer (some ⟨sb, 0, none⟩)), .slice none 0 0, .slice none 0 0, .bool false] 86) := ⟨_, rfl⟩
  have hz : W.heap.size = wr.heap.size + 1 := by rw [hW]; simp
  rw [← hW] at hg hat hb4 N4
  have hown := hM.own.lt
  have hsz := hM.size
  have hk9 : Kb (v.ownBlock.toList ++ [ib]) W (w'.setCell ⟨ib, 1, none⟩ v') := ((kb_grown hg).more (fun b hb => List.mem_append_left _ hb)).setCell (.inl (by simp)) _
  have hnS : ∀ b, b ∉ v.ownBlock.toList ++ [ib] ↔ (v.ownBlock ≠ some b ∧ b ≠ ib) := fun b => by
    rw [List.mem_append, List.mem_singleton, Option.mem_toList]
    constructor
    · exact fun h => ⟨fun e => h (.inl e), fun e => h (.inr e)⟩
    · rintro ⟨h1, h2⟩ (h | h)
      · exact h1 h
      · exact h2 h
  have hDS : ∀ b, D b → b ∉ v.ownBlock.toList ++ [ib] := fun b hb => by
    rw [hnS]
    have := hD b hb
    exact ⟨fun e => by have := (hown _ e).1; omega, by omega⟩
  have hsbl : ∀ (i : Nat) (a : Nat × Sl Pr), Ss[i]? = some (some a) → a.1 < w.heap.size := fun i a hi => (hS.ls a (List.mem_of_getElem? hi)).1.bk.lt
  have hsbn : ∀ (i : Nat) (a : Nat × Sl Pr), Ss[i]? = some (some a) → a.1 ∉ v.ownBlock.toList ++ [ib] := fun i a hi => by
    have := hsbl i a hi
    rw [hnS]
    exact ⟨fun e => by have := (hown _ e).1; omega, by omega⟩
  have hvne : ∀ b, b < W.heap.size → v.ownBlock ≠ some b → v'.ownBlock ≠ some b := fun b hb hn => by
    rcases hat with e | ⟨g, e, hgs⟩
    · rw [e]; exact hn
    · rw [e]; intro e2; cases e2; omega
  obtain ⟨hls, hnD⟩ := hS.ls _ (List.mem_of_getElem? hk)
  have hkl : k < Ss.length := (List.getElem?_eq_some_iff.1 hk).1
  refine ⟨((hM.bk.below hb4 hM.bk.lt).grownX hg (fun e => ?_)).set_ 1 v', ?_, ?_, ?_, ?_, ?_, ?_⟩
  · have := (hown _ e.symm).1; omega
  · refine (OwnK.far (by rw [List.map_append, List.length_append]; exact ho) (fun e => ?_) _)
    have e : v'.ownBlock = some ib := e
    rcases hat with e2 | ⟨g, e2, hgs⟩
    · rw [e2] at e; have := (hown _ e).1; omega
    · rw [e2] at e; cases e; omega
  · rw [List.take_succ_eq_append_getElem hkl, List.filterMap_append, List.map_append, hM.src, (List.getElem?_eq_some_iff.1 hk).2]; rfl
  · intro h hh
    rcases List.mem_append.1 hh with hh | hh
    · obtain ⟨h1, h2, h3⟩ := hM.ok h hh
      obtain ⟨i, hik, hi⟩ := hM.mem hh
      have hl := h1.bk.lt
      exact ⟨(h1.kb (Kb.of_below hb4) (S := []) (by simp) (by simp) (by simp)).kb hk9 ((hnS _).2 ⟨h3, by omega⟩) (hsbn i _ hi) hDS, h2, hvne _ (by omega) h3⟩
    · rw [List.mem_singleton] at hh
      subst hh
      have hvn : v.ownBlock ≠ some wr.heap.size := fun e => by have := (hown _ e).2; omega
      refine ⟨⟨N4.kb hk9 ((hnS _).2 ⟨hvn, by omega⟩), ?_, zPr_ok _ _, zPr_lie _⟩, by show ib + 1 ≤ wr.heap.size; omega, hvne _ (by show wr.heap.size < _; omega) hvn⟩
      exact ((hls.kb (Kb.of_below (hM.below.trans (hb4.mono hM.below.size))) (S := []) (by simp) (by simp))).kb hk9 (hsbn k _ hk) hDS
  · intro i j a b hi hj hab
    have hget : ∀ (i : Nat) (a : Hd), (Hs ++ [newHd wr.heap.size sb s])[i]? = some a → (i < Hs.length ∧ Hs[i]? = some a) ∨ (i = Hs.length ∧ a = newHd wr.heap.size sb s) := fun i a h => by
      rcases Nat.lt_or_ge i Hs.length with h1 | h1
      · rw [List.getElem?_append_left h1] at h; exact .inl ⟨h1, h⟩
      · rw [List.getElem?_append_right h1, List.getElem?_singleton] at h
        split at h
        · cases h; exact .inr ⟨by omega, rfl⟩
        · cases h
    have hold : ∀ (a : Hd), a ∈ Hs → (a.hb = wr.heap.size ∨ a.sb = sb) → False := fun a ha h => by
      rcases h with h | h
      · have := (hM.ok a ha).1.bk.lt; omega
      · obtain ⟨i, hik, hi⟩ := hM.mem ha
        have := hS.dj i k _ _ hi hk h
        omega
    rcases hget i a hi with ⟨h1, h2⟩ | ⟨h1, rfl⟩ <;> rcases hget j b hj with ⟨h3, h4⟩ | ⟨h3, rfl⟩
    · exact hM.dj i j a b h2 h4 hab
    · exact absurd (hold a (List.mem_of_getElem? h2) hab) id
    · exact absurd (hold b (List.mem_of_getElem? h4) (hab.imp Eq.symm Eq.symm)) id
    · omega
  · have h1 : Below w.heap.size w w' := (hM.below.trans (hb4.mono hM.below.size)).grown hg (by have := hM.below.size; omega) (fun g e => by have := (hown g e).1; omega)
    exact h1.setCell (by show _ ≤ ib; omega) _
  · rw [World.size_setCell]; have := hg.size; omega
/-- All heads are made. -/
theorem Mk.done (hM : Mk D w Ss ib k Hs (.slice A2 Hs.length c2) wr) (hS : Srcs D w Ss) (hib : ib = w.heap.size) (hD : ∀ b, D b → b < w.heap.size) (hn : k ≤ 100000) (hl : Ss.length = k) :
    NewP D w Ss (.returned (.pointer (some ⟨ib, 0, none⟩))) wr := by
  have hown := hM.own.lt
  have hlen : Hs.length ≤ k := by
    have h1 := congrArg List.length hM.src
    rw [List.length_map] at h1
    have h2 := List.length_filterMap_le (id : Option (Nat × Sl Pr) → Option (Nat × Sl Pr)) (Ss.take k)
    rw [List.length_take] at h2
    omega
  refine ⟨⟨ib, A2, c2, Hs⟩, fun b => D b ∨ (Value.slice A2 Hs.length c2).ownBlock = some b, rfl, ⟨hM.bk, ?_, ?_, ?_, ?_, ?_, by dsimp only; omega⟩, by rw [hM.src, ← hl, List.take_length], hM.below, ⟨fun _ h => .inl h, ?_, hM.below.size⟩, by dsimp only; omega, fun h hh => by have := (hM.ok h hh).2.1; omega⟩
  · have := hM.own.rd
    refine ⟨by rw [List.length_map], fun h0 => ?_⟩
    obtain ⟨b, o, e, hb, hc⟩ := this.2 h0
    exact ⟨b, o, e, hb, hc⟩
  · intro _ a ha
    dsimp only at ha
    subst ha
    exact .inr rfl
  · exact fun h hh => (hM.ok h hh).1.imp fun _ hb => .inl hb
  · intro i j k1 k2 h1 h2 h3
    unfold It.K at h1 h2
    rw [List.getElem?_map] at h1 h2
    dsimp only at h1 h2
    cases ha : Hs[i]? with
    | none => rw [ha] at h1; cases h1
    | some a =>
      cases hb : Hs[j]? with
      | none => rw [hb] at h2; cases h2
      | some b =>
        rw [ha] at h1; rw [hb] at h2
        cases h1; cases h2
        exact hM.dj i j a b ha hb h3
  · intro b hb hD'
    rcases ctl_mem.1 hb with rfl | ⟨h, hh, e⟩
    · rcases hD' with h1 | h1
      · have := hD _ h1; omega
      · have := (hown _ h1).1; omega
    · obtain ⟨h1, h2, h3⟩ := hM.ok h hh
      obtain ⟨i, hik, hi⟩ := hM.mem hh
      obtain ⟨hls, hnD⟩ := hS.ls _ (List.mem_of_getElem? hi)
      have hsl := hls.bk.lt
      rcases e with rfl | rfl
      · rcases hD' with h4 | h4
        · have := hD _ h4; omega
        · exact h3 h4
      · rcases hD' with h4 | h4
        · exact hnD h4
        · have h5 := (hown _ h4).1
          have h6 : h.sb < w.heap.size := hsl
          omega
  · intro b hb
    rcases hb with h1 | h1
    · exact .inl h1
    · have := hown _ h1; exact .inr ⟨by omega, this.2⟩
end
set_option maxRecDepth 100000 in
set_option maxHeartbeats 1600000 in
theorem c_New (w : World) {D : Nat → Prop} {B n c : Nat} {A : Option Addr} {Ss : List (Option (Nat × Sl Pr))} (hr : Rd w B A n (Ss.map srcV)) (hB : B ≤ w.heap.size) (hS : Srcs D w Ss) (hn : n ≤ 100000) (hD : ∀ b, D b → b < w.heap.size) :
    Calls Try.prog 16 #[.slice A n c] w (NewP D w Ss) := by
  have hl : Ss.length = n := by have := hr.1; rw [List.length_map] at this; exact this
  have Hl := Lib.hid hl
  obtain ⟨ib, hib⟩ : ∃ ib, ib = w.heap.size := ⟨_, rfl⟩
  obtain ⟨w0, hw0⟩ : ∃ W, W = w.alloc (.cells #[.int .i64 1, .slice none 0 0, .int .i64 0, .int .i64 0] 38) := ⟨_, rfl⟩
  have hb0 := (Below.refl w.heap.size w).alloc (Nat.le_refl _) (.cells #[.int .i64 1, .slice none 0 0, .int .i64 0, .int .i64 0] 38)
  have N0 := Bk.new_ w 38 #[.int .i64 1, .slice none 0 0, .int .i64 0, .int .i64 0]
  have hz0 : w0.heap.size = w.heap.size + 1 := by rw [hw0]; simp
  rw [← hw0] at hb0 N0
  rw [← hib] at N0
  have HM0 : Mk D w Ss ib 0 [] (.slice none 0 0) w0 := ⟨N0, OwnK.nil_ _ _ _ _, rfl, (fun _ h => by cases h), (fun _ _ _ _ h => by cases h), hb0, by omega⟩
  have HM0 := Lib.hid HM0
  have Hr := Lib.hid hr
  have HS := Lib.hid hS
  have HD := Lib.hid hD
  have Hib := Lib.hid hib
  clear hl hr hS hb0 N0 hz0 hD
  go_enter Try.func16, Try.ntmps16
  go_wp2
  rw [← hw0, ← hib]
  clear hw0 hib
  go_loopw [10] (fun v10 wr => ∃ (k : Nat) (Hs : List Hd) (v : Value), k ≤ n ∧ v10 = .int .i64 (k : Int) ∧ Mk D w Ss ib k Hs v wr) (fun v10 _ => n - (intOf v10).toNat)
  case atStart => exact ⟨0, [], _, Nat.zero_le _, rfl, HM0.out⟩
  case round =>
    obtain ⟨k, Hs, v, hk, rfl, hM⟩ := hrel
    clear HM0
    by_cases hlt : k < n
    · have hkl : k < Ss.length := by rw [Hl.out]; exact hlt
      obtain ⟨b, o, rfl, hbB, hc⟩ := Hr.out.2 (by omega)
      have c0 := (hM.below.cell (p := ⟨b, o + k, none⟩) (by dsimp only; omega)).trans (hc k (srcV Ss[k]) (by rw [List.getElem?_map, List.getElem?_eq_getElem hkl]; rfl))
      have htk : Ss.take (k + 1) = Ss.take k ++ [Ss[k]] := List.take_succ_eq_append_getElem hkl
      have hke : Ss[k]? = some Ss[k] := List.getElem?_eq_getElem hkl
      cases hsk : Ss[k] with
      | none =>
        have HM2 : Mk D w Ss ib (k + 1) Hs v wr := ⟨hM.bk, hM.own, by rw [htk, hsk, List.filterMap_append]; simpa using hM.src, hM.ok, hM.dj, hM.below, hM.size⟩
        have HM2 := Lib.hid HM2
        rw [hsk, srcV] at c0
        clear hM hc htk hke hsk
        go_wp2
        exact ⟨⟨k + 1, Hs, v, by omega, by go_num, HM2.out⟩, by simp [intOf]; omega⟩
      | some sk =>
        obtain ⟨sb, s⟩ := sk
        have hmem : some (sb, s) ∈ Ss := by rw [← hsk]; exact List.getElem_mem _
        obtain ⟨hls, hnD⟩ := HS.out.ls _ hmem
        rw [hsk, srcV] at c0
        obtain ⟨A2, c2, rfl, hc2⟩ := hM.own.shape
        have q1 := hM.bk.cell 1
        have z1 := hM.bk.frz 1
        clear hc
        have HM := Lib.hid hM
        have hlen : Hs.length ≤ 100000 := by
          have h1 := congrArg List.length hM.src
          rw [List.length_map] at h1
          have h2 := List.length_filterMap_le (id : Option (Nat × Sl Pr) → Option (Nat × Sl Pr)) (Ss.take k)
          rw [List.length_take] at h2
          omega
        have Hk := Lib.hid (show Ss[k]? = some (some (sb, s)) by rw [hke, hsk])
        have hzz := hM.size
        have hii := hM.bk.lt
        have hoN : ∀ g, (Value.slice A2 Hs.length c2).ownBlock = some g → ib + 1 ≤ g := fun g e => (hM.own.lt g e).1
        clear hM hsk hke htk hmem hls hnD
        go_wp2_with (first
          | (at_builtin; ((refine wpList_appK_new (m := 1) (c := 1) rfl (.tmp 20) (.tmp 24) rfl slhM (by decide) rfl (HM.out.own.alloc _) (Below.refl _ _) (by rw [World.size_alloc]; omega) (by rw [World.size_alloc]; rfl) rfl (news := [.pointer (some ⟨wr.heap.size, 0, none⟩)]) (by intro u hu; rw [List.mem_singleton] at hu; subst hu; rfl) (by omega) ?_); intro v2 w2 ho2 hb2 hg2 hat2 hs2; obtain ⟨A3, c3, rfl, hc3⟩ := ho2.shape; have HN := Lib.hid (HM.out.next HS.out Hib.out HD.out Hk.out ho2 hg2 hat2); have hb5 := ((HM.out.bk.alloc (.cells #[.iface 74 (.pointer (some ⟨sb, 0, none⟩)), .slice none 0 0, .slice none 0 0, .bool false] 86)).grownX hg2 (fun e => by have := hoN _ e.symm; omega)); have z5 := hb5.frz 1; have q5 := hb5.cell 1; clear ho2 hg2 hat2 hb5 hb2)))
        exact ⟨⟨k + 1, _, _, by omega, by go_num, HN.out⟩, by simp [intOf]; omega⟩
    · obtain rfl : k = n := by omega
      obtain ⟨A2, c2, rfl, hc2⟩ := hM.own.shape
      have HM := Lib.hid hM
      clear hM
      go_wp2
      go_ret
      exact HM.out.done HS.out Hib.out HD.out hn Hl.out
end Go.Proofs.Ytjkjlekfeelfpaa
