/- Layer 23: the least head of an iterator. -/
import Derived.Test.YtedelkifadonjaaMsK
namespace Go.Proofs.Ytedelkifadonjaa
open Go.RowKit Go.Lec Go.Op
set_option maxRecDepth 100000 in
theorem c_isI (w : World) {b : Nat} {cs : Array Value} (hb : Bk w b 72 cs) (h0 : cs[0]? = some (.int .i64 1)) :
    Calls Try.prog 51 #[.pointer (some ⟨b, 0, none⟩)] w fun e w' => e = .returned (.bool true) ∧ w' = w := by
  have q := (hb.cell 0).trans h0
  go_enter Try.func51, Try.ntmps51
  go_wp2
  go_ret
  exact ⟨rfl, rfl⟩
set_option maxRecDepth 100000 in
theorem c_counts (w : World) {D : Nat → Prop} {h : Hd} (hh : HdOk D w h) :
    Calls Try.prog 63 #[.pointer (some ⟨h.hb, 0, none⟩)] w fun e w' => e = .returned (.bool h.is) ∧ w' = w := by
  have q := hh.bk.cell 3
  go_enter Try.func63, Try.ntmps63
  go_wp2
  go_ret
  exact ⟨rfl, rfl⟩
/-- A truth that is one of a comparison. -/
def BoolP (w : World) (b : Bool) (e : Ending) (w' : World) : Prop := e = .returned (.bool b) ∧ Below w.heap.size w w'
set_option maxRecDepth 100000 in
theorem c_ahead (w : World) {D : Nat → Prop} {h g : Hd} (hh : HdOk D w h) (hg : HdOk D w g) :
    Calls Try.prog 64 #[.pointer (some ⟨h.hb, 0, none⟩), .pointer (some ⟨g.hb, 0, none⟩)] w (BoolP w (bytesLess h.p.key g.p.key)) := by
  have q1 := hh.bk.cell 1
  have q2 := hg.bk.cell 1
  have HC := Lib.hid (fun nq : Nat => c_bCompare (w.drewN nq) (c := h.p.c1) (c2 := g.p.c1) (hh.pok.1.drewN nq) (hg.pok.1.drewN nq))
  have hc := Lib.hid (cmp_neg_decide h.p.key g.p.key)
  clear hh hg
  go_enter Try.func64, Try.ntmps64
  go_wp2
  go_quiet (first | (go_at_call 38; exact Calls.quiet_of_same (HC.out _)))
  go_wp2
  go_ret
  exact ⟨congrArg (fun b => Ending.returned (.bool b)) hc.out, belowNm (Below.refl _ _) nq⟩
/-- What the heads stand at. -/
def heads (Hs : List Hd) : List (Option PairB) := Hs.map fun h => if h.is then some h.p.pl else none
/-- How the best of them is pointed at. -/
def BestV (Hs : List Hd) : Option (Nat × PairB) → Option Addr → Prop
  | none, a => a = none
  | some (i, p), a => ∃ h, Hs[i]? = some h ∧ h.is = true ∧ h.p.pl = p ∧ a = some ⟨h.hb, 0, none⟩
theorem ItM.stand {D : Nat → Prop} {w : World} {X : It} {st st' steps : Nat} (hI : ItM D w X st steps) : ItM D (w.setCell ⟨X.ib, 2, none⟩ (.int .i64 (st' : Int))) X st' steps := by
  have hk : Kb [X.ib] w (w.setCell ⟨X.ib, 2, none⟩ (.int .i64 (st' : Int))) := (Kb.refl _ _).setCell (.inl (by simp)) _
  have hD : ∀ b, D b → b ∉ [X.ib] := fun b hb hm => by rw [List.mem_singleton] at hm; exact hI.nD b (ctl_mem.2 (.inl hm)) hb
  exact ⟨hI.bk.set_ 2 _, rd_kb hI.row hI.rowD hk hD, hI.rowD, fun h hh => (hI.hds h hh).kb hk (by simpa using (hI.ne hh).1.symm) (by simpa using (hI.ne hh).2.1.symm) hD, hI.dj, hI.nD, hI.n⟩
def BestP (w : World) (X : It) (e : Ending) (w' : World) : Prop :=
  ∃ a, BestV X.Hs (bestF (heads X.Hs) 0 none) a ∧ e = .returned (.tuple #[.pointer a, .bool (bestF (heads X.Hs) 0 none).isSome]) ∧ Below w.heap.size w w'
theorem heads_drop {Hs : List Hd} {k : Nat} {h : Hd} (hk : Hs[k]? = some h) : (heads Hs).drop k = (if h.is then some h.p.pl else none) :: (heads Hs).drop (k + 1) := by
  obtain ⟨hl, he⟩ := List.getElem?_eq_some_iff.1 hk
  unfold heads
  rw [← List.map_drop, ← List.map_drop, List.drop_eq_getElem_cons hl, he, List.map_cons]
set_option maxRecDepth 100000 in
set_option maxHeartbeats 1600000 in
theorem c_best (w : World) {D : Nat → Prop} {X : It} {st steps : Nat} (hI : ItM D w X st steps) :
    Calls Try.prog 62 #[.slice X.A X.Hs.length X.c, .func (.func 63) #[] #[], .func (.func 64) #[] #[]] w (BestP w X) := by
  obtain ⟨R, hR⟩ : ∃ R, R = bestF (heads X.Hs) 0 none := ⟨_, rfl⟩
  unfold BestP
  rw [← hR]
  have HR := Lib.hid hR
  clear hR
  have hXn := hI.n
  obtain ⟨ib, A, cA, Hs⟩ := X
  dsimp only at hXn HR ⊢
  obtain ⟨n, hn⟩ : ∃ n, n = Hs.length := ⟨_, rfl⟩
  rw [← hn] at hXn ⊢
  have Hn := Lib.hid hn
  clear hn
  go_enter Try.func62, Try.ntmps62
  go_wp2
  go_loopw [8, 9, 14] (fun v8 v9 v14 wr => ∃ (k : Nat) (acc : Option (Nat × PairB)) (a : Option Addr), k ≤ n ∧ v8 = .pointer a ∧ v9 = .bool acc.isSome ∧ v14 = .int .i64 (k : Int) ∧ BestV Hs acc a ∧ Hid (R = bestF ((heads Hs).drop k) k acc) ∧ Below w.heap.size w wr) (fun _ _ v14 _ => n - (intOf v14).toNat)
  case atStart => exact ⟨0, none, none, Nat.zero_le _, rfl, rfl, rfl, rfl, Lib.hid HR.out, Below.refl _ _⟩
  case round =>
    obtain ⟨k, acc, a, hk, rfl, rfl, rfl, hbv, HB, hbw⟩ := hrel
    by_cases hlt : k < n
    · have hIr := hI.below hbw
      obtain ⟨h, hh⟩ : ∃ h, Hs[k]? = some h := ⟨_, List.getElem?_eq_getElem (by rw [← Hn.out]; exact hlt)⟩
      have hho := hIr.hds h (List.mem_of_getElem? hh)
      obtain ⟨b, o, hA, hbB, hc⟩ := hIr.row.2 (by dsimp only; rw [← Hn.out]; omega)
      dsimp only at hA
      subst hA
      have c0 : wr.cell? ⟨b, o + k, none⟩ = some (.pointer (some ⟨h.hb, 0, none⟩)) := hc k (.pointer (some ⟨h.hb, 0, none⟩)) (by rw [List.getElem?_map, hh]; rfl)
      have hd := heads_drop hh
      have HB1 := HB.out
      rw [hd] at HB1
      have HC1 := Lib.hid (c_counts wr hho)
      have Hh := Lib.hid hh
      clear hc hd hh
      cases his : h.is with
      | false =>
        have HB2 := Lib.hid (show R = bestF ((heads Hs).drop (k + 1)) (k + 1) acc from by rw [HB1, his]; cases acc <;> rfl)
        rw [his] at HC1
        clear HB1 HB his
        go_wp2_with (first | (go_at_call 63; (refine HC1.out.mono ?_); rintro e w1 ⟨rfl, rfl⟩))
        go_roundw
        case rel => exact ⟨k + 1, acc, a, by omega, rfl, rfl, by go_num, hbv, HB2, hbw⟩
        case measure => simp [intOf]; omega
      | true =>
        rw [his] at HC1
        rw [if_pos (by exact his)] at HB1
        cases acc with
        | none =>
          have HB2 := Lib.hid (show R = bestF ((heads Hs).drop (k + 1)) (k + 1) (some (k, h.p.pl)) from HB1)
          obtain rfl : a = none := hbv
          clear HB1 HB
          have his := Lib.hid his
          go_wp2_with (first | (go_at_call 63; (refine HC1.out.mono ?_); rintro e w1 ⟨rfl, rfl⟩))
          go_roundw
          case rel => exact ⟨k + 1, some (k, h.p.pl), _, by omega, rfl, rfl, by go_num, ⟨h, Hh.out, his.out, rfl, rfl⟩, HB2, hbw⟩
          case measure => simp [intOf]; omega
        | some r =>
          obtain ⟨i, p⟩ := r
          obtain ⟨g, hg, hgi, hgp, rfl⟩ := hbv
          have hgo := hIr.hds g (List.mem_of_getElem? hg)
          have HC2 := c_ahead wr hho hgo
          unfold BoolP at HC2
          have Hg := Lib.hid (show BestV Hs (some (i, p)) (some ⟨g.hb, 0, none⟩) from ⟨g, hg, hgi, hgp, rfl⟩)
          have his := Lib.hid his
          have hpk : p.1 = g.p.key := by rw [← hgp]; rfl
          rw [bestF, hpk] at HB1
          clear hg hgi hgp hgo hpk
          cases hless : bytesLess h.p.key g.p.key with
          | false =>
            have HB2 := Lib.hid (show R = bestF ((heads Hs).drop (k + 1)) (k + 1) (some (i, p)) from by rw [HB1, show h.p.pl.1 = h.p.key from rfl, hless]; rfl)
            rw [hless] at HC2
            have HC2 := Lib.hid HC2
            clear HB1 HB hless
            go_wp2_with (first | (go_at_call 63; (refine HC1.out.mono ?_); rintro e w1 ⟨rfl, rfl⟩) | (go_at_call 64; (refine HC2.out.mono ?_); rintro e w2 ⟨rfl, hb2⟩))
            go_roundw
            case rel => exact ⟨k + 1, _, _, by omega, rfl, rfl, by go_num, Hg.out, HB2, hbw.trans (hb2.mono hbw.size)⟩
            case measure => simp [intOf]; omega
          | true =>
            have HB2 := Lib.hid (show R = bestF ((heads Hs).drop (k + 1)) (k + 1) (some (k, h.p.pl)) from by rw [HB1, show h.p.pl.1 = h.p.key from rfl, hless]; rfl)
            rw [hless] at HC2
            have HC2 := Lib.hid HC2
            clear HB1 HB hless
            go_wp2_with (first | (go_at_call 63; (refine HC1.out.mono ?_); rintro e w1 ⟨rfl, rfl⟩) | (go_at_call 64; (refine HC2.out.mono ?_); rintro e w2 ⟨rfl, hb2⟩))
            go_roundw
            case rel => exact ⟨k + 1, some (k, h.p.pl), _, by omega, rfl, rfl, by go_num, ⟨h, Hh.out, his.out, rfl, rfl⟩, HB2, hbw.trans (hb2.mono hbw.size)⟩
            case measure => simp [intOf]; omega
    · have HB2 := HB.out
      rw [List.drop_eq_nil_of_le (by unfold heads; rw [List.length_map, ← Hn.out]; omega), bestF] at HB2
      subst HB2
      clear HB HR
      go_wp2
      go_ret2
      exact ⟨a, hbv, rfl, hbw⟩
def LeastP (w : World) (X : It) (e : Ending) (w' : World) : Prop :=
  ∃ a, BestV X.Hs (bestF (heads X.Hs) 0 none) a ∧ e = .returned (.pointer a) ∧ Below w.heap.size w w'
set_option maxRecDepth 100000 in
theorem c_least (w : World) {D : Nat → Prop} {X : It} {st steps : Nat} (hI : ItM D w X st steps) :
    Calls Try.prog 54 #[.pointer (some ⟨X.ib, 0, none⟩)] w (LeastP w X) := by
  have HC := c_best w hI
  unfold BestP at HC
  have HC := Lib.hid HC
  have q1 := hI.bk.cell 1
  clear hI
  go_enter Try.func54, Try.ntmps54
  go_wp2_with (first | (go_at_call 62; (refine HC.out.mono ?_); rintro e w1 ⟨a, ha, rfl, hb1⟩))
  go_ret
  exact ⟨a, ha, rfl, hb1⟩
def SettleP (D : Nat → Prop) (w : World) (X : It) (steps : Nat) (e : Ending) (w' : World) : Prop :=
  e = .returned (.bool (bestF (heads X.Hs) 0 none).isSome) ∧ ItM D w' X (if (bestF (heads X.Hs) 0 none).isSome then 1 else 2) steps ∧ Kb [X.ib] w w'
set_option maxRecDepth 100000 in
set_option maxHeartbeats 800000 in
theorem c_settle (w : World) {D : Nat → Prop} {X : It} {st steps : Nat} (hI : ItM D w X st steps) :
    Calls Try.prog 53 #[.pointer (some ⟨X.ib, 0, none⟩)] w (SettleP D w X steps) := by
  have HSet := Lib.hid (fun (W : World) (st0 st' : Nat) (h : ItM D W X st0 steps) => h.stand (st' := st'))
  have q2 := hI.bk.cell 2
  have z2 := hI.bk.frz 2
  have h1 := HSet.out w st 2 hI
  have HC := c_least _ h1
  unfold LeastP at HC
  have HC := Lib.hid HC
  have H1 := Lib.hid h1
  unfold SettleP
  obtain ⟨R, hR⟩ : ∃ R, R = bestF (heads X.Hs) 0 none := ⟨_, rfl⟩
  rw [← hR] at HC ⊢
  clear hR hI h1
  go_enter Try.func53, Try.ntmps53
  cases R with
  | none =>
    go_wp2_with (first | (go_at_call 54; (refine HC.out.mono ?_); rintro e w1 ⟨a, ha, rfl, hb1⟩; obtain rfl : a = none := ha; have h2 := H1.out.below hb1; have q := h2.bk.cell 2; have H2 := Lib.hid h2; clear h2 HC))
    go_ret
    exact ⟨rfl, H2.out, ((Kb.refl _ _).setCell (.inl (by simp)) _).then_ hb1 (by simp)⟩
  | some r =>
    go_wp2_with (first | (go_at_call 54; (refine HC.out.mono ?_); rintro e w1 ⟨a, ⟨g, hg1, hg2, hg3, rfl⟩, rfl, hb1⟩; have h2 := H1.out.below hb1; have q := h2.bk.cell 2; have q' := h2.bk.frz 2; have h3 := HSet.out w1 2 1 h2; have q3 := h3.bk.cell 2; have H3 := Lib.hid h3; have Hg1 := Lib.hid hg1; have Hg2 := Lib.hid hg2; have Hg3 := Lib.hid hg3; clear h2 HC h3 hg1 hg2 hg3))
    go_ret
    exact ⟨rfl, H3.out, (((Kb.refl _ _).setCell (.inl (by simp)) _).then_ hb1 (by simp)).setCell (.inl (by simp)) _⟩
end Go.Proofs.Ytedelkifadonjaa
/- Layer 23: a head moves. -/
namespace Go.Proofs.Ytedelkifadonjaa
open Go.RowKit Go.Lec Go.Op
/-- A head has moved to a place. -/
structure HdTo (h h' : Hd) (q : Nat) : Prop where
  k : h'.k = h.k
  at_ : h'.at_ = (q : Int)
  le : q ≤ h.s.n
  is : h'.is = decide (q < h.s.n)
  p : ∀ p, h.s.L[q]? = some p → h'.p.pl = p.pl
def MvTo (D : Nat → Prop) (w : World) (sb : Nat) (s : Sl Pr) (q : Nat) (e : Ending) (w' : World) : Prop :=
  e = .returned (.bool (decide (q < s.n))) ∧ Kb [sb] w w' ∧ LsM D w' sb s (q : Int)
def MvP (D : Nat → Prop) (w : World) (X : It) (st steps j : Nat) (h : Hd) (q : Nat) (e : Ending) (w' : World) : Prop :=
  e = .returned (.tuple #[]) ∧ ∃ D' h', ItM D' w' { X with Hs := X.Hs.set j h' } st (steps + 1) ∧ HdTo h h' q ∧ Grows D w D' w' ∧ Kb [X.ib, h.hb, h.sb] w w'
set_option maxRecDepth 100000 in
set_option maxHeartbeats 1600000 in
theorem c_moveFirst (w : World) {D : Nat → Prop} {X : It} {st steps j q : Nat} {h : Hd} (hI : ItM D w X st steps) (hj : X.Hs[j]? = some h) (hq : q ≤ h.s.n) (hst : steps ≤ 4611686018427387904)
    (HF : ∀ W, Kb [X.ib] w W → Calls Try.prog 86 #[.pointer (some ⟨h.sb, 0, none⟩)] W (MvTo D W h.sb h.s q)) :
    Calls Try.prog 52 #[.pointer (some ⟨X.ib, 0, none⟩), .pointer (some ⟨h.hb, 0, none⟩), .func (.method "First") #[.iface 85 (.pointer (some ⟨h.sb, 0, none⟩))] #[]] w (MvP D w X st steps j h q) := by
  have hmem : h ∈ X.Hs := List.mem_of_getElem? hj
  have hne := hI.ne hmem
  have hho := hI.hds h hmem
  have hctl : ∀ b ∈ [X.ib, h.hb, h.sb], b ∈ X.ctl := fun b hb => by
    simp only [List.mem_cons, List.not_mem_nil, or_false] at hb
    rcases hb with rfl | rfl | rfl
    · exact ctl_mem.2 (.inl rfl)
    · exact ctl_mem.2 (.inr ⟨h, hmem, .inl rfl⟩)
    · exact ctl_mem.2 (.inr ⟨h, hmem, .inr rfl⟩)
  have hDi : ∀ b, D b → b ≠ X.ib := fun b hb e => hI.nD b (hctl b (by simp [e])) hb
  have hDh : ∀ b, D b → b ≠ h.hb := fun b hb e => hI.nD b (hctl b (by simp [e])) hb
  have hDs : ∀ b, D b → b ≠ h.sb := fun b hb e => hI.nD b (hctl b (by simp [e])) hb
  have q3 := hI.bk.cell 3
  have z3 := hI.bk.frz 3
  have hw : IntKind.i64.wrap ((steps : Int) + 1) = ((steps + 1 : Nat) : Int) := by rw [IntWalk.i64_in _ (by omega)]; omega
  have HB := hI.bk.set_ 3 (.int .i64 ((steps + 1 : Nat) : Int))
  have hk1 : Kb [X.ib] w (w.setCell ⟨X.ib, 3, none⟩ (.int .i64 ((steps + 1 : Nat) : Int))) := (Kb.refl _ _).setCell (.inl (by simp)) _
  have HH := hho.bk.kb hk1 (by simpa using hne.1.symm)
  have HF := HF _ hk1
  unfold MvTo at HF
  have HF := Lib.hid HF
  have Hk1 := Lib.hid hk1
  have HI := Lib.hid hI
  have Hho := Lib.hid hho
  have HBh := Lib.hid HB
  have Hj := Lib.hid hj
  clear hI hho hk1 hj HB
  by_cases hqn : q < h.s.n
  · rw [decide_eq_true hqn] at HF
    go_enter Try.func52, Try.ntmps52
    go_wp2_with fail
    refine HF.out.mono ?_
    rintro e w2 ⟨rfl, hk2, hl2⟩
    have HH2 := HH.kb hk2 (by simpa using hne.2.2)
    have HB2 := HBh.out.kb hk2 (by simpa using hne.2.1)
    have HH3 := HH2.set_ 3 (.bool true)
    have hk3 : Kb [h.hb] w2 (w2.setCell ⟨h.hb, 3, none⟩ (.bool true)) := (Kb.refl _ _).setCell (.inl (by simp)) _
    have hl3 := hl2.kb hk3 (by simpa using hne.2.2.symm) (fun b hb => by simpa using hDh b hb)
    obtain ⟨p, hp⟩ : ∃ p, h.s.L[q]? = some p := ⟨_, List.getElem?_eq_getElem (by rw [Hho.out.ls.len]; exact hqn)⟩
    have HC := c_lPair _ hl3 hp
    unfold PairP at HC
    have HC := Lib.hid HC
    have HB3 := HB2.kb hk3 (by simpa using hne.1)
    have z := HH2.frz 3
    have v3 := HH3.cell 3
    have v0 := HH3.cell 0
    have v1 := HH3.cell 1
    have v2 := HH3.cell 2
    have x3 := HH2.cell 3
    have HHh := Lib.hid HH3
    have HBh3 := Lib.hid HB3
    have HP := Lib.hid hp
    have Hk2 := Lib.hid hk2
    have Hk3 := Lib.hid hk3
    have Hl3 := Lib.hid hl3
    have hp := Lib.hid hqn
    clear HH HH2 HB2 HBh HF hk2 hl2 hl3 HH3 HB3 hk3 q3 z3 hqn hw
    go_wp2_with fail
    refine HC.out.mono ?_
    rintro e w4 ⟨m, rfl, hm1, hm2, hm3, hb4⟩
    have HH4 := HHh.out.below hb4 HHh.out.lt
    have HB4 := HBh3.out.below hb4 HBh3.out.lt
    have hl4 := Hl3.out.kb (Kb.of_below hb4) (S := []) (by simp) (by simp)
    have y1 := HH4.frz 1
    have y2 := HH4.frz 2
    have y3 := HH4.frz 3
    have u1 := HH4.cell 1
    have u2 := HH4.cell 2
    have u3 := HH4.cell 3
    have HH7 := Lib.hid (((HH4.set_ 1 (.slice m.A1 m.n1 m.c1)).set_ 2 (.slice m.A2 m.n2 m.c2)).set_ 3 (.bool true))
    have Hb4 := Lib.hid hb4
    have Hm := Lib.hid (And.intro hm1 (And.intro hm2 hm3))
    have HB4h := Lib.hid HB4
    have Hl4 := Lib.hid hl4
    clear HH4 HB4 hl4 hm1 hm2 hm3 hb4 HC v0 v1 v2 v3 x3 z
    go_wp2
    go_end0
    have hb4 := Hb4.out
    obtain ⟨hm1, hm2, hm3⟩ := Hm.out
    obtain ⟨w7, hw7⟩ : ∃ W, W = ((w4.setCell ⟨h.hb, 1, none⟩ (.slice m.A1 m.n1 m.c1)).setCell ⟨h.hb, 2, none⟩ (.slice m.A2 m.n2 m.c2)).setCell ⟨h.hb, 3, none⟩ (.bool true) := ⟨_, rfl⟩
    have hk7 : Kb [h.hb] w4 w7 := by rw [hw7]; exact (((Kb.refl _ _).setCell (.inl (by simp)) _).setCell (.inl (by simp)) _).setCell (.inl (by simp)) _
    have hH7 := HH7.out
    rw [← hw7] at hH7 ⊢
    have hz3 : w.heap.size ≤ (w2.setCell ⟨h.hb, 3, none⟩ (.bool true)).heap.size := by rw [World.size_setCell]; exact Nat.le_trans Hk1.out.size Hk2.out.size
    have hkT : Kb [X.ib, h.hb, h.sb] w w7 := by
      refine ((((Hk1.out.more ?_).trans Hk2.out ?_).trans Hk3.out ?_).then_ hb4 hz3).trans hk7 ?_ <;> intro b hb <;> simp only [List.mem_cons, List.not_mem_nil, or_false] at hb ⊢ <;> simp [hb]
    have hgr := Grows.all D hkT.size
    have hlt : h.hb < w.heap.size := HI.out.lt _ (hctl _ (by simp))
    refine ⟨rfl, _, { h with at_ := (q : Int), is := true, p := m }, HI.out.upd Hj.out hkT hgr rfl (HB4h.out.kb hk7 (by simpa using hne.1)) ⟨hH7, ?_, ?_, ?_⟩, ⟨rfl, rfl, hq, (decide_eq_true hp.out).symm, fun p' hp' => ?_⟩, hgr, hkT⟩
    · exact (Hl4.out.kb hk7 (by simpa using hne.2.2.symm) (fun b hb => by simpa using hDh b hb)).imp hgr.old
    · exact pr_ok ((encPr_ok hm1).kb (encPr_hi hm2) hk7 (fun b hb => by have hb : _ ≤ b := hb; simp only [List.mem_singleton]; omega))
    · exact ((encPr_hi hm2).and (encPr_ok hm1).lt).imp fun b hb => .inr ⟨Nat.le_trans hz3 hb.1, Nat.lt_of_lt_of_le hb.2 hk7.size⟩
    · rw [HP.out] at hp'; cases hp'; exact hm3
  · rw [decide_eq_false hqn] at HF
    go_enter Try.func52, Try.ntmps52
    go_wp2_with fail
    refine HF.out.mono ?_
    rintro e w2 ⟨rfl, hk2, hl2⟩
    have HH2 := HH.kb hk2 (by simpa using hne.2.2)
    have HB2 := HBh.out.kb hk2 (by simpa using hne.2.1)
    have HH3 := HH2.set_ 3 (.bool false)
    have hk3 : Kb [h.hb] w2 (w2.setCell ⟨h.hb, 3, none⟩ (.bool false)) := (Kb.refl _ _).setCell (.inl (by simp)) _
    have hl3 := hl2.kb hk3 (by simpa using hne.2.2.symm) (fun b hb => by simpa using hDh b hb)
    have HB3 := HB2.kb hk3 (by simpa using hne.1)
    have z := HH2.frz 3
    have v3 := HH3.cell 3
    have x3 := HH2.cell 3
    have HHh := Lib.hid HH3
    have HBh3 := Lib.hid HB3
    have Hk2 := Lib.hid hk2
    have Hk3 := Lib.hid hk3
    have Hl3 := Lib.hid hl3
    have Hqn := Lib.hid hqn
    clear HH HH2 HB2 HBh HF hk2 hl2 hl3 HH3 HB3 hk3 q3 z3 hqn hw
    go_wp2
    go_end0
    have hkT : Kb [X.ib, h.hb, h.sb] w (w2.setCell ⟨h.hb, 3, none⟩ (.bool false)) := by
      refine ((Hk1.out.more ?_).trans Hk2.out ?_).trans Hk3.out ?_ <;> intro b hb <;> simp only [List.mem_cons, List.not_mem_nil, or_false] at hb ⊢ <;> simp [hb]
    have hgr : Grows D w D (w2.setCell ⟨h.hb, 3, none⟩ (.bool false)) := Grows.same hkT.size
    refine ⟨rfl, D, { h with at_ := (q : Int), is := false }, HI.out.upd Hj.out hkT hgr rfl HBh3.out ⟨HHh.out, Hl3.out, ?_, Hho.out.plie⟩, ⟨rfl, rfl, hq, (decide_eq_false Hqn.out).symm, fun p' hp' => ?_⟩, hgr, hkT⟩
    · exact pr_ok ((encPr_ok Hho.out.pok).kb Hho.out.plie hkT (fun b hb hm => HI.out.nD b (hctl b hm) hb))
    · have h1 := (List.getElem?_eq_some_iff.1 hp').1
      rw [Hho.out.ls.len] at h1
      exact absurd h1 Hqn.out
set_option maxRecDepth 100000 in
set_option maxHeartbeats 1600000 in
theorem c_moveNext (w : World) {D : Nat → Prop} {X : It} {st steps j q : Nat} {h : Hd} (hI : ItM D w X st steps) (hj : X.Hs[j]? = some h) (hq : q ≤ h.s.n) (hst : steps ≤ 4611686018427387904)
    (HF : ∀ W, Kb [X.ib] w W → Calls Try.prog 87 #[.pointer (some ⟨h.sb, 0, none⟩)] W (MvTo D W h.sb h.s q)) :
    Calls Try.prog 52 #[.pointer (some ⟨X.ib, 0, none⟩), .pointer (some ⟨h.hb, 0, none⟩), .func (.method "Next") #[.iface 85 (.pointer (some ⟨h.sb, 0, none⟩))] #[]] w (MvP D w X st steps j h q) := by
  have hmem : h ∈ X.Hs := List.mem_of_getElem? hj
  have hne := hI.ne hmem
  have hho := hI.hds h hmem
  have hctl : ∀ b ∈ [X.ib, h.hb, h.sb], b ∈ X.ctl := fun b hb => by
    simp only [List.mem_cons, List.not_mem_nil, or_false] at hb
    rcases hb with rfl | rfl | rfl
    · exact ctl_mem.2 (.inl rfl)
    · exact ctl_mem.2 (.inr ⟨h, hmem, .inl rfl⟩)
    · exact ctl_mem.2 (.inr ⟨h, hmem, .inr rfl⟩)
  have hDi : ∀ b, D b → b ≠ X.ib := fun b hb e => hI.nD b (hctl b (by simp [e])) hb
  have hDh : ∀ b, D b → b ≠ h.hb := fun b hb e => hI.nD b (hctl b (by simp [e])) hb
  have hDs : ∀ b, D b → b ≠ h.sb := fun b hb e => hI.nD b (hctl b (by simp [e])) hb
  have q3 := hI.bk.cell 3
  have z3 := hI.bk.frz 3
  have hw : IntKind.i64.wrap ((steps : Int) + 1) = ((steps + 1 : Nat) : Int) := by rw [IntWalk.i64_in _ (by omega)]; omega
  have HB := hI.bk.set_ 3 (.int .i64 ((steps + 1 : Nat) : Int))
  have hk1 : Kb [X.ib] w (w.setCell ⟨X.ib, 3, none⟩ (.int .i64 ((steps + 1 : Nat) : Int))) := (Kb.refl _ _).setCell (.inl (by simp)) _
  have HH := hho.bk.kb hk1 (by simpa using hne.1.symm)
  have HF := HF _ hk1
  unfold MvTo at HF
  have HF := Lib.hid HF
  have Hk1 := Lib.hid hk1
  have HI := Lib.hid hI
  have Hho := Lib.hid hho
  have HBh := Lib.hid HB
  have Hj := Lib.hid hj
  clear hI hho hk1 hj HB
  by_cases hqn : q < h.s.n
  · rw [decide_eq_true hqn] at HF
    go_enter Try.func52, Try.ntmps52
    go_wp2_with fail
    refine HF.out.mono ?_
    rintro e w2 ⟨rfl, hk2, hl2⟩
    have HH2 := HH.kb hk2 (by simpa using hne.2.2)
    have HB2 := HBh.out.kb hk2 (by simpa using hne.2.1)
    have HH3 := HH2.set_ 3 (.bool true)
    have hk3 : Kb [h.hb] w2 (w2.setCell ⟨h.hb, 3, none⟩ (.bool true)) := (Kb.refl _ _).setCell (.inl (by simp)) _
    have hl3 := hl2.kb hk3 (by simpa using hne.2.2.symm) (fun b hb => by simpa using hDh b hb)
    obtain ⟨p, hp⟩ : ∃ p, h.s.L[q]? = some p := ⟨_, List.getElem?_eq_getElem (by rw [Hho.out.ls.len]; exact hqn)⟩
    have HC := c_lPair _ hl3 hp
    unfold PairP at HC
    have HC := Lib.hid HC
    have HB3 := HB2.kb hk3 (by simpa using hne.1)
    have z := HH2.frz 3
    have v3 := HH3.cell 3
    have v0 := HH3.cell 0
    have v1 := HH3.cell 1
    have v2 := HH3.cell 2
    have x3 := HH2.cell 3
    have HHh := Lib.hid HH3
    have HBh3 := Lib.hid HB3
    have HP := Lib.hid hp
    have Hk2 := Lib.hid hk2
    have Hk3 := Lib.hid hk3
    have Hl3 := Lib.hid hl3
    have hp := Lib.hid hqn
    clear HH HH2 HB2 HBh HF hk2 hl2 hl3 HH3 HB3 hk3 q3 z3 hqn hw
    go_wp2_with fail
    refine HC.out.mono ?_
    rintro e w4 ⟨m, rfl, hm1, hm2, hm3, hb4⟩
    have HH4 := HHh.out.below hb4 HHh.out.lt
    have HB4 := HBh3.out.below hb4 HBh3.out.lt
    have hl4 := Hl3.out.kb (Kb.of_below hb4) (S := []) (by simp) (by simp)
    have y1 := HH4.frz 1
    have y2 := HH4.frz 2
    have y3 := HH4.frz 3
    have u1 := HH4.cell 1
    have u2 := HH4.cell 2
    have u3 := HH4.cell 3
    have HH7 := Lib.hid (((HH4.set_ 1 (.slice m.A1 m.n1 m.c1)).set_ 2 (.slice m.A2 m.n2 m.c2)).set_ 3 (.bool true))
    have Hb4 := Lib.hid hb4
    have Hm := Lib.hid (And.intro hm1 (And.intro hm2 hm3))
    have HB4h := Lib.hid HB4
    have Hl4 := Lib.hid hl4
    clear HH4 HB4 hl4 hm1 hm2 hm3 hb4 HC v0 v1 v2 v3 x3 z
    go_wp2
    go_end0
    have hb4 := Hb4.out
    obtain ⟨hm1, hm2, hm3⟩ := Hm.out
    obtain ⟨w7, hw7⟩ : ∃ W, W = ((w4.setCell ⟨h.hb, 1, none⟩ (.slice m.A1 m.n1 m.c1)).setCell ⟨h.hb, 2, none⟩ (.slice m.A2 m.n2 m.c2)).setCell ⟨h.hb, 3, none⟩ (.bool true) := ⟨_, rfl⟩
    have hk7 : Kb [h.hb] w4 w7 := by rw [hw7]; exact (((Kb.refl _ _).setCell (.inl (by simp)) _).setCell (.inl (by simp)) _).setCell (.inl (by simp)) _
    have hH7 := HH7.out
    rw [← hw7] at hH7 ⊢
    have hz3 : w.heap.size ≤ (w2.setCell ⟨h.hb, 3, none⟩ (.bool true)).heap.size := by rw [World.size_setCell]; exact Nat.le_trans Hk1.out.size Hk2.out.size
    have hkT : Kb [X.ib, h.hb, h.sb] w w7 := by
      refine ((((Hk1.out.more ?_).trans Hk2.out ?_).trans Hk3.out ?_).then_ hb4 hz3).trans hk7 ?_ <;> intro b hb <;> simp only [List.mem_cons, List.not_mem_nil, or_false] at hb ⊢ <;> simp [hb]
    have hgr := Grows.all D hkT.size
    have hlt : h.hb < w.heap.size := HI.out.lt _ (hctl _ (by simp))
    refine ⟨rfl, _, { h with at_ := (q : Int), is := true, p := m }, HI.out.upd Hj.out hkT hgr rfl (HB4h.out.kb hk7 (by simpa using hne.1)) ⟨hH7, ?_, ?_, ?_⟩, ⟨rfl, rfl, hq, (decide_eq_true hp.out).symm, fun p' hp' => ?_⟩, hgr, hkT⟩
    · exact (Hl4.out.kb hk7 (by simpa using hne.2.2.symm) (fun b hb => by simpa using hDh b hb)).imp hgr.old
    · exact pr_ok ((encPr_ok hm1).kb (encPr_hi hm2) hk7 (fun b hb => by have hb : _ ≤ b := hb; simp only [List.mem_singleton]; omega))
    · exact ((encPr_hi hm2).and (encPr_ok hm1).lt).imp fun b hb => .inr ⟨Nat.le_trans hz3 hb.1, Nat.lt_of_lt_of_le hb.2 hk7.size⟩
    · rw [HP.out] at hp'; cases hp'; exact hm3
  · rw [decide_eq_false hqn] at HF
    go_enter Try.func52, Try.ntmps52
    go_wp2_with fail
    refine HF.out.mono ?_
    rintro e w2 ⟨rfl, hk2, hl2⟩
    have HH2 := HH.kb hk2 (by simpa using hne.2.2)
    have HB2 := HBh.out.kb hk2 (by simpa using hne.2.1)
    have HH3 := HH2.set_ 3 (.bool false)
    have hk3 : Kb [h.hb] w2 (w2.setCell ⟨h.hb, 3, none⟩ (.bool false)) := (Kb.refl _ _).setCell (.inl (by simp)) _
    have hl3 := hl2.kb hk3 (by simpa using hne.2.2.symm) (fun b hb => by simpa using hDh b hb)
    have HB3 := HB2.kb hk3 (by simpa using hne.1)
    have z := HH2.frz 3
    have v3 := HH3.cell 3
    have x3 := HH2.cell 3
    have HHh := Lib.hid HH3
    have HBh3 := Lib.hid HB3
    have Hk2 := Lib.hid hk2
    have Hk3 := Lib.hid hk3
    have Hl3 := Lib.hid hl3
    have Hqn := Lib.hid hqn
    clear HH HH2 HB2 HBh HF hk2 hl2 hl3 HH3 HB3 hk3 q3 z3 hqn hw
    go_wp2
    go_end0
    have hkT : Kb [X.ib, h.hb, h.sb] w (w2.setCell ⟨h.hb, 3, none⟩ (.bool false)) := by
      refine ((Hk1.out.more ?_).trans Hk2.out ?_).trans Hk3.out ?_ <;> intro b hb <;> simp only [List.mem_cons, List.not_mem_nil, or_false] at hb ⊢ <;> simp [hb]
    have hgr : Grows D w D (w2.setCell ⟨h.hb, 3, none⟩ (.bool false)) := Grows.same hkT.size
    refine ⟨rfl, D, { h with at_ := (q : Int), is := false }, HI.out.upd Hj.out hkT hgr rfl HBh3.out ⟨HHh.out, Hl3.out, ?_, Hho.out.plie⟩, ⟨rfl, rfl, hq, (decide_eq_false Hqn.out).symm, fun p' hp' => ?_⟩, hgr, hkT⟩
    · exact pr_ok ((encPr_ok Hho.out.pok).kb Hho.out.plie hkT (fun b hb hm => HI.out.nD b (hctl b hm) hb))
    · have h1 := (List.getElem?_eq_some_iff.1 hp').1
      rw [Hho.out.ls.len] at h1
      exact absurd h1 Hqn.out
set_option maxRecDepth 100000 in
set_option maxHeartbeats 1600000 in
theorem c_moveSeek (w : World) {D : Nat → Prop} {X : It} {st steps j q : Nat} {h : Hd} {hv kv : Addr}(hI : ItM D w X st steps) (hj : X.Hs[j]? = some h) (hq : q ≤ h.s.n) (hst : steps ≤ 4611686018427387904)
    (HF : ∀ W, Kb [X.ib] w W → Calls Try.prog 85 #[.pointer (some hv), .pointer (some kv)] W (MvTo D W h.sb h.s q)) :
    Calls Try.prog 52 #[.pointer (some ⟨X.ib, 0, none⟩), .pointer (some ⟨h.hb, 0, none⟩), .func (.func 85) #[] #[.pointer (some hv), .pointer (some kv)]] w (MvP D w X st steps j h q) := by
  have hmem : h ∈ X.Hs := List.mem_of_getElem? hj
  have hne := hI.ne hmem
  have hho := hI.hds h hmem
  have hctl : ∀ b ∈ [X.ib, h.hb, h.sb], b ∈ X.ctl := fun b hb => by
    simp only [List.mem_cons, List.not_mem_nil, or_false] at hb
    rcases hb with rfl | rfl | rfl
    · exact ctl_mem.2 (.inl rfl)
    · exact ctl_mem.2 (.inr ⟨h, hmem, .inl rfl⟩)
    · exact ctl_mem.2 (.inr ⟨h, hmem, .inr rfl⟩)
  have hDi : ∀ b, D b → b ≠ X.ib := fun b hb e => hI.nD b (hctl b (by simp [e])) hb
  have hDh : ∀ b, D b → b ≠ h.hb := fun b hb e => hI.nD b (hctl b (by simp [e])) hb
  have hDs : ∀ b, D b → b ≠ h.sb := fun b hb e => hI.nD b (hctl b (by simp [e])) hb
  have q3 := hI.bk.cell 3
  have z3 := hI.bk.frz 3
  have hw : IntKind.i64.wrap ((steps : Int) + 1) = ((steps + 1 : Nat) : Int) := by rw [IntWalk.i64_in _ (by omega)]; omega
  have HB := hI.bk.set_ 3 (.int .i64 ((steps + 1 : Nat) : Int))
  have hk1 : Kb [X.ib] w (w.setCell ⟨X.ib, 3, none⟩ (.int .i64 ((steps + 1 : Nat) : Int))) := (Kb.refl _ _).setCell (.inl (by simp)) _
  have HH := hho.bk.kb hk1 (by simpa using hne.1.symm)
  have HF := HF _ hk1
  unfold MvTo at HF
  have HF := Lib.hid HF
  have Hk1 := Lib.hid hk1
  have HI := Lib.hid hI
  have Hho := Lib.hid hho
  have HBh := Lib.hid HB
  have Hj := Lib.hid hj
  clear hI hho hk1 hj HB
  by_cases hqn : q < h.s.n
  · rw [decide_eq_true hqn] at HF
    go_enter Try.func52, Try.ntmps52
    go_wp2_with fail
    refine HF.out.mono ?_
    rintro e w2 ⟨rfl, hk2, hl2⟩
    have HH2 := HH.kb hk2 (by simpa using hne.2.2)
    have HB2 := HBh.out.kb hk2 (by simpa using hne.2.1)
    have HH3 := HH2.set_ 3 (.bool true)
    have hk3 : Kb [h.hb] w2 (w2.setCell ⟨h.hb, 3, none⟩ (.bool true)) := (Kb.refl _ _).setCell (.inl (by simp)) _
    have hl3 := hl2.kb hk3 (by simpa using hne.2.2.symm) (fun b hb => by simpa using hDh b hb)
    obtain ⟨p, hp⟩ : ∃ p, h.s.L[q]? = some p := ⟨_, List.getElem?_eq_getElem (by rw [Hho.out.ls.len]; exact hqn)⟩
    have HC := c_lPair _ hl3 hp
    unfold PairP at HC
    have HC := Lib.hid HC
    have HB3 := HB2.kb hk3 (by simpa using hne.1)
    have z := HH2.frz 3
    have v3 := HH3.cell 3
    have v0 := HH3.cell 0
    have v1 := HH3.cell 1
    have v2 := HH3.cell 2
    have x3 := HH2.cell 3
    have HHh := Lib.hid HH3
    have HBh3 := Lib.hid HB3
    have HP := Lib.hid hp
    have Hk2 := Lib.hid hk2
    have Hk3 := Lib.hid hk3
    have Hl3 := Lib.hid hl3
    have hp := Lib.hid hqn
    clear HH HH2 HB2 HBh HF hk2 hl2 hl3 HH3 HB3 hk3 q3 z3 hqn hw
    go_wp2_with fail
    refine HC.out.mono ?_
    rintro e w4 ⟨m, rfl, hm1, hm2, hm3, hb4⟩
    have HH4 := HHh.out.below hb4 HHh.out.lt
    have HB4 := HBh3.out.below hb4 HBh3.out.lt
    have hl4 := Hl3.out.kb (Kb.of_below hb4) (S := []) (by simp) (by simp)
    have y1 := HH4.frz 1
    have y2 := HH4.frz 2
    have y3 := HH4.frz 3
    have u1 := HH4.cell 1
    have u2 := HH4.cell 2
    have u3 := HH4.cell 3
    have HH7 := Lib.hid (((HH4.set_ 1 (.slice m.A1 m.n1 m.c1)).set_ 2 (.slice m.A2 m.n2 m.c2)).set_ 3 (.bool true))
    have Hb4 := Lib.hid hb4
    have Hm := Lib.hid (And.intro hm1 (And.intro hm2 hm3))
    have HB4h := Lib.hid HB4
    have Hl4 := Lib.hid hl4
    clear HH4 HB4 hl4 hm1 hm2 hm3 hb4 HC v0 v1 v2 v3 x3 z
    go_wp2
    go_end0
    have hb4 := Hb4.out
    obtain ⟨hm1, hm2, hm3⟩ := Hm.out
    obtain ⟨w7, hw7⟩ : ∃ W, W = ((w4.setCell ⟨h.hb, 1, none⟩ (.slice m.A1 m.n1 m.c1)).setCell ⟨h.hb, 2, none⟩ (.slice m.A2 m.n2 m.c2)).setCell ⟨h.hb, 3, none⟩ (.bool true) := ⟨_, rfl⟩
    have hk7 : Kb [h.hb] w4 w7 := by rw [hw7]; exact (((Kb.refl _ _).setCell (.inl (by simp)) _).setCell (.inl (by simp)) _).setCell (.inl (by simp)) _
    have hH7 := HH7.out
    rw [← hw7] at hH7 ⊢
    have hz3 : w.heap.size ≤ (w2.setCell ⟨h.hb, 3, none⟩ (.bool true)).heap.size := by rw [World.size_setCell]; exact Nat.le_trans Hk1.out.size Hk2.out.size
    have hkT : Kb [X.ib, h.hb, h.sb] w w7 := by
      refine ((((Hk1.out.more ?_).trans Hk2.out ?_).trans Hk3.out ?_).then_ hb4 hz3).trans hk7 ?_ <;> intro b hb <;> simp only [List.mem_cons, List.not_mem_nil, or_false] at hb ⊢ <;> simp [hb]
    have hgr := Grows.all D hkT.size
    have hlt : h.hb < w.heap.size := HI.out.lt _ (hctl _ (by simp))
    refine ⟨rfl, _, { h with at_ := (q : Int), is := true, p := m }, HI.out.upd Hj.out hkT hgr rfl (HB4h.out.kb hk7 (by simpa using hne.1)) ⟨hH7, ?_, ?_, ?_⟩, ⟨rfl, rfl, hq, (decide_eq_true hp.out).symm, fun p' hp' => ?_⟩, hgr, hkT⟩
    · exact (Hl4.out.kb hk7 (by simpa using hne.2.2.symm) (fun b hb => by simpa using hDh b hb)).imp hgr.old
    · exact pr_ok ((encPr_ok hm1).kb (encPr_hi hm2) hk7 (fun b hb => by have hb : _ ≤ b := hb; simp only [List.mem_singleton]; omega))
    · exact ((encPr_hi hm2).and (encPr_ok hm1).lt).imp fun b hb => .inr ⟨Nat.le_trans hz3 hb.1, Nat.lt_of_lt_of_le hb.2 hk7.size⟩
    · rw [HP.out] at hp'; cases hp'; exact hm3
  · rw [decide_eq_false hqn] at HF
    go_enter Try.func52, Try.ntmps52
    go_wp2_with fail
    refine HF.out.mono ?_
    rintro e w2 ⟨rfl, hk2, hl2⟩
    have HH2 := HH.kb hk2 (by simpa using hne.2.2)
    have HB2 := HBh.out.kb hk2 (by simpa using hne.2.1)
    have HH3 := HH2.set_ 3 (.bool false)
    have hk3 : Kb [h.hb] w2 (w2.setCell ⟨h.hb, 3, none⟩ (.bool false)) := (Kb.refl _ _).setCell (.inl (by simp)) _
    have hl3 := hl2.kb hk3 (by simpa using hne.2.2.symm) (fun b hb => by simpa using hDh b hb)
    have HB3 := HB2.kb hk3 (by simpa using hne.1)
    have z := HH2.frz 3
    have v3 := HH3.cell 3
    have x3 := HH2.cell 3
    have HHh := Lib.hid HH3
    have HBh3 := Lib.hid HB3
    have Hk2 := Lib.hid hk2
    have Hk3 := Lib.hid hk3
    have Hl3 := Lib.hid hl3
    have Hqn := Lib.hid hqn
    clear HH HH2 HB2 HBh HF hk2 hl2 hl3 HH3 HB3 hk3 q3 z3 hqn hw
    go_wp2
    go_end0
    have hkT : Kb [X.ib, h.hb, h.sb] w (w2.setCell ⟨h.hb, 3, none⟩ (.bool false)) := by
      refine ((Hk1.out.more ?_).trans Hk2.out ?_).trans Hk3.out ?_ <;> intro b hb <;> simp only [List.mem_cons, List.not_mem_nil, or_false] at hb ⊢ <;> simp [hb]
    have hgr : Grows D w D (w2.setCell ⟨h.hb, 3, none⟩ (.bool false)) := Grows.same hkT.size
    refine ⟨rfl, D, { h with at_ := (q : Int), is := false }, HI.out.upd Hj.out hkT hgr rfl HBh3.out ⟨HHh.out, Hl3.out, ?_, Hho.out.plie⟩, ⟨rfl, rfl, hq, (decide_eq_false Hqn.out).symm, fun p' hp' => ?_⟩, hgr, hkT⟩
    · exact pr_ok ((encPr_ok Hho.out.pok).kb Hho.out.plie hkT (fun b hb hm => HI.out.nD b (hctl b hm) hb))
    · have h1 := (List.getElem?_eq_some_iff.1 hp').1
      rw [Hho.out.ls.len] at h1
      exact absurd h1 Hqn.out
end Go.Proofs.Ytedelkifadonjaa
