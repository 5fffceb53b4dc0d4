/- Layer 23: the least head of an iterator. -/
import Derived.Test.YtjkjlekfeelfpaaMsM
namespace Go.Proofs.Ytjkjlekfeelfpaa
open Go.RowKit Go.Lec Go.Op
set_option maxRecDepth 100000 in
theorem c_isI (w : World) {b : Nat} {cs : Array Value} (hb : Bk w b 38 cs) (h0 : cs[0]? = some (.int .i64 1)) :
    Calls Try.prog 36 #[.pointer (some ⟨b, 0, none⟩)] w fun e w' => e = .returned (.bool true) ∧ w' = w := by
  have q := (hb.cell 0).trans h0
  go_enter Try.func36, Try.ntmps36
  go_wp2
  go_ret
  exact ⟨rfl, rfl⟩
set_option maxRecDepth 100000 in
theorem c_counts (w : World) {D : Nat → Prop} {h : Hd} (hh : HdOk D w h) :
    Calls Try.prog 57 #[.pointer (some ⟨h.hb, 0, none⟩)] w fun e w' => e = .returned (.bool h.is) ∧ w' = w := by
  have q := hh.bk.cell 3
  go_enter Try.func57, Try.ntmps57
  go_wp2
  go_ret
  exact ⟨rfl, rfl⟩
/-- A truth that is one of a comparison. -/
def BoolP (w : World) (b : Bool) (e : Ending) (w' : World) : Prop := e = .returned (.bool b) ∧ Below w.heap.size w w'
set_option maxRecDepth 100000 in
theorem c_ahead (w : World) {D : Nat → Prop} {h g : Hd} (hh : HdOk D w h) (hg : HdOk D w g) :
    Calls Try.prog 58 #[.pointer (some ⟨h.hb, 0, none⟩), .pointer (some ⟨g.hb, 0, none⟩)] w (BoolP w (bytesLess h.p.key g.p.key)) := by
  have q1 := hh.bk.cell 1
  have q2 := hg.bk.cell 1
  have HC := Lib.hid (fun nq : Nat => c_bCompare (w.drewN nq) (c := h.p.c1) (c2 := g.p.c1) (hh.pok.1.drewN nq) (hg.pok.1.drewN nq))
  have hc := Lib.hid (cmp_neg_decide h.p.key g.p.key)
  clear hh hg
  go_enter Try.func58, Try.ntmps58
  go_wp2
  go_quiet (first | (go_at_call 32; exact Calls.quiet_of_same (HC.out _)))
  go_wp2
  go_ret
  exact ⟨congrArg (fun b => Ending.returned (.bool b)) hc.out, belowNm (Below.refl _ _) nq⟩
/-- What the heads stand at. -/
def heads (Hs : List Hd) : List (Option PairB) := Hs.map fun h => if h.is then some h.p.pl else none
/-- How the best of them is pointed at. -/
def BestV (Hs : List Hd) : Option (Nat × PairB) → Option Addr → Prop
  | none, a => a = none
  | some (i, p), a => ∃ h, Hs[i]? = some h ∧ h.is = true ∧ h.p.pl = p ∧ a = some ⟨h.hb, 0, none⟩
theorem ItM.stand {D : Nat → Prop} {w : World} {X : It} {st st' steps : Nat} (hI : ItM D w X st steps) : ItM D (w.setCell ⟨X.ib, 2, none⟩ (.int .i64 (st' : Int))) X st' steps := by
  have hk : Kb [X.ib] w (w.setCell ⟨X.ib, 2, none⟩ (.int .i64 (st' : Int))) := (Kb.refl _ _).setCell (.inl (by simp)) _
  have hD : ∀ b, D b → b ∉ [X.ib] := fun b hb hm => by rw [List.mem_singleton] at hm; exact hI.nD b (ctl_mem.2 (.inl hm)) hb
  exact ⟨hI.bk.set_ 2 _, rd_kb hI.row hI.rowD hk hD, hI.rowD, fun h hh => (hI.hds h hh).kb hk (by simpa using (hI.ne hh).1.symm) (by simpa using (hI.ne hh).2.1.symm) hD, hI.dj, hI.nD, hI.n⟩
def BestP (w : World) (X : It) (e : Ending) (w' : World) : Prop :=
  ∃ a, BestV X.Hs (bestF (heads X.Hs) 0 none) a ∧ e = .returned (.tuple #[.pointer a, .bool (bestF (heads X.Hs) 0 none).isSome]) ∧ Below w.heap.size w w'
theorem heads_drop {Hs : List Hd} {k : Nat} {h : Hd} (hk : Hs[k]? = some h) : (heads Hs).drop k = (if h.is then some h.p.pl else none) :: (heads Hs).drop (k + 1) := by
  obtain ⟨hl, he⟩ := List.getElem?_eq_some_iff.1 hk
  unfold heads
  rw [← List.map_drop, ← List.map_drop, List.drop_eq_getElem_cons hl, he, List.map_cons]
set_option maxRecDepth 100000 in
set_option maxHeartbeats 1600000 in
theorem c_best (w : World) {D : Nat → Prop} {X : It} {st steps : Nat} (hI : ItM D w X st steps) :
    Calls Try.prog 56 #[.slice X.A X.Hs.length X.c, .func (.func 57) #[] #[], .func (.func 58) #[] #[]] w (BestP w X) := by
  obtain ⟨R, hR⟩ : ∃ R, R = bestF (heads X.Hs) 0 none := ⟨_, rfl⟩
  unfold BestP
  rw [← hR]
  have HR := Lib.hid hR
  clear hR
  have hXn := hI.n
  obtain ⟨ib, A, cA, Hs⟩ := X
  dsimp only at hXn HR ⊢
  obtain ⟨n, hn⟩ : ∃ n, n = Hs.length := ⟨_, rfl⟩
  rw [← hn] at hXn ⊢
  have Hn := Lib.hid hn
  clear hn
  go_enter Try.func56, Try.ntmps56
  go_wp2
  go_loopw [8, 9, 14] (fun v8 v9 v14 wr => ∃ (k : Nat) (acc : Option (Nat × PairB)) (a : Option Addr), k ≤ n ∧ v8 = .pointer a ∧ v9 = .bool acc.isSome ∧ v14 = .int .i64 (k : Int) ∧ BestV Hs acc a ∧ Hid (R = bestF ((heads Hs).drop k) k acc) ∧ Below w.heap.size w wr) (fun _ _ v14 _ => n - (intOf v14).toNat)
  case atStart => exact ⟨0, none, none, Nat.zero_le _, rfl, rfl, rfl, rfl, Lib.hid HR.out, Below.refl _ _⟩
  case round =>
    obtain ⟨k, acc, a, hk, rfl, rfl, rfl, hbv, HB, hbw⟩ := hrel
    by_cases hlt : k < n
    · have hIr := hI.below hbw
      obtain ⟨h, hh⟩ : ∃ h, Hs[k]? = some h := ⟨_, List.getElem?_eq_getElem (by rw [← Hn.out]; exact hlt)⟩
      have hho := hIr.hds h (List.mem_of_getElem? hh)
      obtain ⟨b, o, hA, hbB, hc⟩ := hIr.row.2 (by dsimp only; rw [← Hn.out]; omega)
      dsimp only at hA
      subst hA
      have c0 : wr.cell? ⟨b, o + k, none⟩ = some (.pointer (some ⟨h.hb, 0, none⟩)) := hc k (.pointer (some ⟨h.hb, 0, none⟩)) (by rw [List.getElem?_map, hh]; rfl)
      have hd := heads_drop hh
      have HB1 := HB.out
      rw [hd] at HB1
      have HC1 := Lib.hid (c_counts wr hho)
      have Hh := Lib.hid hh
      clear hc hd hh
      cases his : h.is with
      | false =>
        have HB2 := Lib.hid (show R = bestF ((heads Hs).drop (k + 1)) (k + 1) acc from by rw [HB1, his]; cases acc <;> rfl)
        rw [his] at HC1
        clear HB1 HB his
        go_wp2_with (first | (go_at_call 57; (refine HC1.out.mono ?_); rintro e w1 ⟨rfl, rfl⟩))
        go_roundw
        case rel => exact ⟨k + 1, acc, a, by omega, rfl, rfl, by go_num, hbv, HB2, hbw⟩
        case measure => simp [intOf]; omega
      | true =>
        rw [his] at HC1
        rw [if_pos (by exact his)] at HB1
        cases acc with
        | none =>
          have HB2 := Lib.hid (show R = bestF ((heads Hs).drop (k + 1)) (k + 1) (some (k, h.p.pl)) from HB1)
          obtain rfl : a = none := hbv
          clear HB1 HB
          have his := Lib.hid his
          go_wp2_with (first | (go_at_call 57; (refine HC1.out.mono ?_); rintro e w1 ⟨rfl, rfl⟩))
          go_roundw
          case rel => exact ⟨k + 1, some (k, h.p.pl), _, by omega, rfl, rfl, by go_num, ⟨h, Hh.out, his.out, rfl, rfl⟩, HB2, hbw⟩
          case measure => simp [intOf]; omega
        | some r =>
          obtain ⟨i, p⟩ := r
          obtain ⟨g, hg, hgi, hgp, rfl⟩ := hbv
          have hgo := hIr.hds g (List.mem_of_getElem? hg)
          have HC2 := c_ahead wr hho hgo
          unfold BoolP at HC2
          have Hg := Lib.hid (show BestV Hs (some (i, p)) (some ⟨g.hb, 0, none⟩) from ⟨g, hg, hgi, hgp, rfl⟩)
          have his := Lib.hid his
          have hpk : p.1 = g.p.key := by rw [← hgp]; rfl
          rw [bestF, hpk] at HB1
          clear hg hgi hgp hgo hpk
          cases hless : bytesLess h.p.key g.p.key with
          | false =>
            have HB2 := Lib.hid (show R = bestF ((heads Hs).drop (k + 1)) (k + 1) (some (i, p)) from by rw [HB1, show h.p.pl.1 = h.p.key from rfl, hless]; rfl)
            rw [hless] at HC2
            have HC2 := Lib.hid HC2
            clear HB1 HB hless
            go_wp2_with (first | (go_at_call 57; (refine HC1.out.mono ?_); rintro e w1 ⟨rfl, rfl⟩) | (go_at_call 58; (refine HC2.out.mono ?_); rintro e w2 ⟨rfl, hb2⟩))
            go_roundw
            case rel => exact ⟨k + 1, _, _, by omega, rfl, rfl, by go_num, Hg.out, HB2, hbw.trans (hb2.mono hbw.size)⟩
            case measure => simp [intOf]; omega
          | true =>
            have HB2 := Lib.hid (show R = bestF ((heads Hs).drop (k + 1)) (k + 1) (some (k, h.p.pl)) from by rw [HB1, show h.p.pl.1 = h.p.key from rfl, hless]; rfl)
            rw [hless] at HC2
            have HC2 := Lib.hid HC2
            clear HB1 HB hless
            go_wp2_with (first | (go_at_call 57; (refine HC1.out.mono ?_); rintro e w1 ⟨rfl, rfl⟩) | (go_at_call 58; (refine HC2.out.mono ?_); rintro e w2 ⟨rfl, hb2⟩))
            go_roundw
            case rel => exact ⟨k + 1, some (k, h.p.pl), _, by omega, rfl, rfl, by go_num, ⟨h, Hh.out, his.out, rfl, rfl⟩, HB2, hbw.trans (hb2.mono hbw.size)⟩
            case measure => simp [intOf]; omega
    · have HB2 := HB.out
      rw [List.drop_eq_nil_of_le (by unfold heads; rw [List.length_map, ← Hn.out]; omega), bestF] at HB2
      subst HB2
      clear HB HR
      go_wp2
      go_ret2
      exact ⟨a, hbv, rfl, hbw⟩
def LeastP (w : World) (X : It) (e : Ending) (w' : World) : Prop :=
  ∃ a, BestV X.Hs (bestF (heads X.Hs) 0 none) a ∧ e = .returned (.pointer a) ∧ Below w.heap.size w w'
set_option maxRecDepth 100000 in
theorem c_least (w : World) {D : Nat → Prop} {X : It} {st steps : Nat} (hI : ItM D w X st steps) :
    Calls Try.prog 37 #[.pointer (some ⟨X.ib, 0, none⟩)] w (LeastP w X) := by
  have HC := c_best w hI
  unfold BestP at HC
  have HC := Lib.hid HC
  have q1 := hI.bk.cell 1
  clear hI
  go_enter Try.func37, Try.ntmps37
  go_wp2_with (first | (go_at_call 56; (refine HC.out.mono ?_); rintro e w1 ⟨a, ha, rfl, hb1⟩))
  go_ret
  exact ⟨a, ha, rfl, hb1⟩
def SettleP (D : Nat → Prop) (w : World) (X : It) (steps : Nat) (e : Ending) (w' : World) : Prop :=
  e = .returned (.bool (bestF (heads X.Hs) 0 none).isSome) ∧ ItM D w' X (if (bestF (heads X.Hs) 0 none).isSome then 1 else 2) steps ∧ Kb [X.ib] w w'
set_option maxRecDepth 100000 in
set_option maxHeartbeats 800000 in
theorem c_settle (w : World) {D : Nat → Prop} {X : It} {st steps : Nat} (hI : ItM D w X st steps) :
    Calls Try.prog 39 #[.pointer (some ⟨X.ib, 0, none⟩)] w (SettleP D w X steps) := by
  have HSet := Lib.hid (fun (W : World) (st0 st' : Nat) (h : ItM D W X st0 steps) => h.stand (st' := st'))
  have q2 := hI.bk.cell 2
  have z2 := hI.bk.frz 2
  have h1 := HSet.out w st 2 hI
  have HC := c_least _ h1
  unfold LeastP at HC
  have HC := Lib.hid HC
  have H1 := Lib.hid h1
  unfold SettleP
  obtain ⟨R, hR⟩ : ∃ R, R = bestF (heads X.Hs) 0 none := ⟨_, rfl⟩
  rw [← hR] at HC ⊢
  clear hR hI h1
  go_enter Try.func39, Try.ntmps39
  cases R with
  | none =>
    go_wp2_with (first | (go_at_call 37; (refine HC.out.mono ?_); rintro e w1 ⟨a, ha, rfl, hb1⟩; obtain rfl : a = none := ha; have h2 := H1.out.below hb1; have q := h2.bk.cell 2; have H2 := Lib.hid h2; clear h2 HC))
    go_ret
    exact ⟨rfl, H2.out, ((Kb.refl _ _).setCell (.inl (by simp)) _).then_ hb1 (by simp)⟩
  | some r =>
    go_wp2_with (first | (go_at_call 37; (refine HC.out.mono ?_); rintro e w1 ⟨a, ⟨g, hg1, hg2, hg3, rfl⟩, rfl, hb1⟩; have h2 := H1.out.below hb1; have q := h2.bk.cell 2; have q' := h2.bk.frz 2; have h3 := HSet.out w1 2 1 h2; have q3 := h3.bk.cell 2; have H3 := Lib.hid h3; have Hg1 := Lib.hid hg1; have Hg2 := Lib.hid hg2; have Hg3 := Lib.hid hg3; clear h2 HC h3 hg1 hg2 hg3))
    go_ret
    exact ⟨rfl, H3.out, (((Kb.refl _ _).setCell (.inl (by simp)) _).then_ hb1 (by simp)).setCell (.inl (by simp)) _⟩
end Go.Proofs.Ytjkjlekfeelfpaa
