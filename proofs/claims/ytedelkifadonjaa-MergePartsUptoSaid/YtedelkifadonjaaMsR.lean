/- Layer 23: First, Next, Seek, Pair, Steps of an iterator. -/
import Derived.Test.YtedelkifadonjaaMsP
namespace Go.Proofs.Ytedelkifadonjaa
open Go.RowKit Go.Lec Go.Op
/-- A head stands at a place. -/
structure StAt (h : Hd) (q : Nat) : Prop where
  at_ : h.at_ = (q : Int)
  le : q ≤ h.s.n
  is : h.is = decide (q < h.s.n)
  p : ∀ p, h.s.L[q]? = some p → h.p.pl = p.pl
theorem HdTo.st {h h' : Hd} {q : Nat} (t : HdTo h h' q) : StAt h' q := by
  have e : h'.s = h.s := congrArg (·.2.2) t.k
  exact ⟨t.at_, by rw [e]; exact t.le, by rw [e]; exact t.is, by rw [e]; exact t.p⟩
def Hd.l (h : Hd) : List PairB := h.s.L.map Pr.pl
/-- Its lists. -/
def lsK (K : List (Nat × Nat × Sl Pr)) : List (List PairB) := K.map fun k => k.2.2.L.map Pr.pl
theorem lsK_map (Hs : List Hd) : lsK (Hs.map Hd.k) = Hs.map Hd.l := by unfold lsK; rw [List.map_map]; rfl
theorem heads_at {D : List UInt8 → Bool} {Hs : List Hd} (h : ∀ x ∈ Hs, StAt x (posD D x.l)) (hl : ∀ x ∈ Hs, x.s.L.length = x.s.n) : heads Hs = headsD D (lsK (Hs.map Hd.k)) := by
  rw [lsK_map]
  unfold heads headsD
  rw [List.map_map]
  refine List.map_congr_left fun x hx => ?_
  have hs := h x hx
  have hn := hl x hx
  show (if x.is then some x.p.pl else none) = x.l[posD D x.l]?
  rw [hs.is]
  by_cases hq : posD D x.l < x.s.n
  · rw [if_pos (by simpa using hq)]
    obtain ⟨p, hp⟩ : ∃ p, x.s.L[posD D x.l]? = some p := ⟨_, List.getElem?_eq_getElem (by rw [hn]; exact hq)⟩
    rw [hs.p p hp]
    unfold Hd.l at hp ⊢
    rw [List.getElem?_map, hp]; rfl
  · rw [if_neg (by simpa using hq)]
    refine (List.getElem?_eq_none ?_).symm
    unfold Hd.l at hq ⊢
    rw [List.length_map]; omega
/-- All its heads stand where D ends. -/
structure AtD (Dn : List UInt8 → Bool) (Hs : List Hd) : Prop where
  at_ : ∀ x ∈ Hs, StAt x (posD Dn x.l)
/-- Where an iterator stands now, all heads moved; and what it says. -/
structure To (D : Nat → Prop) (w : World) (X : It) (steps : Nat) (Dn : List UInt8 → Bool) (D' : Nat → Prop) (Hs' : List Hd) (w' : World) : Prop where
  it : ItM D' w' { X with Hs := Hs' } (if (bestF (headsD Dn (lsK X.K)) 0 none).isSome then 1 else 2) steps
  k : Hs'.map Hd.k = X.K
  at_ : AtD Dn Hs'
  gr : Grows D w D' w'
  kb : Kb X.ctl w w'
def ToI (D : Nat → Prop) (w : World) (X : It) (steps : Nat) (Dn : List UInt8 → Bool) (e : Ending) (w' : World) : Prop :=
  e = .returned (.bool (bestF (headsD Dn (lsK X.K)) 0 none).isSome) ∧ ∃ D' Hs' steps', steps' ≤ steps + X.Hs.length ∧ To D w X steps' Dn D' Hs' w'
theorem len_k {Hs : List Hd} {X : It} (hk : Hs.map Hd.k = X.K) : Hs.length = X.Hs.length := by have := congrArg List.length hk; unfold It.K at this; simpa using this
theorem ctl_k {Hs : List Hd} {X : It} (hk : Hs.map Hd.k = X.K) : ({ X with Hs := Hs } : It).ctl = X.ctl := by unfold It.ctl; rw [show ({ X with Hs := Hs } : It).K = Hs.map Hd.k from rfl, hk]
theorem at_k {Hs : List Hd} {X : It} (hk : Hs.map Hd.k = X.K) {i : Nat} {h : Hd} (hh : Hs[i]? = some h) : ∃ h0, X.Hs[i]? = some h0 ∧ h.k = h0.k := by
  have := congrArg (fun l : List (Nat × Nat × Sl Pr) => l[i]?) hk
  unfold It.K at this
  simp only [List.getElem?_map, hh, Option.map_some] at this
  cases h0 : X.Hs[i]? with
  | none => rw [h0] at this; cases this
  | some g => rw [h0] at this; exact ⟨g, rfl, by simpa using this⟩
theorem set_k {Hs : List Hd} {X : It} (hk : Hs.map Hd.k = X.K) {i : Nat} {h h' : Hd} (hh : Hs[i]? = some h) (he : h'.k = h.k) : (Hs.set i h').map Hd.k = X.K := (set_map Hd.k Hs i h h' hh he).trans hk
/-- The heads before k have moved. -/
structure Pre (D : Nat → Prop) (w : World) (X : It) (st steps : Nat) (Dn : List UInt8 → Bool) (kk : Nat) (D' : Nat → Prop) (Hs' : List Hd) (w' : World) : Prop where
  it : ItM D' w' { X with Hs := Hs' } st steps
  k : Hs'.map Hd.k = X.K
  at_ : ∀ (i : Nat) (x : Hd), i < kk → Hs'[i]? = some x → StAt x (posD Dn x.l)
  rest : ∀ i, kk ≤ i → Hs'[i]? = X.Hs[i]?
  gr : Grows D w D' w'
  kb : Kb X.ctl w w'
section
variable {D D' D'' : Nat → Prop} {w w' w'' : World} {X : It} {st steps steps' k q : Nat} {Dn : List UInt8 → Bool} {Hs' : List Hd} {h h' : Hd}
theorem Pre.zero (hI : ItM D w X st steps) (Dn : List UInt8 → Bool) : Pre D w X st steps Dn 0 D X.Hs w := ⟨hI, rfl, (fun _ _ h => absurd h (by omega)), (fun _ _ => rfl), Grows.refl _ _, Kb.refl _ _⟩
theorem Pre.sub (hP : Pre D w X st steps Dn k D' Hs' w') (hh : Hs'[k]? = some h) : ∀ b ∈ [X.ib, h.hb, h.sb], b ∈ X.ctl := fun b hb => by
  rw [← ctl_k hP.k]
  have hm := List.mem_of_getElem? hh
  simp only [List.mem_cons, List.not_mem_nil, or_false] at hb
  rcases hb with rfl | rfl | rfl
  · exact ctl_mem.2 (.inl rfl)
  · exact ctl_mem.2 (.inr ⟨h, hm, .inl rfl⟩)
  · exact ctl_mem.2 (.inr ⟨h, hm, .inr rfl⟩)
/-- One more has moved. -/
theorem Pre.next (hP : Pre D w X st steps Dn k D' Hs' w') (hh : Hs'[k]? = some h) (hI : ItM D'' w'' { X with Hs := Hs'.set k h' } st steps') (ht : HdTo h h' q) (hq : q = posD Dn h.l) (hg : Grows D' w' D'' w'') (hk : Kb [X.ib, h.hb, h.sb] w' w'') :
    Pre D w X st steps' Dn (k + 1) D'' (Hs'.set k h') w'' := by
  have es : h'.s = h.s := congrArg (·.2.2) ht.k
  refine ⟨hI, set_k hP.k hh ht.k, fun i x hi hx => ?_, fun i hi => ?_, hP.gr.trans hg, hP.kb.trans hk (fun b hb => .inl (hP.sub hh b hb))⟩
  · rw [List.getElem?_set] at hx
    split at hx
    · split at hx
      · have hx := Option.some.inj hx
        subst hx
        have := ht.st
        rw [hq] at this
        unfold Hd.l at this ⊢
        rw [es]; exact this
      · cases hx
    · exact hP.at_ i x (by omega) hx
  · rw [List.getElem?_set_ne (by omega)]
    exact hP.rest i (by omega)
/-- One that stays. -/
theorem Pre.stay (hP : Pre D w X st steps Dn k D' Hs' w') (hh : Hs'[k]? = some h) (hs : StAt h (posD Dn h.l)) (hk : Below w'.heap.size w' w'') : Pre D w X st steps Dn (k + 1) D' Hs' w'' := by
  refine ⟨hP.it.below hk, hP.k, fun i x hi hx => ?_, fun i hi => hP.rest i (by omega), hP.gr.trans (Grows.same hk.size), hP.kb.trans (Kb.of_below hk (S := [])) (fun b hb => by cases hb)⟩
  rcases Nat.lt_or_ge i k with h1 | h1
  · exact hP.at_ i x h1 hx
  · obtain rfl : i = k := by omega
    rw [hh] at hx; cases hx; exact hs
theorem Pre.all (hP : Pre D w X st steps Dn k D' Hs' w') (hk : k = X.Hs.length) : AtD Dn Hs' := ⟨fun x hx => by
  obtain ⟨i, hi, he⟩ := List.getElem_of_mem hx
  exact hP.at_ i x (by rw [hk, ← len_k hP.k]; exact hi) (by rw [List.getElem?_eq_getElem hi, he])⟩
/-- Behind the loop. -/
theorem Pre.heads (hP : Pre D w X st steps Dn k D' Hs' w') (hk : k = X.Hs.length) : heads Hs' = headsD Dn (lsK X.K) := by
  rw [← hP.k]
  exact heads_at (hP.all hk).at_ fun x hx => (hP.it.hds x hx).ls.len
theorem Pre.to_ (hP : Pre D w X st steps Dn k D' Hs' w') (hk : k = X.Hs.length) (hI : ItM D' w'' { X with Hs := Hs' } (if (bestF (Go.Proofs.Ytedelkifadonjaa.heads Hs') 0 none).isSome then 1 else 2) steps) (hkb : Kb [X.ib] w' w'') : To D w X steps Dn D' Hs' w'' := by
  refine ⟨by rw [← hP.heads hk]; exact hI, hP.k, hP.all hk, hP.gr.trans (Grows.same hkb.size), hP.kb.trans hkb (fun b hb => .inl ?_)⟩
  rw [List.mem_singleton] at hb
  subst hb
  exact ctl_mem.2 (.inl rfl)
end
end Go.Proofs.Ytedelkifadonjaa
/- Layer 23: First, Next, Seek, Pair, Steps of an iterator: the walks. -/
namespace Go.Proofs.Ytedelkifadonjaa
open Go.RowKit Go.Lec Go.Op
theorem mv_of_to {D : Nat → Prop} {w w' : World} {sb k : Nat} {s : Sl Pr} {a : Int} {e : Ending} (h : LsM D w sb s a) (hD : ∀ b, D b → b ≠ sb) (hk : k ≤ s.n) (ht : ToP w sb s k e w') : MvTo D w sb s k e w' := by
  obtain ⟨h1, h2, h3⟩ := ht
  rw [Nat.min_eq_left hk] at h3
  exact ⟨h1, h2, h.to_ h2 hD h3⟩
section
variable {D : Nat → Prop} {w : World} {X : It} {st steps j q : Nat} {h : Hd}
theorem ItM.nDs (hI : ItM D w X st steps) (hj : X.Hs[j]? = some h) : ∀ b, D b → b ≠ h.sb := fun b hb e => hI.nD b (ctl_mem.2 (.inr ⟨h, List.mem_of_getElem? hj, .inr e⟩)) hb
theorem ItM.lsAt (hI : ItM D w X st steps) (hj : X.Hs[j]? = some h) {W : World} (hk : Kb [X.ib] w W) : LsM D W h.sb h.s h.at_ := by
  have hm := List.mem_of_getElem? hj
  refine (hI.hds h hm).ls.kb hk (by simpa using (hI.ne hm).2.1.symm) (fun b hb e => ?_)
  rw [List.mem_singleton] at e
  exact hI.nD b (ctl_mem.2 (.inl e)) hb
theorem c_mvFirst (hI : ItM D w X st steps) (hj : X.Hs[j]? = some h) (hst : steps ≤ 4611686018427387904) :
    Calls Try.prog 52 #[.pointer (some ⟨X.ib, 0, none⟩), .pointer (some ⟨h.hb, 0, none⟩), .func (.method "First") #[.iface 85 (.pointer (some ⟨h.sb, 0, none⟩))] #[]] w (MvP D w X st steps j h 0) :=
  c_moveFirst w hI hj (Nat.zero_le _) hst fun _ hk => (c_lFirst _ (hI.lsAt hj hk)).mono fun _ _ ht => mv_of_to (hI.lsAt hj hk) (hI.nDs hj) (Nat.zero_le _) ht
theorem c_mvNext (hI : ItM D w X st steps) (hj : X.Hs[j]? = some h) (hst : steps ≤ 4611686018427387904) (hq : h.at_ = (q : Int)) (hl : q < h.s.n) :
    Calls Try.prog 52 #[.pointer (some ⟨X.ib, 0, none⟩), .pointer (some ⟨h.hb, 0, none⟩), .func (.method "Next") #[.iface 85 (.pointer (some ⟨h.sb, 0, none⟩))] #[]] w (MvP D w X st steps j h (q + 1)) :=
  c_moveNext w hI hj (by omega) hst fun W hk => by
    have hL := hI.lsAt hj hk
    have hn := hL.n
    have e : h.at_ = ((q + 1 : Nat) : Int) - 1 := by rw [hq]; omega
    have hL2 := hL
    rw [e] at hL2
    exact (c_lNext W hL2 (by omega)).mono fun _ _ ht => mv_of_to hL (hI.nDs hj) (by omega) ht
end
theorem posD_of_srt {l : List Pr} (hs : Srt (l.map Pr.pl)) (key : List UInt8) : PosOf l key (posD (fun x => bytesLess x key) (l.map Pr.pl)) := by
  refine ⟨by have := posD_le (fun x => bytesLess x key) (l.map Pr.pl); rw [List.length_map] at this; exact this, fun t h => ?_⟩
  have ht : t < (l.map Pr.pl).length := by rw [List.length_map]; exact h
  have e : (l[t]).key = ((l.map Pr.pl)[t]).1 := by rw [List.getElem_map]; rfl
  rw [e]
  by_cases hp : t < posD (fun x => bytesLess x key) (l.map Pr.pl)
  · rw [decide_eq_true hp]; exact posD_lt (D := fun x => bytesLess x key) ht hp
  · rw [decide_eq_false hp]
    cases hb : bytesLess ((l.map Pr.pl)[t]).1 key with
    | false => rfl
    | true =>
      have hD : Down (fun x => bytesLess x key) := fun _ _ h1 h2 => less_trans h2 h1
      have h0 : posD (fun x => bytesLess x key) (l.map Pr.pl) < (l.map Pr.pl).length := by omega
      have h1 := posD_at (D := fun x => bytesLess x key) h0
      have h2 := srt_le hs h0 ht (by omega)
      have h1 : bytesLess _ key = false := h1
      rw [nless_less h2 hb] at h1
      cases h1
set_option maxRecDepth 100000 in
set_option maxHeartbeats 1600000 in
theorem c_seek1 (w : World) {D : Nat → Prop} {B2 nk ck p : Nat} {h : Hd} {hv kv : Nat} {Ak : Option Addr} {key : List UInt8} (hh : w.cell? ⟨h.hb, 0, none⟩ = some (.iface 85 (.pointer (some ⟨h.sb, 0, none⟩)))) (hl : LsM D w h.sb h.s h.at_) (hD : ∀ b, D b → b ≠ h.sb)
    (c0 : w.cell? ⟨hv, 0, none⟩ = some (.pointer (some ⟨h.hb, 0, none⟩))) (c1 : w.cell? ⟨kv, 0, none⟩ = some (.slice Ak nk ck)) (hk : Rd w B2 Ak nk (bcs key)) (hB2 : B2 ≤ w.heap.size) (hp : PosOf h.s.L key p) (n0 : h.hb ≠ h.sb) (n1 : hv ≠ h.sb) (n2 : kv ≠ h.sb) (l1 : hv < w.heap.size) (l2 : kv < w.heap.size) (l0 : h.hb < w.heap.size) :
    Calls Try.prog 85 #[.pointer (some ⟨hv, 0, none⟩), .pointer (some ⟨kv, 0, none⟩)] w (MvTo D w h.sb h.s p) := by
  have hpn : p ≤ h.s.n := by rw [← hl.len]; exact hp.le
  have HC := Lib.hid (c_lSeek w.drew (ck := ck) (hl.kb (Kb.refl [] w).drew (by simp) (by simp)) hD hk.drew hB2 hp)
  clear hl hk hp
  go_enter Try.func85, Try.ntmps85
  go_wp2
  have hHeld : (fun W : World => (W.cell? ⟨h.hb, 0, none⟩ = some (.iface 85 (.pointer (some ⟨h.sb, 0, none⟩))) ∧ W.cell? ⟨hv, 0, none⟩ = some (.pointer (some ⟨h.hb, 0, none⟩))) ∧ W.cell? ⟨kv, 0, none⟩ = some (.slice Ak nk ck)) w.drew := ⟨⟨hh, c0⟩, c1⟩
  refine wp_region_T (S := fun W : World => (W.cell? ⟨h.hb, 0, none⟩ = some (.iface 85 (.pointer (some ⟨h.sb, 0, none⟩))) ∧ W.cell? ⟨hv, 0, none⟩ = some (.pointer (some ⟨h.hb, 0, none⟩))) ∧ W.cell? ⟨kv, 0, none⟩ = some (.slice Ak nk ck)) (m := 7) (by kernel_rfl) ?_
  simp only [List.size_toArray, List.length_cons, List.length_nil, Nat.reduceAdd]
  refine tTake (i := 0) (v := ?_) rfl (by kernel_rfl) (by kernel_rfl) (by kernel_rfl) (by kernel_rfl) (fun _ _ _ h => h) hHeld (by rfl) ?_ ?_
  rotate_left
  · (intro w hSw; (try dsimp only at hSw); go_simp; try with_reducible rfl)
  try simp only [Act.put, List.setIfInBounds_toArray, List.set_cons_zero, List.set_cons_succ]
  refine tTake (i := 1) (v := ?_) rfl (by kernel_rfl) (by kernel_rfl) (by kernel_rfl) (by kernel_rfl) (fun _ _ _ h => h) hHeld (by rfl) ?_ ?_
  rotate_left
  · (intro w hSw; (try dsimp only at hSw); go_simp; try with_reducible rfl)
  try simp only [Act.put, List.setIfInBounds_toArray, List.set_cons_zero, List.set_cons_succ]
  refine tTake (i := 2) (v := ?_) rfl (by kernel_rfl) (by kernel_rfl) (by kernel_rfl) (by kernel_rfl) (fun _ _ _ h => h) hHeld (by rfl) ?_ ?_
  rotate_left
  · (intro w hSw; (try dsimp only at hSw); go_simp; try with_reducible rfl)
  try simp only [Act.put, List.setIfInBounds_toArray, List.set_cons_zero, List.set_cons_succ]
  refine tTake (i := 3) (v := ?_) rfl (by kernel_rfl) (by kernel_rfl) (by kernel_rfl) (by kernel_rfl) (fun _ _ _ h => h) hHeld (by rfl) ?_ ?_
  rotate_left
  · (intro w hSw; (try dsimp only at hSw); go_simp; try with_reducible rfl)
  try simp only [Act.put, List.setIfInBounds_toArray, List.set_cons_zero, List.set_cons_succ]
  refine tTake (i := 4) (v := ?_) rfl (by kernel_rfl) (by kernel_rfl) (by kernel_rfl) (by kernel_rfl) (fun _ _ _ h => h) hHeld (by rfl) ?_ ?_
  rotate_left
  · (intro w hSw; (try dsimp only at hSw); go_simp; try with_reducible rfl)
  try simp only [Act.put, List.setIfInBounds_toArray, List.set_cons_zero, List.set_cons_succ]
  refine tStep (i := 5) rfl (by kernel_rfl) (fun K hK => ?_)
  go_simp
  go_invoke
  go_simp
  go_at_call 89
  refine HC.out.mono ?_
  rintro e w2 ⟨rfl, hk2, hl2⟩
  have hHeldN : (fun W : World => (W.cell? ⟨h.hb, 0, none⟩ = some (.iface 85 (.pointer (some ⟨h.sb, 0, none⟩))) ∧ W.cell? ⟨hv, 0, none⟩ = some (.pointer (some ⟨h.hb, 0, none⟩))) ∧ W.cell? ⟨kv, 0, none⟩ = some (.slice Ak nk ck)) _ := ⟨⟨(hk2.cell (p := ⟨h.hb, 0, none⟩) l0 (by simpa using n0)).trans hh, (hk2.cell (p := ⟨hv, 0, none⟩) l1 (by simpa using n1)).trans c0⟩, (hk2.cell (p := ⟨kv, 0, none⟩) l2 (by simpa using n2)).trans c1⟩
  refine hK.out _ _ (fun _ => hHeldN) ?_
  clear hK K hHeld
  have hHeld := hHeldN
  clear hHeldN
  try simp only [Act.put, List.setIfInBounds_toArray, List.set_cons_zero, List.set_cons_succ]
  refine tTake (i := 6) (v := ?_) rfl (by kernel_rfl) (by kernel_rfl) (by kernel_rfl) (by kernel_rfl) (fun _ _ _ h => h) hHeld (by rfl) ?_ ?_
  rotate_left
  · (intro w hSw; (try dsimp only at hSw); go_simp; try with_reducible rfl)
  try simp only [Act.put, List.setIfInBounds_toArray, List.set_cons_zero, List.set_cons_succ]
  refine tDone (by kernel_rfl) ?_ _
  go_wp2
  go_ret
  exact ⟨rfl, ⟨hk2.os, hk2.tape, hk2.output, hk2.size, hk2.block⟩, by rw [Nat.min_eq_left hpn] at hl2; exact hl2⟩
section
variable {D : Nat → Prop} {w : World} {X : It} {st steps j q B2 nk ck hv kv : Nat} {h : Hd} {Ak : Option Addr} {key : List UInt8}
theorem c_mvSeek (hI : ItM D w X st steps) (hj : X.Hs[j]? = some h) (hst : steps ≤ 4611686018427387904) (c0 : w.cell? ⟨hv, 0, none⟩ = some (.pointer (some ⟨h.hb, 0, none⟩))) (c1 : w.cell? ⟨kv, 0, none⟩ = some (.slice Ak nk ck))
    (hvl : hv < w.heap.size) (hvn : hv ∉ X.ctl) (kvl : kv < w.heap.size) (kvn : kv ∉ X.ctl) (hk : Rd w w.heap.size Ak nk (bcs key)) (hkn : 0 < nk → ∀ a, Ak = some a → a.block ≠ X.ib) (hp : PosOf h.s.L key q) :
    Calls Try.prog 52 #[.pointer (some ⟨X.ib, 0, none⟩), .pointer (some ⟨h.hb, 0, none⟩), .func (.func 85) #[] #[.pointer (some ⟨hv, 0, none⟩), .pointer (some ⟨kv, 0, none⟩)]] w (MvP D w X st steps j h q) :=
  c_moveSeek w hI hj (by have := hp.le; have := (hI.hds h (List.mem_of_getElem? hj)).ls.len; omega) hst fun W hkb => by
    have hm := List.mem_of_getElem? hj
    have hb := (hI.hds h hm).bk.kb hkb (by simpa using (hI.ne hm).1.symm)
    have e1 : ∀ b, b ∉ X.ctl → b ≠ X.ib ∧ b ≠ h.sb := fun b hb => ⟨fun e => hb (ctl_mem.2 (.inl e)), fun e => hb (ctl_mem.2 (.inr ⟨h, hm, .inr e⟩))⟩
    exact c_seek1 W (hb.cell 0) (hI.lsAt hj hkb) (hI.nDs hj) ((hkb.cell hvl (by simpa using (e1 _ hvn).1)).trans c0) ((hkb.cell kvl (by simpa using (e1 _ kvn).1)).trans c1)
      (rd_kb (D := fun b => b ≠ X.ib) hk hkn hkb (by simp)) (Nat.le_refl _) hp (hI.ne hm).2.2 (e1 _ hvn).2 (e1 _ kvn).2 (Nat.lt_of_lt_of_le hvl hkb.size) (Nat.lt_of_lt_of_le kvl hkb.size) hb.lt
end
end Go.Proofs.Ytedelkifadonjaa
/- Layer 23: First, Seek, Next, Pair, Steps of an iterator: the contracts. -/
namespace Go.Proofs.Ytedelkifadonjaa
open Go.RowKit Go.Lec Go.Op
def noneD : List UInt8 → Bool := fun _ => false
theorem posD_none : ∀ l : List PairB, posD noneD l = 0
  | [] => rfl
  | _ :: _ => rfl
theorem Pre.grow {D D' : Nat → Prop} {w w' w'' : World} {X : It} {st steps k : Nat} {Dn : List UInt8 → Bool} {Hs' : List Hd} (hP : Pre D w X st steps Dn k D' Hs' w') (hk : Below w'.heap.size w' w'') : Pre D w X st steps Dn k D' Hs' w'' :=
  ⟨hP.it.below hk, hP.k, hP.at_, hP.rest, hP.gr.trans (Grows.same hk.size), hP.kb.trans (Kb.of_below hk (S := [])) (fun b hb => by cases hb)⟩
theorem To.from_ {D D' : Nat → Prop} {w w1 w' : World} {X : It} {steps : Nat} {Dn : List UInt8 → Bool} {Hs' : List Hd} (h : To D w1 X steps Dn D' Hs' w') (hb : Below w.heap.size w w1) : To D w X steps Dn D' Hs' w' :=
  ⟨h.it, h.k, h.at_, (Grows.same hb.size).trans h.gr, (Kb.of_below hb (S := X.ctl)).trans h.kb (fun _ hb => .inl hb)⟩
set_option maxRecDepth 100000 in
set_option maxHeartbeats 1600000 in
theorem c_IFirst (w : World) {D : Nat → Prop} {X : It} {st steps : Nat} (hI : ItM D w X st steps) (hst : steps ≤ 2305843009213693952) :
    Calls Try.prog 32 #[.pointer (some ⟨X.ib, 0, none⟩)] w (ToI D w X steps noneD) := by
  have hn := hI.n
  obtain ⟨ib, A, cA, Hs⟩ := X
  have HC := Lib.hid (c_isI w hI.bk rfl)
  have q1 := hI.bk.cell 1
  dsimp only at hn q1 HC
  obtain ⟨n, hnn⟩ : ∃ n, n = Hs.length := ⟨_, rfl⟩
  rw [← hnn] at hn q1
  have Hn := Lib.hid hnn
  have HI := Lib.hid hI
  clear hnn hI
  dsimp only
  go_enter Try.func32, Try.ntmps32
  go_wp2_with (first | (go_at_call 51; (refine HC.out.mono ?_); rintro e w1 ⟨rfl, rfl⟩))
  go_loopw [13] (fun v13 wr => ∃ (k : Nat) (D' : Nat → Prop) (Hs' : List Hd), k ≤ n ∧ v13 = .int .i64 (k : Int) ∧ Pre D w1 ⟨ib, A, cA, Hs⟩ st (steps + k) noneD k D' Hs' wr) (fun v13 _ => n - (intOf v13).toNat)
  case atStart => exact ⟨0, D, Hs, Nat.zero_le _, rfl, Pre.zero HI.out _⟩
  case round =>
    obtain ⟨k, D', Hs', hk, rfl, hP⟩ := hrel
    clear q1
    by_cases hlt : k < n
    · have hI' := hP.it
      have hlen : Hs'.length = n := by have := len_k hP.k; dsimp only at this; rw [this, Hn.out]
      obtain ⟨h, hh⟩ : ∃ h, Hs'[k]? = some h := ⟨_, List.getElem?_eq_getElem (by omega)⟩
      have hm := List.mem_of_getElem? hh
      have hho := hI'.hds h hm
      obtain ⟨b, o, hA, hbB, hc⟩ := hI'.row.2 (by dsimp only; omega)
      dsimp only at hA
      subst hA
      have c0 : wr.cell? ⟨b, o + k, none⟩ = some (.pointer (some ⟨h.hb, 0, none⟩)) := hc k (.pointer (some ⟨h.hb, 0, none⟩)) (by rw [List.getElem?_map, hh]; rfl)
      have c1 := hho.bk.cell 0
      have HM := c_mvFirst hI' hh (by omega)
      unfold MvP at HM
      have HM := Lib.hid HM
      have HP := Lib.hid hP
      have Hh := Lib.hid hh
      clear hc hho hI' hP hh HC
      go_wp2_with (first | (go_at_call 52; (refine HM.out.mono ?_); rintro e w2 ⟨rfl, D2, h2, hI2, ht, hg, hkb⟩))
      refine ⟨⟨k + 1, D2, Hs'.set k h2, by omega, by go_num, HP.out.next Hh.out hI2 ht (posD_none _).symm hg hkb⟩, by simp [intOf]; omega⟩
    · obtain rfl : k = n := by omega
      have HSt := c_settle _ hP.it
      unfold SettleP at HSt
      have HSt := Lib.hid HSt
      have HP := Lib.hid hP
      clear hP HC
      go_wp2_with (first | (go_at_call 53; (refine HSt.out.mono ?_); rintro e w2 ⟨rfl, hI2, hkb⟩))
      go_ret
      exact ⟨by rw [← HP.out.heads Hn.out]; rfl, D', Hs', steps + k, by dsimp only; have := Hn.out; omega, HP.out.to_ Hn.out hI2 hkb⟩
set_option maxRecDepth 100000 in
set_option maxHeartbeats 1600000 in
theorem c_ISeek (w : World) {D : Nat → Prop} {X : It} {st steps B nk ck : Nat} {Ak : Option Addr} {key : List UInt8} (hI : ItM D w X st steps) (hst : steps ≤ 2305843009213693952) (hk : Rd w B Ak nk (bcs key)) (hB : B ≤ w.heap.size) (hkc : 0 < nk → ∀ a, Ak = some a → a.block ∉ X.ctl) (hsr : ∀ l ∈ lsK X.K, Srt l) :
    Calls Try.prog 84 #[.pointer (some ⟨X.ib, 0, none⟩), .slice Ak nk ck] w (ToI D w X steps (fun x => bytesLess x key)) := by
  have hn := hI.n
  have hb0 := (Below.refl w.heap.size w).alloc (Nat.le_refl _) (.cells #[.slice Ak nk ck] 23)
  have N0 := Bk.new_ w 23 #[.slice Ak nk ck]
  have hI0 := hI.below hb0
  have hk0 : Rd (w.alloc (.cells #[.slice Ak nk ck] 23)) (w.alloc (.cells #[.slice Ak nk ck] 23)).heap.size Ak nk (bcs key) := (hk.below hb0 hB).more (by rw [World.size_alloc]; omega)
  have hkv : w.heap.size ∉ X.ctl := fun hm => by have := hI.lt _ hm; omega
  unfold ToI
  obtain ⟨w0, hw0⟩ : ∃ W, W = w.alloc (.cells #[.slice Ak nk ck] 23) := ⟨_, rfl⟩
  have hz0 : w0.heap.size = w.heap.size + 1 := by rw [hw0]; simp
  obtain ⟨kv, hkve⟩ : ∃ kv, kv = w.heap.size := ⟨_, rfl⟩
  rw [← hw0] at hb0 N0 hI0 hk0
  obtain ⟨ib, A, cA, Hs⟩ := X
  have HC := Lib.hid (c_isI w0 hI0.bk rfl)
  have q1 := hI0.bk.cell 1
  dsimp only at hn q1 HC hkc hkv ⊢
  obtain ⟨n, hnn⟩ : ∃ n, n = Hs.length := ⟨_, rfl⟩
  rw [← hnn] at hn q1
  have Hn := Lib.hid hnn
  have HI := Lib.hid hI0
  have HKc := Lib.hid hkc
  have Hsr := Lib.hid hsr
  have Hb0 := Lib.hid hb0
  rw [← hkve] at N0 hkv
  have HK0 := Lib.hid hk0
  have Hkv := Lib.hid hkv
  have HN0 := Lib.hid N0
  have hkl : kv < w0.heap.size := N0.lt
  clear hnn hI hI0 hkc hsr hb0 hk hk0 hkv N0 hz0
  go_enter Try.func84, Try.ntmps84
  go_wp2_with fail
  rw [← hw0, ← hkve]
  clear hw0 hkve
  refine HC.out.mono ?_
  rintro e w1 ⟨rfl, rfl⟩
  clear HC
  go_wp2
  go_loopw [15] (fun v15 wr => ∃ (k : Nat) (D' : Nat → Prop) (Hs' : List Hd), k ≤ n ∧ v15 = .int .i64 (k : Int) ∧ Pre D w1 ⟨ib, A, cA, Hs⟩ st (steps + k) (fun x => bytesLess x key) k D' Hs' wr) (fun v15 _ => n - (intOf v15).toNat)
  case atStart => exact ⟨0, D, Hs, Nat.zero_le _, rfl, Pre.zero HI.out _⟩
  case round =>
    obtain ⟨k, D', Hs', hk, rfl, hP⟩ := hrel
    clear q1
    by_cases hlt : k < n
    · have hI' := hP.it
      have hlen : Hs'.length = n := by have := len_k hP.k; dsimp only at this; rw [this, Hn.out]
      obtain ⟨h, hh⟩ : ∃ h, Hs'[k]? = some h := ⟨_, List.getElem?_eq_getElem (by omega)⟩
      have hm := List.mem_of_getElem? hh
      have hho := hI'.hds h hm
      obtain ⟨b, o, hA, hbB, hc⟩ := hI'.row.2 (by dsimp only; omega)
      dsimp only at hA
      subst hA
      have c0 : wr.cell? ⟨b, o + k, none⟩ = some (.pointer (some ⟨h.hb, 0, none⟩)) := hc k (.pointer (some ⟨h.hb, 0, none⟩)) (by rw [List.getElem?_map, hh]; rfl)
      have hb4 := (Below.refl wr.heap.size wr).alloc (Nat.le_refl _) (.cells #[.pointer (some ⟨h.hb, 0, none⟩)] 73)
      have N4 := Bk.new_ wr 73 #[.pointer (some ⟨h.hb, 0, none⟩)]
      have HP4 := hP.grow hb4
      have hkv4 := ((HN0.out.kb hP.kb Hkv.out).below hb4 (Nat.lt_of_lt_of_le hkl hP.kb.size)).cell 0
      have hvn : wr.heap.size ∉ (⟨ib, some ⟨b, o, none⟩, cA, Hs'⟩ : It).ctl := fun hmm => by have := hI'.lt _ hmm; omega
      have hkvn : kv ∉ (⟨ib, some ⟨b, o, none⟩, cA, Hs'⟩ : It).ctl := by rw [ctl_k hP.k]; exact Hkv.out
      have hkn' : 0 < nk → ∀ a, Ak = some a → a.block ∉ (⟨ib, some ⟨b, o, none⟩, cA, Hs'⟩ : It).ctl := fun h0 a ha => by rw [ctl_k hP.k]; exact HKc.out h0 a ha
      have hkr := rd_kb (D := fun x => x ∉ (⟨ib, some ⟨b, o, none⟩, cA, Hs⟩ : It).ctl) HK0.out HKc.out hP.kb (fun _ hb => hb)
      have hkr4 := (hkr.below hb4 (Nat.le_refl _)).more hb4.size
      have hsrt : Srt (h.s.L.map Pr.pl) := Hsr.out _ (List.mem_map.2 ⟨h.k, by rw [← hP.k]; exact List.mem_map.2 ⟨h, hm, rfl⟩, rfl⟩)
      have HM := c_mvSeek HP4.it hh (by omega) (N4.cell 0) hkv4 N4.lt hvn (by rw [World.size_alloc]; have := hP.kb.size; omega) hkvn hkr4 (fun h0 a ha e => hkn' h0 a ha (ctl_mem.2 (.inl e))) (posD_of_srt hsrt key)
      unfold MvP at HM
      have HM := Lib.hid HM
      have HP := Lib.hid HP4
      have Hh := Lib.hid hh
      clear hc hho hI' hP hh hb4 HP4 hkv4 hvn hkvn hkn' hkr hkr4 hsrt hm N4
      go_wp2_with (first | (go_at_call 52; (refine HM.out.mono ?_); rintro e w2 ⟨rfl, D2, h2, hI2, ht, hg, hkb⟩))
      refine ⟨⟨k + 1, D2, Hs'.set k h2, by omega, by go_num, HP.out.next Hh.out hI2 ht rfl hg hkb⟩, by simp [intOf]; omega⟩
    · obtain rfl : k = n := by omega
      have HSt := c_settle _ hP.it
      unfold SettleP at HSt
      have HSt := Lib.hid HSt
      have HP := Lib.hid hP
      clear hP
      go_wp2_with (first | (go_at_call 53; (refine HSt.out.mono ?_); rintro e w2 ⟨rfl, hI2, hkb⟩))
      go_ret
      exact ⟨by rw [← HP.out.heads Hn.out]; rfl, D', Hs', steps + k, by have := Hn.out; omega, (HP.out.to_ Hn.out hI2 hkb).from_ Hb0.out⟩
end Go.Proofs.Ytedelkifadonjaa
/- Layer 23: Next, Pair, Steps of an iterator: the contracts. -/
namespace Go.Proofs.Ytedelkifadonjaa
open Go.RowKit Go.Lec Go.Op
set_option maxRecDepth 100000 in
theorem c_INext2 (w : World) {D : Nat → Prop} {X : It} {steps : Nat} (hI : ItM D w X 2 steps) :
    Calls Try.prog 33 #[.pointer (some ⟨X.ib, 0, none⟩)] w fun e w' => e = .returned (.bool false) ∧ w' = w := by
  have HC := Lib.hid (c_isI w hI.bk rfl)
  have q2 := hI.bk.cell 2
  clear hI
  go_enter Try.func33, Try.ntmps33
  go_wp2_with (first | (go_at_call 51; (refine HC.out.mono ?_); rintro e w1 ⟨rfl, rfl⟩))
  go_ret
  exact ⟨rfl, rfl⟩
set_option maxRecDepth 100000 in
theorem c_INext0 (w : World) {D : Nat → Prop} {X : It} {steps : Nat} (hI : ItM D w X 0 steps) (hst : steps ≤ 2305843009213693952) :
    Calls Try.prog 33 #[.pointer (some ⟨X.ib, 0, none⟩)] w (ToI D w X steps noneD) := by
  have HC := Lib.hid (c_isI w hI.bk rfl)
  have q2 := hI.bk.cell 2
  have HF := Lib.hid (c_IFirst w hI hst)
  unfold ToI at HF ⊢
  clear hI
  go_enter Try.func33, Try.ntmps33
  go_wp2_with (first | (go_at_call 51; (refine HC.out.mono ?_); rintro e w1 ⟨rfl, rfl⟩) | (go_at_call 32; (refine HF.out.mono ?_); rintro e w2 ⟨rfl, h2⟩))
  go_ret
  exact ⟨rfl, h2⟩
/-- One head, one step on. -/
theorem up_at {Dn : List UInt8 → Bool} (hD : Down Dn) {h : Hd} (hs : Srt h.l) (hl : h.s.L.length = h.s.n) (ha : StAt h (posD Dn h.l)) {key : List UInt8} (hk : Dn key = false) (hmin : ∀ q, h.is = true → q = h.p.pl → bytesLess q.1 key = false) :
    (h.is = true → h.p.key = key → posD Dn h.l < h.s.n ∧ posD (upD key) h.l = posD Dn h.l + 1) ∧ ((h.is = false ∨ h.p.key ≠ key) → posD (upD key) h.l = posD Dn h.l) := by
  have hll : h.l.length = h.s.n := by unfold Hd.l; rw [List.length_map, hl]
  have hat : ∀ hlt : posD Dn h.l < h.l.length, h.l[posD Dn h.l] = h.p.pl := fun hlt => by
    have hlt' : posD Dn h.l < h.s.L.length := by rw [hl, ← hll]; exact hlt
    rw [ha.p _ (List.getElem?_eq_getElem hlt')]
    exact List.getElem_map Pr.pl
  have hup := up_list hD hs hk (fun hlt => by
    rw [hat hlt]
    exact hmin _ (by rw [ha.is]; simpa [hll] using hlt) rfl)
  rw [hup]
  constructor
  · intro h1 h2
    rw [ha.is] at h1
    have h1 : posD Dn h.l < h.s.n := by simpa using h1
    refine ⟨h1, ?_⟩
    rw [dif_pos (by rw [hll]; exact h1), if_pos (by rw [hat (by rw [hll]; exact h1)]; exact h2)]
  · intro h1
    split
    · rename_i hlt
      rw [if_neg]
      rw [hat hlt]
      rcases h1 with h1 | h1
      · rw [ha.is] at h1
        have : ¬ posD Dn h.l < h.s.n := by simpa using h1
        rw [hll] at hlt
        exact absurd hlt this
      · exact h1
    · rfl
set_option maxRecDepth 100000 in
set_option maxHeartbeats 1600000 in
theorem c_INext1 (w : World) {D : Nat → Prop} {X : It} {steps i : Nat} {Dn : List UInt8 → Bool} {p : PairB} (hI : ItM D w X 1 steps) (hst : steps ≤ 2305843009213693952) (hD : Down Dn) (hat : AtD Dn X.Hs) (hsr : ∀ l ∈ lsK X.K, Srt l) (hbest : bestF (headsD Dn (lsK X.K)) 0 none = some (i, p)) :
    Calls Try.prog 33 #[.pointer (some ⟨X.ib, 0, none⟩)] w (ToI D w X steps (upD p.1)) := by
  have hn := hI.n
  have hheads : heads X.Hs = headsD Dn (lsK X.K) := heads_at hat.at_ fun x hx => (hI.hds x hx).ls.len
  have hlen : ∀ x ∈ X.Hs, x.s.L.length = x.s.n := fun x hx => (hI.hds x hx).ls.len
  have hok := best_ok (headsD Dn (lsK X.K))
  rw [hbest] at hok
  obtain ⟨hi1, hi2, hi3⟩ := hok
  rw [← hheads] at hi2 hi3 hbest
  have hDp : Dn p.1 = false := by
    unfold heads at hi2
    rw [List.getElem?_map] at hi2
    cases hg : X.Hs[i]? with
    | none => rw [hg] at hi2; cases hi2
    | some g =>
      rw [hg] at hi2
      have hm := List.mem_of_getElem? hg
      have ha := hat.at_ g hm
      have his : g.is = true := by
        cases h : g.is with
        | true => rfl
        | false => rw [Option.map_some, h] at hi2; cases hi2
      rw [Option.map_some, his] at hi2
      have hpe : g.p.pl = p := Option.some.inj (Option.some.inj hi2)
      rw [ha.is] at his
      have hlt : posD Dn g.l < g.s.n := by simpa using his
      have hll := hlen g hm
      have hlt' : posD Dn g.l < g.s.L.length := by omega
      have := ha.p _ (List.getElem?_eq_getElem hlt')
      have hlt2 : posD Dn g.l < g.l.length := by unfold Hd.l at hlt' ⊢; rw [List.length_map]; exact hlt'
      have h3 := posD_at (D := Dn) (l := g.l) hlt2
      have e : g.l[posD Dn g.l] = (g.s.L[posD Dn g.l]).pl := List.getElem_map Pr.pl
      rw [← hpe, this, ← e]
      exact h3
  have hmin : ∀ (x : Hd), x ∈ X.Hs → x.is = true → bytesLess x.p.pl.1 p.1 = false := fun x hx his => by
    obtain ⟨j, hj, he⟩ := List.getElem_of_mem hx
    refine (hi3 j x.p.pl (by unfold heads; rw [List.length_map]; exact hj) ?_).1
    unfold heads
    rw [List.getElem?_map, List.getElem?_eq_getElem hj, he, Option.map_some, his]; rfl
  have HUp := Lib.hid (fun (x : Hd) (hx : x ∈ X.Hs) => up_at hD (hsr x.l (List.mem_map.2 ⟨x.k, List.mem_map.2 ⟨x, hx, rfl⟩, rfl⟩)) (hlen x hx) (hat.at_ x hx) hDp (fun q his e => by rw [e]; exact hmin x hx his))
  have Hat := Lib.hid hat
  unfold ToI
  clear hheads hlen hi1 hi2 hi3 hDp hmin hsr hat
  have hL := c_least w hI
  unfold LeastP at hL
  rw [hbest] at hL
  obtain ⟨ib, A, cA, Hs⟩ := X
  have HC := Lib.hid (c_isI w hI.bk rfl)
  have HL := Lib.hid hL
  have q1 := hI.bk.cell 1
  have q2 := hI.bk.cell 2
  dsimp only at hn q1 q2 HC HL HUp Hat
  obtain ⟨n, hnn⟩ : ∃ n, n = Hs.length := ⟨_, rfl⟩
  rw [← hnn] at hn q1
  have Hn := Lib.hid hnn
  have HI := Lib.hid hI
  clear hnn hL hbest hI
  go_enter Try.func33, Try.ntmps33
  go_wp2_with (first | (go_at_call 51; (refine HC.out.mono ?_); rintro e w1 ⟨rfl, rfl⟩) | (go_at_call 54; (refine HL.out.mono ?_); rintro e w2 ⟨a, ⟨g, hg1, hg2, hg3, rfl⟩, rfl, hb2⟩; have h2 := HI.out.below hb2; have hgo := h2.hds g (List.mem_of_getElem? hg1); have hg0 := HI.out.hds g (List.mem_of_getElem? hg1); have qg := hgo.bk.cell 1; have qi := h2.bk.cell 1; have H2 := Lib.hid h2; have HK := Lib.hid (And.intro hg0.pok.1 hg0.plie); have Hg3 := Lib.hid hg3; dsimp only at qi; rw [← Hn.out] at qi; clear h2 hgo hg0 hg1 hg2 hg3 HL HC))
  go_loopw [34] (fun v34 wr => ∃ (k : Nat) (D' : Nat → Prop) (Hs' : List Hd) (steps' : Nat), k ≤ n ∧ v34 = .int .i64 (k : Int) ∧ steps' ≤ steps + k ∧ Pre D w1 ⟨ib, A, cA, Hs⟩ 1 steps' (upD p.1) k D' Hs' wr) (fun v34 _ => n - (intOf v34).toNat)
  case atStart => exact ⟨0, D, Hs, steps, Nat.zero_le _, rfl, Nat.le_refl _, (Pre.zero HI.out _).grow hb2⟩
  case round =>
    obtain ⟨k, D', Hs', steps', hk, rfl, hsp, hP⟩ := hrel
    clear q1 q2 qg qi
    by_cases hlt : k < n
    · have hI' := hP.it
      have hlen : Hs'.length = n := by have := len_k hP.k; dsimp only at this; rw [this, Hn.out]
      obtain ⟨h, hh⟩ : ∃ h, Hs'[k]? = some h := ⟨_, List.getElem?_eq_getElem (by omega)⟩
      have hm := List.mem_of_getElem? hh
      have hho := hI'.hds h hm
      have hh0 : Hs[k]? = some h := by rw [← hP.rest k (Nat.le_refl _)]; exact hh
      have hst0 := Hat.out.at_ h (List.mem_of_getElem? hh0)
      have hup := HUp.out h (List.mem_of_getElem? hh0)
      obtain ⟨b, o, hA, hbB, hc⟩ := hI'.row.2 (by dsimp only; omega)
      dsimp only at hA
      subst hA
      have c0 : wr.cell? ⟨b, o + k, none⟩ = some (.pointer (some ⟨h.hb, 0, none⟩)) := hc k (.pointer (some ⟨h.hb, 0, none⟩)) (by rw [List.getElem?_map, hh]; rfl)
      have c1 := hho.bk.cell 0
      have c2 := hho.bk.cell 1
      have c3 := hho.bk.cell 3
      have hkr := rd_kb (D := D) HK.out.1 (fun hn a ha => HK.out.2 _ List.mem_cons_self hn a ha) hP.kb (fun x hx hm => HI.out.nD x hm hx)
      have hpk : p.1 = g.p.key := by rw [← Hg3.out]; rfl
      have HE := Lib.hid (c_bEqual wr (c := h.p.c1) (c2 := g.p.c1) hho.pok.1 hkr)
      have HP := Lib.hid hP
      have Hh := Lib.hid hh
      have Hst := Lib.hid hst0
      rw [hpk] at hup
      have Hpk := Lib.hid hpk
      cases his : h.is with
      | false =>
        have hq := hup.2 (.inl his)
        have HSt := Lib.hid (show StAt h (posD (upD p.1) h.l) by rw [hpk, hq]; exact hst0)
        rw [his] at c3
        clear hc hho hI' hP hh hm hh0 hst0 hup hkr hpk hq his
        go_wp2
        refine ⟨⟨k + 1, D', Hs', steps', by omega, by go_num, by omega, HP.out.stay Hh.out HSt.out (Below.refl _ _)⟩, by simp [intOf]; omega⟩
      | true =>
        by_cases hke : h.p.key = g.p.key
        · have hq := hup.1 his hke
          have HM := c_mvNext hI' hh (by omega) hst0.at_ hq.1
          unfold MvP at HM
          have HM := Lib.hid HM
          have Hq := Lib.hid (show posD Dn h.l + 1 = posD (upD p.1) h.l by rw [hpk]; exact hq.2.symm)
          rw [decide_eq_true hke] at HE
          rw [his] at c3
          clear hc hho hI' hP hh hm hh0 hst0 hup hkr hpk hq his hke
          go_wp2_with (first | (go_at_call 41; (refine HE.out.mono ?_); rintro e w3 ⟨rfl, rfl⟩) | (go_at_call 52; (refine HM.out.mono ?_); rintro e w4 ⟨rfl, D2, h2, hI2, ht, hg, hkb⟩))
          refine ⟨⟨k + 1, D2, Hs'.set k h2, steps' + 1, by omega, by go_num, by omega, HP.out.next Hh.out hI2 ht Hq.out hg hkb⟩, by simp [intOf]; omega⟩
        · have hq := hup.2 (.inr hke)
          have HSt := Lib.hid (show StAt h (posD (upD p.1) h.l) by rw [hpk, hq]; exact hst0)
          rw [decide_eq_false hke] at HE
          rw [his] at c3
          clear hc hho hI' hP hh hm hh0 hst0 hup hkr hpk hq his hke
          go_wp2_with (first | (go_at_call 41; (refine HE.out.mono ?_); rintro e w3 ⟨rfl, rfl⟩))
          refine ⟨⟨k + 1, D', Hs', steps', by omega, by go_num, by omega, HP.out.stay Hh.out HSt.out (Below.refl _ _)⟩, by simp [intOf]; omega⟩
    · obtain rfl : k = n := by omega
      have HSt := c_settle _ hP.it
      unfold SettleP at HSt
      have HSt := Lib.hid HSt
      have HP := Lib.hid hP
      clear hP
      go_wp2_with (first | (go_at_call 53; (refine HSt.out.mono ?_); rintro e w2 ⟨rfl, hI2, hkb⟩))
      go_ret
      exact ⟨(by rw [← HP.out.heads Hn.out]; rfl), D', Hs', steps', by have := Hn.out; show steps' ≤ steps + Hs.length; omega, HP.out.to_ Hn.out hI2 hkb⟩
/-- No pair. -/
def NoPair (w : World) (e : Ending) (w' : World) : Prop := e = .returned (.tuple #[.agg #[.slice none 0 0, .slice none 0 0], .bool false]) ∧ Below w.heap.size w w'
set_option maxRecDepth 100000 in
theorem c_IPairN (w : World) {D : Nat → Prop} {X : It} {st steps : Nat} (hI : ItM D w X st steps) (hst : st ≠ 1) (hs2 : st ≤ 2) :
    Calls Try.prog 34 #[.pointer (some ⟨X.ib, 0, none⟩)] w (NoPair w) := by
  have hb0 := (Below.refl w.heap.size w).alloc (Nat.le_refl _) (.cells #[.slice none 0 0, .slice none 0 0] 56)
  have hI0 := hI.below hb0
  have N := Bk.new_ w 56 #[.slice none 0 0, .slice none 0 0]
  obtain ⟨W, hW⟩ : ∃ W, W = w.alloc (.cells #[.slice none 0 0, .slice none 0 0] 56) := ⟨_, rfl⟩
  rw [← hW] at hI0 N hb0
  have HC := Lib.hid (c_isI W hI0.bk rfl)
  have q2 := hI0.bk.cell 2
  have x0 := N.cell 0
  have x1 := N.cell 1
  have y0 := N.frz 0
  have y1 := N.frz 1
  have hne : decide ((st : Int) = 1) = false := by simp; omega
  have hne2 : ((st : Int) == 1) = false := by simp; omega
  have hne3 : ((st : Int) != 1) = true := by simp; omega
  have Hb := Lib.hid hb0
  have HN := Lib.hid N
  clear hI hI0 hb0 N hst
  go_enter Try.func34, Try.ntmps34
  go_wp2_with fail
  rw [← hW]
  clear hW
  refine HC.out.mono ?_
  rintro e w1 ⟨rfl, rfl⟩
  go_wp2
  have N2 := (HN.out.set_ 0 (.slice none 0 0)).set_ 1 (.slice none 0 0)
  have g0 := N2.cell 0
  have g1 := N2.cell 1
  exact bodyPost_ret (v := .tuple #[.agg #[.slice none 0 0, .slice none 0 0], .bool false]) (by simp [results, Try.results34, go_sem, g0, g1]) rfl ⟨rfl, (Hb.out.setCell (by dsimp only; omega) _).setCell (by dsimp only; omega) _⟩
end Go.Proofs.Ytedelkifadonjaa
/- Layer 23: Pair of an iterator; how one is made (New). -/
namespace Go.Proofs.Ytedelkifadonjaa
open Go.RowKit Go.Lec Go.Op
set_option maxRecDepth 100000 in
set_option maxHeartbeats 1600000 in
theorem c_IPair1 (w : World) {D : Nat → Prop} {X : It} {steps i : Nat} {p : PairB} (hI : ItM D w X 1 steps) (hb : bestF (heads X.Hs) 0 none = some (i, p)) :
    Calls Try.prog 34 #[.pointer (some ⟨X.ib, 0, none⟩)] w (PairP w p) := by
  have hb0 := (Below.refl w.heap.size w).alloc (Nat.le_refl _) (.cells #[.slice none 0 0, .slice none 0 0] 56)
  have hI0 := hI.below hb0
  have N := Bk.new_ w 56 #[.slice none 0 0, .slice none 0 0]
  obtain ⟨W, hW⟩ : ∃ W, W = w.alloc (.cells #[.slice none 0 0, .slice none 0 0] 56) := ⟨_, rfl⟩
  have hz0 : W.heap.size = w.heap.size + 1 := by rw [hW]; simp
  rw [← hW] at hI0 N hb0
  have HC := Lib.hid (c_isI W hI0.bk rfl)
  have HL := c_least W hI0
  unfold LeastP at HL
  rw [hb] at HL
  have HL := Lib.hid HL
  have q2 := hI0.bk.cell 2
  have Hb := Lib.hid hb0
  have HN := Lib.hid N
  have HI := Lib.hid hI0
  clear hI hI0 hb0 N hb
  go_enter Try.func34, Try.ntmps34
  go_wp2_with fail
  rw [← hW]
  clear hW
  refine HC.out.mono ?_
  rintro e w1 ⟨rfl, rfl⟩
  go_wp2_with fail
  refine HL.out.mono ?_
  rintro e w2 ⟨a, ⟨g, hg1, hg2, hg3, rfl⟩, rfl, hb2⟩
  have h2 := HI.out.below hb2
  have hgo := h2.hds g (List.mem_of_getElem? hg1)
  have c1 := hgo.bk.cell 1
  have c2 := hgo.bk.cell 2
  have HT := c_mTwin w2 g.p hgo.pok (Nat.le_refl _)
  unfold MTwinP at HT
  have HT := Lib.hid HT
  have Hg3 := Lib.hid hg3
  clear h2 hgo hg1 hg2 hg3 HL HC
  go_wp2_with fail
  refine HT.out.mono ?_
  rintro e w3 ⟨m, rfl, hm1, hm2, hm3, hb3⟩
  have N3 := (HN.out.below hb2 HN.out.lt).below hb3 (HN.out.below hb2 HN.out.lt).lt
  have x0 := N3.cell 0
  have x1 := N3.cell 1
  have y0 := N3.frz 0
  have y1 := N3.frz 1
  have N4 := (N3.set_ 0 (.slice m.A1 m.n1 m.c1)).set_ 1 (.slice m.A2 m.n2 m.c2)
  have g0 := N4.cell 0
  have g1 := N4.cell 1
  have hz2 := hb2.size
  have hm6 := (encPr_ok hm1).setFar (p := ⟨w.heap.size, 0, none⟩) ((encPr_hi hm2).imp fun b hb e => by have h : w2.heap.size ≤ b := hb; dsimp only at e; omega) (.slice m.A1 m.n1 m.c1)
  have hm7 := hm6.setFar (p := ⟨w.heap.size, 1, none⟩) ((encPr_hi hm2).imp fun b hb e => by have h : w2.heap.size ≤ b := hb; dsimp only at e; omega) (.slice m.A2 m.n2 m.c2)
  have hbf := (((Hb.out.trans (hb2.mono (by omega))).trans (hb3.mono (by omega))).setCell (p := ⟨w.heap.size, 0, none⟩) (Nat.le_refl _) (.slice m.A1 m.n1 m.c1)).setCell (p := ⟨w.heap.size, 1, none⟩) (Nat.le_refl _) (.slice m.A2 m.n2 m.c2)
  have hp : m.pl = p := by rw [← Hg3.out]; exact hm3
  have hp := Lib.hid hp
  clear N3 N4 hm1 hb2 hb3 hm6 HT hm3
  have hmf := Lib.hid (pr_ok hm7)
  have hmh := Lib.hid (hm2.mono (show w.heap.size ≤ w2.heap.size by omega))
  have hbf := Lib.hid hbf
  clear hm7 hm2
  go_wp2
  refine bodyPost_ret (v := .tuple #[.agg #[.slice m.A1 m.n1 m.c1, .slice m.A2 m.n2 m.c2], .bool true]) (by simp [results, Try.results34, go_sem, g0, g1]) rfl ⟨m, rfl, ?_, hmh.out, hp.out, hbf.out⟩
  have := hmf.out
  simpa only [World.size_setCell] using this
/-- A source's value: a list, or none. -/
def srcV : Option (Nat × Sl Pr) → Value
  | none => .nilIface
  | some (sb, _) => .iface 85 (.pointer (some ⟨sb, 0, none⟩))
/-- Sources that are ready: each list at its beginning, all in blocks of their own. -/
structure Srcs (D : Nat → Prop) (w : World) (Ss : List (Option (Nat × Sl Pr))) : Prop where
  ls : ∀ k, some k ∈ Ss → LsM D w k.1 k.2 (-1) ∧ ¬ D k.1
  dj : ∀ (i j : Nat) (a b : Nat × Sl Pr), Ss[i]? = some (some a) → Ss[j]? = some (some b) → a.1 = b.1 → i = j
def Hd.src (h : Hd) : Nat × Sl Pr := (h.sb, h.s)
def NewP (D : Nat → Prop) (w : World) (Ss : List (Option (Nat × Sl Pr))) (e : Ending) (w' : World) : Prop :=
  ∃ X D', e = .returned (.pointer (some ⟨X.ib, 0, none⟩)) ∧ ItM D' w' X 0 0 ∧ X.Hs.map Hd.src = Ss.filterMap id ∧ Below w.heap.size w w' ∧ Grows D w D' w' ∧ w.heap.size ≤ X.ib ∧ ∀ h ∈ X.Hs, w.heap.size ≤ h.hb
theorem infoHd : (Try.prog.info? 73).map (fun i => (i.zero, i.size, i.bytes)) = some (some (.pointer none), 1, 8) := by kernel_rfl
theorem slhM : SlK Try.prog 70 73 (.pointer none) 8 1 := ⟨Try.underlying70, info_parts infoHd, rfl, by decide⟩
def zPr : Pr := ⟨none, 0, 0, [], none, 0, 0, []⟩
theorem zPr_ok (w : World) (B : Nat) : zPr.ok w B := ⟨Rd.nil_, Rd.nil_, Nat.le_refl _, Nat.le_refl _, by decide, by decide⟩
theorem zPr_lie (D : Nat → Prop) : encPr.lie D zPr := fun p hp hn => by
  simp only [encPr, zPr, List.mem_cons, List.not_mem_nil, or_false] at hp
  rcases hp with rfl | rfl <;> exact absurd hn (by decide)
/-- The heads that have been made. -/
structure Mk (D : Nat → Prop) (w : World) (Ss : List (Option (Nat × Sl Pr))) (ib k : Nat) (Hs : List Hd) (v : Value) (wr : World) : Prop where
  bk : Bk wr ib 72 #[.int .i64 1, v, .int .i64 0, .int .i64 0]
  own : OwnK wr (ib + 1) 73 1 v Hs.length (Hs.map Hd.ptr)
  src : Hs.map Hd.src = (Ss.take k).filterMap id
  ok : ∀ h ∈ Hs, HdOk D wr h ∧ ib + 1 ≤ h.hb ∧ v.ownBlock ≠ some h.hb
  dj : ∀ (i j : Nat) (a b : Hd), Hs[i]? = some a → Hs[j]? = some b → (a.hb = b.hb ∨ a.sb = b.sb) → i = j
  below : Below w.heap.size w wr
  size : ib + 1 ≤ wr.heap.size
theorem kb_grown {w w' : World} {x : Option Nat} (h : w.grownBy w' x) : Kb x.toList w w' :=
  ⟨h.os, h.tape, h.output, h.size, fun k hk hn => h.block k hk fun e => hn (by rw [← e]; simp)⟩
section
variable {D : Nat → Prop} {w wr w' : World} {Ss : List (Option (Nat × Sl Pr))} {ib k sb c2 : Nat} {Hs : List Hd} {v v' : Value} {s : Sl Pr} {A2 : Option Addr}
theorem Mk.mem (hM : Mk D w Ss ib k Hs v wr) {h : Hd} (hh : h ∈ Hs) : ∃ i, i < k ∧ Ss[i]? = some (some h.src) := by
  have h1 : h.src ∈ (Ss.take k).filterMap id := by rw [← hM.src]; exact List.mem_map.2 ⟨h, hh, rfl⟩
  obtain ⟨o, ho, he⟩ := List.mem_filterMap.1 h1
  have he : o = some h.src := he
  subst he
  obtain ⟨i, hi, hx⟩ := List.getElem_of_mem ho
  have hik : i < k := by rw [List.length_take] at hi; omega
  refine ⟨i, hik, ?_⟩
  have := List.getElem?_eq_getElem hi
  rw [List.getElem?_take, if_pos hik] at this
  rw [this, hx]
def newHd (hb sb : Nat) (s : Sl Pr) : Hd := ⟨hb, sb, s, -1, false, zPr⟩
/-- One more head. -/
theorem Mk.next (hM : Mk D w Ss ib k Hs v wr) (hS : Srcs D w Ss) (hib : ib = w.heap.size) (hD : ∀ b, D b → b < w.heap.size) (hk : Ss[k]? = some (some (sb, s)))
    (ho : OwnK w' (ib + 1) 73 1 v' (Hs.length + 1) (Hs.map Hd.ptr ++ [.pointer (some ⟨wr.heap.size, 0, none⟩)]))
    (hg : (wr.alloc (.cells #[.iface 85 (.pointer (some ⟨sb, 0, none⟩)), .slice none 0 0, .slice none 0 0, .bool false] 75)).grownBy w' v.ownBlock)
    (hat : v'.ownBlock = v.ownBlock ∨ ∃ g, v'.ownBlock = some g ∧ (wr.alloc (.cells #[.iface 85 (.pointer (some ⟨sb, 0, none⟩)), .slice none 0 0, .slice none 0 0, .bool false] 75)).heap.size ≤ g) :
    Mk D w Ss ib (k + 1) (Hs ++ [newHd wr.heap.size sb s]) v' (w'.setCell ⟨ib, 1, none⟩ v') := by
  have hb4 := (Below.refl wr.heap.size wr).alloc (Nat.le_refl _) (.cells #[.iface 85 (.pointer (some ⟨sb, 0, none⟩)), .slice none 0 0, .slice none 0 0, .bool false] 75)
  have N4 := Bk.new_ wr 75 #[.iface 85 (.pointer (some ⟨sb, 0, none⟩)), .slice none 0 0, .slice none 0 0, .bool false]
  obtain ⟨W, hW⟩ : ∃ W, W = wr.alloc (.cells #[.iface 85 (.pointer (some ⟨sb, 0, none⟩)), .slice none 0 0, .slice none 0 0, .bool false] 75) := ⟨_, rfl⟩
  have hz : W.heap.size = wr.heap.size + 1 := by rw [hW]; simp
  rw [← hW] at hg hat hb4 N4
  have hown := hM.own.lt
  have hsz := hM.size
  have hk9 : Kb (v.ownBlock.toList ++ [ib]) W (w'.setCell ⟨ib, 1, none⟩ v') := ((kb_grown hg).more (fun b hb => List.mem_append_left _ hb)).setCell (.inl (by simp)) _
  have hnS : ∀ b, b ∉ v.ownBlock.toList ++ [ib] ↔ (v.ownBlock ≠ some b ∧ b ≠ ib) := fun b => by
    rw [List.mem_append, List.mem_singleton, Option.mem_toList]
    constructor
    · exact fun h => ⟨fun e => h (.inl e), fun e => h (.inr e)⟩
    · rintro ⟨h1, h2⟩ (h | h)
      · exact h1 h
      · exact h2 h
  have hDS : ∀ b, D b → b ∉ v.ownBlock.toList ++ [ib] := fun b hb => by
    rw [hnS]
    have := hD b hb
    exact ⟨fun e => by have := (hown _ e).1; omega, by omega⟩
  have hsbl : ∀ (i : Nat) (a : Nat × Sl Pr), Ss[i]? = some (some a) → a.1 < w.heap.size := fun i a hi => (hS.ls a (List.mem_of_getElem? hi)).1.bk.lt
  have hsbn : ∀ (i : Nat) (a : Nat × Sl Pr), Ss[i]? = some (some a) → a.1 ∉ v.ownBlock.toList ++ [ib] := fun i a hi => by
    have := hsbl i a hi
    rw [hnS]
    exact ⟨fun e => by have := (hown _ e).1; omega, by omega⟩
  have hvne : ∀ b, b < W.heap.size → v.ownBlock ≠ some b → v'.ownBlock ≠ some b := fun b hb hn => by
    rcases hat with e | ⟨g, e, hgs⟩
    · rw [e]; exact hn
    · rw [e]; intro e2; cases e2; omega
  obtain ⟨hls, hnD⟩ := hS.ls _ (List.mem_of_getElem? hk)
  have hkl : k < Ss.length := (List.getElem?_eq_some_iff.1 hk).1
  refine ⟨((hM.bk.below hb4 hM.bk.lt).grownX hg (fun e => ?_)).set_ 1 v', ?_, ?_, ?_, ?_, ?_, ?_⟩
  · have := (hown _ e.symm).1; omega
  · refine (OwnK.far (by rw [List.map_append, List.length_append]; exact ho) (fun e => ?_) _)
    have e : v'.ownBlock = some ib := e
    rcases hat with e2 | ⟨g, e2, hgs⟩
    · rw [e2] at e; have := (hown _ e).1; omega
    · rw [e2] at e; cases e; omega
  · rw [List.take_succ_eq_append_getElem hkl, List.filterMap_append, List.map_append, hM.src, (List.getElem?_eq_some_iff.1 hk).2]; rfl
  · intro h hh
    rcases List.mem_append.1 hh with hh | hh
    · obtain ⟨h1, h2, h3⟩ := hM.ok h hh
      obtain ⟨i, hik, hi⟩ := hM.mem hh
      have hl := h1.bk.lt
      exact ⟨(h1.kb (Kb.of_below hb4) (S := []) (by simp) (by simp) (by simp)).kb hk9 ((hnS _).2 ⟨h3, by omega⟩) (hsbn i _ hi) hDS, h2, hvne _ (by omega) h3⟩
    · rw [List.mem_singleton] at hh
      subst hh
      have hvn : v.ownBlock ≠ some wr.heap.size := fun e => by have := (hown _ e).2; omega
      refine ⟨⟨N4.kb hk9 ((hnS _).2 ⟨hvn, by omega⟩), ?_, zPr_ok _ _, zPr_lie _⟩, by show ib + 1 ≤ wr.heap.size; omega, hvne _ (by show wr.heap.size < _; omega) hvn⟩
      exact ((hls.kb (Kb.of_below (hM.below.trans (hb4.mono hM.below.size))) (S := []) (by simp) (by simp))).kb hk9 (hsbn k _ hk) hDS
  · intro i j a b hi hj hab
    have hget : ∀ (i : Nat) (a : Hd), (Hs ++ [newHd wr.heap.size sb s])[i]? = some a → (i < Hs.length ∧ Hs[i]? = some a) ∨ (i = Hs.length ∧ a = newHd wr.heap.size sb s) := fun i a h => by
      rcases Nat.lt_or_ge i Hs.length with h1 | h1
      · rw [List.getElem?_append_left h1] at h; exact .inl ⟨h1, h⟩
      · rw [List.getElem?_append_right h1, List.getElem?_singleton] at h
        split at h
        · cases h; exact .inr ⟨by omega, rfl⟩
        · cases h
    have hold : ∀ (a : Hd), a ∈ Hs → (a.hb = wr.heap.size ∨ a.sb = sb) → False := fun a ha h => by
      rcases h with h | h
      · have := (hM.ok a ha).1.bk.lt; omega
      · obtain ⟨i, hik, hi⟩ := hM.mem ha
        have := hS.dj i k _ _ hi hk h
        omega
    rcases hget i a hi with ⟨h1, h2⟩ | ⟨h1, rfl⟩ <;> rcases hget j b hj with ⟨h3, h4⟩ | ⟨h3, rfl⟩
    · exact hM.dj i j a b h2 h4 hab
    · exact absurd (hold a (List.mem_of_getElem? h2) hab) id
    · exact absurd (hold b (List.mem_of_getElem? h4) (hab.imp Eq.symm Eq.symm)) id
    · omega
  · have h1 : Below w.heap.size w w' := (hM.below.trans (hb4.mono hM.below.size)).grown hg (by have := hM.below.size; omega) (fun g e => by have := (hown g e).1; omega)
    exact h1.setCell (by show _ ≤ ib; omega) _
  · rw [World.size_setCell]; have := hg.size; omega
/-- All heads are made. -/
theorem Mk.done (hM : Mk D w Ss ib k Hs (.slice A2 Hs.length c2) wr) (hS : Srcs D w Ss) (hib : ib = w.heap.size) (hD : ∀ b, D b → b < w.heap.size) (hn : k ≤ 100000) (hl : Ss.length = k) :
    NewP D w Ss (.returned (.pointer (some ⟨ib, 0, none⟩))) wr := by
  have hown := hM.own.lt
  have hlen : Hs.length ≤ k := by
    have h1 := congrArg List.length hM.src
    rw [List.length_map] at h1
    have h2 := List.length_filterMap_le (id : Option (Nat × Sl Pr) → Option (Nat × Sl Pr)) (Ss.take k)
    rw [List.length_take] at h2
    omega
  refine ⟨⟨ib, A2, c2, Hs⟩, fun b => D b ∨ (Value.slice A2 Hs.length c2).ownBlock = some b, rfl, ⟨hM.bk, ?_, ?_, ?_, ?_, ?_, by dsimp only; omega⟩, by rw [hM.src, ← hl, List.take_length], hM.below, ⟨fun _ h => .inl h, ?_, hM.below.size⟩, by dsimp only; omega, fun h hh => by have := (hM.ok h hh).2.1; omega⟩
  · have := hM.own.rd
    refine ⟨by rw [List.length_map], fun h0 => ?_⟩
    obtain ⟨b, o, e, hb, hc⟩ := this.2 h0
    exact ⟨b, o, e, hb, hc⟩
  · intro _ a ha
    dsimp only at ha
    subst ha
    exact .inr rfl
  · exact fun h hh => (hM.ok h hh).1.imp fun _ hb => .inl hb
  · intro i j k1 k2 h1 h2 h3
    unfold It.K at h1 h2
    rw [List.getElem?_map] at h1 h2
    dsimp only at h1 h2
    cases ha : Hs[i]? with
    | none => rw [ha] at h1; cases h1
    | some a =>
      cases hb : Hs[j]? with
      | none => rw [hb] at h2; cases h2
      | some b =>
        rw [ha] at h1; rw [hb] at h2
        cases h1; cases h2
        exact hM.dj i j a b ha hb h3
  · intro b hb hD'
    rcases ctl_mem.1 hb with rfl | ⟨h, hh, e⟩
    · rcases hD' with h1 | h1
      · have := hD _ h1; omega
      · have := (hown _ h1).1; omega
    · obtain ⟨h1, h2, h3⟩ := hM.ok h hh
      obtain ⟨i, hik, hi⟩ := hM.mem hh
      obtain ⟨hls, hnD⟩ := hS.ls _ (List.mem_of_getElem? hi)
      have hsl := hls.bk.lt
      rcases e with rfl | rfl
      · rcases hD' with h4 | h4
        · have := hD _ h4; omega
        · exact h3 h4
      · rcases hD' with h4 | h4
        · exact hnD h4
        · have h5 := (hown _ h4).1
          have h6 : h.sb < w.heap.size := hsl
          omega
  · intro b hb
    rcases hb with h1 | h1
    · exact .inl h1
    · have := hown _ h1; exact .inr ⟨by omega, this.2⟩
end
set_option maxRecDepth 100000 in
set_option maxHeartbeats 1600000 in
theorem c_New (w : World) {D : Nat → Prop} {B n c : Nat} {A : Option Addr} {Ss : List (Option (Nat × Sl Pr))} (hr : Rd w B A n (Ss.map srcV)) (hB : B ≤ w.heap.size) (hS : Srcs D w Ss) (hn : n ≤ 100000) (hD : ∀ b, D b → b < w.heap.size) :
    Calls Try.prog 11 #[.slice A n c] w (NewP D w Ss) := by
  have hl : Ss.length = n := by have := hr.1; rw [List.length_map] at this; exact this
  have Hl := Lib.hid hl
  obtain ⟨ib, hib⟩ : ∃ ib, ib = w.heap.size := ⟨_, rfl⟩
  obtain ⟨w0, hw0⟩ : ∃ W, W = w.alloc (.cells #[.int .i64 1, .slice none 0 0, .int .i64 0, .int .i64 0] 72) := ⟨_, rfl⟩
  have hb0 := (Below.refl w.heap.size w).alloc (Nat.le_refl _) (.cells #[.int .i64 1, .slice none 0 0, .int .i64 0, .int .i64 0] 72)
  have N0 := Bk.new_ w 72 #[.int .i64 1, .slice none 0 0, .int .i64 0, .int .i64 0]
  have hz0 : w0.heap.size = w.heap.size + 1 := by rw [hw0]; simp
  rw [← hw0] at hb0 N0
  rw [← hib] at N0
  have HM0 : Mk D w Ss ib 0 [] (.slice none 0 0) w0 := ⟨N0, OwnK.nil_ _ _ _ _, rfl, (fun _ h => by cases h), (fun _ _ _ _ h => by cases h), hb0, by omega⟩
  have HM0 := Lib.hid HM0
  have Hr := Lib.hid hr
  have HS := Lib.hid hS
  have HD := Lib.hid hD
  have Hib := Lib.hid hib
  clear hl hr hS hb0 N0 hz0 hD
  go_enter Try.func11, Try.ntmps11
  go_wp2
  rw [← hw0, ← hib]
  clear hw0 hib
  go_loopw [10] (fun v10 wr => ∃ (k : Nat) (Hs : List Hd) (v : Value), k ≤ n ∧ v10 = .int .i64 (k : Int) ∧ Mk D w Ss ib k Hs v wr) (fun v10 _ => n - (intOf v10).toNat)
  case atStart => exact ⟨0, [], _, Nat.zero_le _, rfl, HM0.out⟩
  case round =>
    obtain ⟨k, Hs, v, hk, rfl, hM⟩ := hrel
    clear HM0
    by_cases hlt : k < n
    · have hkl : k < Ss.length := by rw [Hl.out]; exact hlt
      obtain ⟨b, o, rfl, hbB, hc⟩ := Hr.out.2 (by omega)
      have c0 := (hM.below.cell (p := ⟨b, o + k, none⟩) (by dsimp only; omega)).trans (hc k (srcV Ss[k]) (by rw [List.getElem?_map, List.getElem?_eq_getElem hkl]; rfl))
      have htk : Ss.take (k + 1) = Ss.take k ++ [Ss[k]] := List.take_succ_eq_append_getElem hkl
      have hke : Ss[k]? = some Ss[k] := List.getElem?_eq_getElem hkl
      cases hsk : Ss[k] with
      | none =>
        have HM2 : Mk D w Ss ib (k + 1) Hs v wr := ⟨hM.bk, hM.own, by rw [htk, hsk, List.filterMap_append]; simpa using hM.src, hM.ok, hM.dj, hM.below, hM.size⟩
        have HM2 := Lib.hid HM2
        rw [hsk, srcV] at c0
        clear hM hc htk hke hsk
        go_wp2
        exact ⟨⟨k + 1, Hs, v, by omega, by go_num, HM2.out⟩, by simp [intOf]; omega⟩
      | some sk =>
        obtain ⟨sb, s⟩ := sk
        have hmem : some (sb, s) ∈ Ss := by rw [← hsk]; exact List.getElem_mem _
        obtain ⟨hls, hnD⟩ := HS.out.ls _ hmem
        rw [hsk, srcV] at c0
        obtain ⟨A2, c2, rfl, hc2⟩ := hM.own.shape
        have q1 := hM.bk.cell 1
        have z1 := hM.bk.frz 1
        clear hc
        have HM := Lib.hid hM
        have hlen : Hs.length ≤ 100000 := by
          have h1 := congrArg List.length hM.src
          rw [List.length_map] at h1
          have h2 := List.length_filterMap_le (id : Option (Nat × Sl Pr) → Option (Nat × Sl Pr)) (Ss.take k)
          rw [List.length_take] at h2
          omega
        have Hk := Lib.hid (show Ss[k]? = some (some (sb, s)) by rw [hke, hsk])
        have hzz := hM.size
        have hii := hM.bk.lt
        have hoN : ∀ g, (Value.slice A2 Hs.length c2).ownBlock = some g → ib + 1 ≤ g := fun g e => (hM.own.lt g e).1
        clear hM hsk hke htk hmem hls hnD
        go_wp2_with (first
          | (at_builtin; ((refine wpList_appK_new (m := 1) (c := 1) rfl (.tmp 20) (.tmp 24) rfl slhM (by decide) rfl (HM.out.own.alloc _) (Below.refl _ _) (by rw [World.size_alloc]; omega) (by rw [World.size_alloc]; rfl) rfl (news := [.pointer (some ⟨wr.heap.size, 0, none⟩)]) (by intro u hu; rw [List.mem_singleton] at hu; subst hu; rfl) (by omega) ?_); intro v2 w2 ho2 hb2 hg2 hat2 hs2; obtain ⟨A3, c3, rfl, hc3⟩ := ho2.shape; have HN := Lib.hid (HM.out.next HS.out Hib.out HD.out Hk.out ho2 hg2 hat2); have hb5 := ((HM.out.bk.alloc (.cells #[.iface 85 (.pointer (some ⟨sb, 0, none⟩)), .slice none 0 0, .slice none 0 0, .bool false] 75)).grownX hg2 (fun e => by have := hoN _ e.symm; omega)); have z5 := hb5.frz 1; have q5 := hb5.cell 1; clear ho2 hg2 hat2 hb5 hb2)))
        exact ⟨⟨k + 1, _, _, by omega, by go_num, HN.out⟩, by simp [intOf]; omega⟩
    · obtain rfl : k = n := by omega
      obtain ⟨A2, c2, rfl, hc2⟩ := hM.own.shape
      have HM := Lib.hid hM
      clear hM
      go_wp2
      go_ret
      exact HM.out.done HS.out Hib.out HD.out hn Hl.out
end Go.Proofs.Ytedelkifadonjaa
/- Layer 23: an iterator stands where one over all pairs would. -/
namespace Go.Lec
theorem best_some {ls : List (List PairB)} {all : List PairB} {D : List UInt8 → Bool} (hD : Down D) (ha : AllOf ls.flatten all) (hs : ∀ l ∈ ls, Srt l) : (bestF (headsD D ls) 0 none).isSome = decide (posD D all < all.length) := by
  obtain ⟨h1, h2⟩ := best_all hD ha hs
  cases hb : bestF (headsD D ls) 0 none with
  | none => have := h2 hb; simp [this]
  | some r =>
    have := h1 r.1 r.2 hb
    have := (List.getElem?_eq_some_iff.1 this).1
    simp [this]
theorem posD_up {D : List UInt8 → Bool} (hD : Down D) {all : List PairB} (hs : Srt all) {p : PairB} (hp : all[posD D all]? = some p) : posD (upD p.1) all = posD D all + 1 := by
  obtain ⟨hl, he⟩ := List.getElem?_eq_some_iff.1 hp
  have h1 := posD_at hl
  rw [he] at h1
  rw [up_list hD hs h1 (fun h => by rw [he]; exact less_irr _), dif_pos hl, if_pos (by rw [he])]
end Go.Lec
namespace Go.Proofs.Ytedelkifadonjaa
open Go.RowKit Go.Lec Go.Op
/-- The lists of an iterator make all of these pairs. -/
structure Makes (X : It) (all : List PairB) : Prop where
  all : AllOf (lsK X.K).flatten all
  srt : ∀ l ∈ lsK X.K, Srt l
/-- An iterator that stands at place q of all. -/
structure ItAt (all : List PairB) (D : Nat → Prop) (w : World) (X : It) (steps q : Nat) : Prop where
  ms : Makes X all
  at_ : ∃ Dn, Down Dn ∧ AtD Dn X.Hs ∧ posD Dn all = q
  it : ItM D w X (if q < all.length then 1 else 2) steps
  lt : ∀ b, D b → b < w.heap.size
structure Same (X X' : It) : Prop where
  ib : X'.ib = X.ib
  K : X'.K = X.K
theorem Same.ctl {X X' : It} (h : Same X X') : X'.ctl = X.ctl := by unfold It.ctl; rw [h.ib, h.K]
theorem Same.len {X X' : It} (h : Same X X') : X'.Hs.length = X.Hs.length := by have := congrArg List.length h.K; unfold It.K at this; simpa using this
theorem Same.trans {X Y Z : It} (h : Same X Y) (k : Same Y Z) : Same X Z := ⟨k.ib.trans h.ib, k.K.trans h.K⟩
theorem Same.refl (X : It) : Same X X := ⟨rfl, rfl⟩
/-- It stands at place q now. -/
def NowP (all : List PairB) (D : Nat → Prop) (w : World) (X : It) (steps q : Nat) (e : Ending) (w' : World) : Prop :=
  e = .returned (.bool (decide (q < all.length))) ∧ ∃ D' X' steps', Same X X' ∧ steps' ≤ steps + X.Hs.length ∧ ItAt all D' w' X' steps' q ∧ Grows D w D' w' ∧ Kb X.ctl w w'
section
variable {all : List PairB} {D : Nat → Prop} {w w' : World} {X : It} {st steps q : Nat} {S : List Nat} {e : Ending}
theorem ItAt.kb (h : ItAt all D w X steps q) (hk : Kb S w w') (hS : ∀ b ∈ X.ctl, b ∉ S) (hD : ∀ b, D b → b ∉ S) : ItAt all D w' X steps q := ⟨h.ms, h.at_, h.it.kb hk hS hD, fun b hb => Nat.lt_of_lt_of_le (h.lt b hb) hk.size⟩
theorem ItAt.below (h : ItAt all D w X steps q) (hb : Below w.heap.size w w') : ItAt all D w' X steps q := ⟨h.ms, h.at_, h.it.below hb, fun b hb' => Nat.lt_of_lt_of_le (h.lt b hb') hb.size⟩
theorem now_of {Dn : List UInt8 → Bool} (hm : Makes X all) (hD : Down Dn) (hq : posD Dn all = q) (hlt : ∀ b, D b → b < w.heap.size) (h : ToI D w X steps Dn e w') : NowP all D w X steps q e w' := by
  obtain ⟨rfl, D', Hs', steps', hs, ht⟩ := h
  have hb := best_some hD hm.all hm.srt
  rw [hq] at hb
  have hK : ({ X with Hs := Hs' } : It).K = X.K := ht.k
  have hI := ht.it
  rw [hb] at hI
  refine ⟨by rw [hb], D', { X with Hs := Hs' }, steps', ⟨rfl, hK⟩, hs, ⟨⟨by rw [hK]; exact hm.all, by rw [hK]; exact hm.srt⟩, ⟨Dn, hD, ht.at_, hq⟩, ?_, fun b hb => by exact (ht.gr.new_ b hb).elim (fun h1 => Nat.lt_of_lt_of_le (hlt b h1) ht.gr.size) (fun h1 => h1.2)⟩, ht.gr, ht.kb⟩
  by_cases hl : q < all.length
  · rw [if_pos hl]; rw [decide_eq_true hl] at hI; exact hI
  · rw [if_neg hl]; rw [decide_eq_false hl] at hI; exact hI
theorem none_down : Down noneD := fun _ _ h _ => h
theorem i_First (hI : ItM D w X st steps) (hm : Makes X all) (hlt : ∀ b, D b → b < w.heap.size) (hst : steps ≤ 2305843009213693952) :
    Calls Try.prog 32 #[.pointer (some ⟨X.ib, 0, none⟩)] w (NowP all D w X steps 0) :=
  (c_IFirst w hI hst).mono fun _ _ h => now_of hm none_down (posD_none _) hlt h
theorem i_Next0 (hI : ItM D w X 0 steps) (hm : Makes X all) (hlt : ∀ b, D b → b < w.heap.size) (hst : steps ≤ 2305843009213693952) :
    Calls Try.prog 33 #[.pointer (some ⟨X.ib, 0, none⟩)] w (NowP all D w X steps 0) :=
  (c_INext0 w hI hst).mono fun _ _ h => now_of hm none_down (posD_none _) hlt h
theorem i_Seek {B nk ck : Nat} {Ak : Option Addr} {key : List UInt8} (hI : ItM D w X st steps) (hm : Makes X all) (hlt : ∀ b, D b → b < w.heap.size) (hst : steps ≤ 2305843009213693952) (hk : Rd w B Ak nk (bcs key)) (hB : B ≤ w.heap.size) (hkc : 0 < nk → ∀ a, Ak = some a → a.block ∉ X.ctl) :
    Calls Try.prog 84 #[.pointer (some ⟨X.ib, 0, none⟩), .slice Ak nk ck] w (NowP all D w X steps (posD (fun x => bytesLess x key) all)) :=
  (c_ISeek w hI hst hk hB hkc hm.srt).mono fun _ _ h => now_of hm (fun _ _ h1 h2 => less_trans h2 h1) rfl hlt h
theorem ItAt.best (h : ItAt all D w X steps q) (hq : q < all.length) : ∃ Dn i, Down Dn ∧ AtD Dn X.Hs ∧ posD Dn all = q ∧ bestF (headsD Dn (lsK X.K)) 0 none = some (i, all[q]) ∧ bestF (heads X.Hs) 0 none = some (i, all[q]) := by
  obtain ⟨Dn, hD, hat, hp⟩ := h.at_
  have hb := best_some hD h.ms.all h.ms.srt
  obtain ⟨h1, _⟩ := best_all hD h.ms.all h.ms.srt
  rw [hp, decide_eq_true hq] at hb
  cases hr : bestF (headsD Dn (lsK X.K)) 0 none with
  | none => rw [hr] at hb; cases hb
  | some r =>
    have h2 := h1 r.1 r.2 hr
    rw [hp, List.getElem?_eq_getElem hq] at h2
    have h2 : all[q] = r.2 := Option.some.inj h2
    have hh : heads X.Hs = headsD Dn (lsK X.K) := heads_at hat.at_ fun x hx => (h.it.hds x hx).ls.len
    exact ⟨Dn, r.1, hD, hat, hp, by rw [hr, h2], by rw [hh, hr, h2]⟩
theorem i_Next (h : ItAt all D w X steps q) (hq : q < all.length) (hst : steps ≤ 2305843009213693952) :
    Calls Try.prog 33 #[.pointer (some ⟨X.ib, 0, none⟩)] w (NowP all D w X steps (q + 1)) := by
  obtain ⟨Dn, i, hD, hat, hp, hb, _⟩ := h.best hq
  have hI := h.it
  rw [if_pos hq] at hI
  refine (c_INext1 w hI hst hD hat h.ms.srt hb).mono fun _ _ ht => now_of h.ms (upD_down _) ?_ h.lt ht
  have := posD_up hD h.ms.all.srt (p := all[q]) (by rw [hp, List.getElem?_eq_getElem hq])
  rw [this, hp]
theorem i_NextEnd (h : ItAt all D w X steps q) (hq : ¬ q < all.length) :
    Calls Try.prog 33 #[.pointer (some ⟨X.ib, 0, none⟩)] w fun e w' => e = .returned (.bool false) ∧ w' = w := by
  have hI := h.it
  rw [if_neg hq] at hI
  exact c_INext2 w hI
theorem i_Pair (h : ItAt all D w X steps q) (hq : q < all.length) :
    Calls Try.prog 34 #[.pointer (some ⟨X.ib, 0, none⟩)] w (PairP w all[q]) := by
  obtain ⟨Dn, i, hD, hat, hp, _, hb⟩ := h.best hq
  have hI := h.it
  rw [if_pos hq] at hI
  exact c_IPair1 w hI hb
theorem i_PairEnd (h : ItAt all D w X steps q) (hq : ¬ q < all.length) :
    Calls Try.prog 34 #[.pointer (some ⟨X.ib, 0, none⟩)] w (NoPair w) := by
  have hI := h.it
  rw [if_neg hq] at hI
  exact c_IPairN w hI (by decide) (by decide)
end
/-- The lists of sources, one behind another. -/
def srcL (Ss : List (Option (Nat × Sl Pr))) : List (List PairB) := (Ss.filterMap id).map fun k => k.2.L.map Pr.pl
theorem new_makes {X : It} {Ss : List (Option (Nat × Sl Pr))} (h : X.Hs.map Hd.src = Ss.filterMap id) : lsK X.K = srcL Ss := by
  unfold lsK It.K srcL
  rw [← h, List.map_map, List.map_map]
  rfl
end Go.Proofs.Ytedelkifadonjaa
/- Layer 23: all pairs of several sources (All); the law's sources. -/
namespace Go.Lec
open Go.RowKit
section
variable {α : Type} {E : Enc α} {X : Nat → Prop} {w W W' : World} {B k n : Nat} {e : TypeId} {L : List α} {v : Value} {xs : List Value} {S : List Nat}
theorem OwnK.kb (h : OwnK W B e k v n xs) (hk : Kb S W W') (hS : ∀ g, v.ownBlock = some g → g ∉ S) : OwnK W' B e k v n xs := by
  refine ⟨h.1, ?_⟩
  rcases h.2 with h2 | ⟨g, cap, cur, rfl, hg, hh, r⟩
  · exact .inl h2
  · exact .inr ⟨g, cap, cur, rfl, hg, (hk.block g (Array.getElem?_eq_some_iff.1 hh).1 (hS g rfl)).trans hh, r⟩
theorem Gth.kbS (h : Gth E X w W e L v) (hk : Kb S W W') (ho : ∀ g, v.ownBlock = some g → g ∉ S) (hX : ∀ b, X b → b ∉ S) (hw : ∀ b ∈ S, w.heap.size ≤ b) : Gth E X w W' e L v :=
  ⟨h.own.kb hk ho, fun m hm => ⟨(h.oks m hm).1.kb (h.oks m hm).2.2 hk hX, (h.oks m hm).2⟩, h.below.trans (hk.below hw h.below.size)⟩
end
end Go.Lec
namespace Go.Proofs.Ytedelkifadonjaa
open Go.RowKit Go.Lec Go.Op
def slLen : Value → Nat
  | .slice _ n _ => n
  | _ => 0
def MAllP (w0 : World) (all : List PairB) (e : Ending) (w' : World) : Prop :=
  ∃ (L : List Pr) (A : Option Addr) (c : Nat), e = .returned (.slice A L.length c) ∧ Els encPr w' w'.heap.size A L.length L ∧ L.map Pr.pl = all ∧ Below w0.heap.size w0 w'
set_option maxRecDepth 100000 in
set_option maxHeartbeats 1600000 in
theorem c_mAll (w0 w : World) {D : Nat → Prop} {B n c : Nat} {A : Option Addr} {Ss : List (Option (Nat × Sl Pr))} {all : List PairB} (hr : Rd w B A n (Ss.map srcV)) (hB : B ≤ w.heap.size) (hS : Srcs D w Ss) (hn : n ≤ 100000) (hD : ∀ b, D b → b < w.heap.size)
    (h0 : Below w0.heap.size w0 w) (hsb : ∀ k, some k ∈ Ss → w0.heap.size ≤ k.1) (ha : AllOf (srcL Ss).flatten all) (hs : ∀ l ∈ srcL Ss, Srt l) (hal : all.length ≤ 10000) :
    Calls Try.prog 18 #[.slice A n c] w (MAllP w0 all) := by
  have HC := c_New w (c := c) hr hB hS hn hD
  unfold NewP at HC
  have HC := Lib.hid HC
  have Hsb := Lib.hid hsb
  have Ha := Lib.hid ha
  have Hs := Lib.hid hs
  have H0 := Lib.hid h0
  have HSs := Lib.hid hS
  have HD := Lib.hid hD
  clear hr hS hD hsb ha hs h0
  go_enter Try.func18, Try.ntmps18
  go_wp2_with fail
  refine HC.out.mono ?_
  rintro e w1 ⟨X, D1, rfl, hI, hX, hb1, hg1, hib, hhb⟩
  have hK := new_makes hX
  have hm : Makes X all := ⟨by rw [hK]; exact Ha.out, by rw [hK]; exact Hs.out⟩
  have hn1 := hI.n
  have h01 : Below w0.heap.size w0 w1 := H0.out.trans (hb1.mono H0.out.size)
  have hctl : ∀ b ∈ X.ctl, w0.heap.size ≤ b := fun b hb => by
    have hz := H0.out.size
    rcases ctl_mem.1 hb with rfl | ⟨h, hh, rfl | rfl⟩
    · omega
    · have := hhb h hh; omega
    · refine Hsb.out h.src ?_
      have h1 : h.src ∈ Ss.filterMap id := by rw [← hX]; exact List.mem_map.2 ⟨h, hh, rfl⟩
      obtain ⟨o, ho, he⟩ := List.mem_filterMap.1 h1
      have he : o = some h.src := he
      rw [← he]; exact ho
  have hDl : ∀ b, D1 b → b < w1.heap.size := fun b hb => (hg1.new_ b hb).elim (fun h1 => Nat.lt_of_lt_of_le (HD.out b h1) hg1.size) (fun h1 => h1.2)
  have HF := i_First hI hm hDl (by omega)
  unfold NowP at HF
  have HF := Lib.hid HF
  have Hctl := Lib.hid hctl
  have HG0 := Lib.hid (show Gth encPr (fun b => b ∉ X.ctl) w0 w1 56 [] (.slice none 0 0) from Gth.nil _ _ _ _ h01)
  clear hI hK hm hb1 hg1 hib hhb h01 hctl HC hX
  go_wp2_with fail
  refine HF.out.mono ?_
  rintro e w2 ⟨rfl, D2, X2, st2, hs2, hst2, hI2, hg2, hk2⟩
  have HG2 := Lib.hid (HG0.out.kbS hk2 (fun g e => by cases e) (fun _ h => h) Hctl.out)
  have HI2 := Lib.hid hI2
  have Hs2 := Lib.hid hs2
  clear HF HG0 hI2 hg2 hk2 hs2
  go_wp2
  go_loopw [3, 5] (fun v3 v5 wr => ∃ (q st : Nat) (D' : Nat → Prop) (X' : It) (O : List Pr) (v : Value), v3 = v ∧ v5 = .bool (decide (q < all.length)) ∧ q ≤ all.length ∧ O.length = q ∧ Hid (ItAt all D' wr X' st q) ∧ Hid (Same X X') ∧ st ≤ (q + 1) * X.Hs.length ∧ Hid (Gth encPr (fun b => b ∉ X.ctl) w0 wr 56 O v) ∧ Hid (O.map Pr.pl = all.take q) ∧ Hid (∀ g, v.ownBlock = some g → ¬ D' g ∧ g ∉ X.ctl)) (fun v3 _ _ => all.length + 1 - slLen v3)
  case atStart => exact ⟨0, st2, D2, X2, [], _, rfl, rfl, Nat.zero_le _, rfl, HI2, Hs2, by omega, HG2, Lib.hid rfl, Lib.hid (fun g e => by cases e)⟩
  case round =>
    obtain ⟨q, st, D', X', O, v, rfl, rfl, hq, hOl, HI, HSm, hst, HG, HO, Hv⟩ := hrel
    obtain ⟨As, cs, rfl, hcs⟩ := HG.out.own.shape
    rw [hOl] at hcs HG Hv ⊢
    by_cases hlt : q < all.length
    · have HP := i_Pair HI.out hlt
      unfold PairP at HP
      rw [HSm.out.ib] at HP
      have HP := Lib.hid HP
      have hdt : decide (q < all.length) = true := decide_eq_true hlt
      rw [hdt]
      have hst1 : (q + 1) * X.Hs.length ≤ 10001 * 100000 := Nat.mul_le_mul (by omega) hn1
      have Hat := Lib.hid (show all.take (q + 1) = all.take q ++ [all[q]] from List.take_succ_eq_append_getElem hlt)
      obtain ⟨p, hp⟩ : ∃ p, p = all[q] := ⟨_, rfl⟩
      rw [← hp] at HP Hat
      clear hp hdt
      go_wp2_with fail
      (with_reducible refine HP.out.mono ?_)
      rintro e w3 ⟨m, rfl, hm1, hm2, hm3, hb3⟩
      have HG3 := HG.out.grow hb3
      have HI3 := HI.out.below hb3
      have hb4 := (Below.refl w3.heap.size w3).alloc (Nat.le_refl _) (.cells #[.slice m.A1 m.n1 m.c1, .slice m.A2 m.n2 m.c2] 56)
      have HG4 := HG3.grow hb4
      have HI4 := HI3.below hb4
      have N4 := Bk.new_ w3 56 #[.slice m.A1 m.n1 m.c1, .slice m.A2 m.n2 m.c2]
      have x0 := N4.cell 0
      have x1 := N4.cell 1
      have hm4 := ((encPr_ok hm1).below hb4 (Nat.le_refl _)).more hb4.size
      have hlie : encPr.lie (fun b => b ∉ X.ctl) m := (encPr_hi hm2).imp fun b hb hc => by
        have h1 : wr.heap.size ≤ b := hb
        have h2 := HI.out.it.lt b (by rw [HSm.out.ctl]; exact hc)
        omega
      have hfar : encPr.lie (fun b => some b ≠ (Value.slice As q cs).ownBlock) m := HG.out.far (encPr_hi hm2)
      have Hm := Lib.hid (And.intro hm4 (And.intro hlie (And.intro hfar hm3)))
      have HG4h := Lib.hid HG4
      have HI4h := Lib.hid HI4
      have Hb34 := Lib.hid (hb3.trans (hb4.mono hb3.size))
      clear hm1 hm2 hm3 hb3 HG3 HI3 hb4 HG4 HI4 N4 hm4 hlie hfar HP HG HI
      have hol1 : O.length + 1 ≤ 10001 := by omega
      have Hol := Lib.hid hOl
      have hsz := hn1
      clear hOl
      go_wp2_with (first
        | (at_builtin; ((refine wpList_appK_new (m := 1) (c := 1) rfl (.tmp 20) (.tmp 22) rfl slpM (by decide) rfl HG4h.out.own HG4h.out.below HG4h.out.below.size (by rw [World.size_alloc]; rfl) (news := m.cs) rfl m.cs_one (by omega) ?_); intro v5 w5 ho5 hb5 hg5 hat5 hs5; have HG5 := Lib.hid (HG4h.out.snoc Hm.out.1 Hm.out.2.2.1 Hm.out.2.1 ho5 hg5 hat5 hb5); have hHI5 := HI4h.out.kb (kb_grown hg5) (fun b hb hm => by rw [Option.mem_toList] at hm; exact (Hv.out b hm).2 (by rw [← HSm.out.ctl]; exact hb)) (fun b hb hm => by rw [Option.mem_toList] at hm; exact (Hv.out b hm).1 hb); have HNx := i_Next hHI5 hlt (by omega); unfold NowP at HNx; rw [HSm.out.ib] at HNx; have HNx := Lib.hid HNx; have hw4 : wr.heap.size ≤ (w3.alloc (.cells #[.slice m.A1 m.n1 m.c1, .slice m.A2 m.n2 m.c2] 56)).heap.size := Hb34.out.size; have Hv5 := Lib.hid (show ∀ g, v5.ownBlock = some g → ¬ D' g ∧ g ∉ X.ctl from fun g e => by { rcases hat5 with e2 | ⟨g', e2, hg'⟩; · { rw [e2] at e; exact Hv.out g e }; · { rw [e] at e2; cases e2; refine ⟨fun hD => ?_, fun hc => ?_⟩; · { have := HI4h.out.lt g hD; omega }; · { have := HI4h.out.it.lt g (by rw [HSm.out.ctl]; exact hc); omega } } }); obtain ⟨A5, c5, rfl, hc5⟩ := ho5.shape; have Hg5 := Lib.hid (ho5.lt); clear hHI5 ho5 hb5 hg5 hat5))
        | (go_at_call 33; (with_reducible refine HNx.out.mono ?_); rintro e w6 ⟨rfl, D6, X6, st6, hs6, hst6, hI6, hg6, hk6⟩))
      refine ⟨⟨q + 1, st6, D6, X6, O ++ [m], _, rfl, rfl, by omega, by rw [List.length_append, Hol.out]; rfl, Lib.hid hI6, Lib.hid (HSm.out.trans hs6), ?_, Lib.hid (HG5.out.kbS hk6 (fun g e => ?_) (fun b hb => ?_) (fun b hb => ?_)), Lib.hid (by rw [List.map_append, HO.out, Hat.out, ← Hm.out.2.2.2]; rfl), Lib.hid fun g e => ⟨fun hD => ?_, (Hv5.out g e).2⟩⟩, ?_⟩
      · have := HSm.out.len; rw [Nat.add_mul (q + 1) 1]; omega
      · rw [HSm.out.ctl]; exact (Hv5.out g e).2
      · rw [HSm.out.ctl]; exact hb
      · rw [HSm.out.ctl] at hb; exact Hctl.out b hb
      · rcases hg6.new_ g hD with h1 | h1
        · exact (Hv5.out g e).1 h1
        · have := (Hg5.out g e).2; omega
      · have := Hol.out; simp [slLen]; omega
    · have hdf : decide (q < all.length) = false := decide_eq_false hlt
      rw [hdf]
      clear hdf
      go_wp2
      go_ret
      have hqe : q = all.length := by omega
      refine ⟨O, As, cs, by rw [hOl]; rfl, by rw [hOl]; exact HG.out.els hOl, ?_, HG.out.below⟩
      rw [HO.out, hqe, List.take_length]
end Go.Proofs.Ytedelkifadonjaa
/- Layer 23: the law's sources. -/
namespace Go.Proofs.Ytedelkifadonjaa
open Go.RowKit Go.Lec Go.Op
theorem infoSrc : (Try.prog.info? 59).map (fun i => (i.zero, i.size, i.bytes)) = some (some .nilIface, 1, 16) := by kernel_rfl
theorem slsrc : SlK Try.prog 35 59 .nilIface 16 1 := ⟨Try.underlying35, info_parts infoSrc, rfl, by decide⟩
theorem srcV_one (k : Option (Nat × Sl Pr)) : ∀ u ∈ [srcV k], u.oneCell' = true := fun u hu => by
  rw [List.mem_singleton] at hu
  subst hu
  cases k <;> rfl
/-- Sources that have been made, and the row that holds them. -/
structure Sr (w : World) (Ls : List (Sl Pr)) (k : Nat) (D : Nat → Prop) (Ss : List (Option (Nat × Sl Pr))) (v : Value) (wr : World) : Prop where
  own : OwnK wr w.heap.size 59 1 v Ss.length (Ss.map srcV)
  srcs : Srcs D wr Ss
  law : srcL Ss = (Ls.take k).map fun s => allL s.pls
  len : Ss.length = k
  dlt : ∀ b, D b → w.heap.size ≤ b ∧ b < wr.heap.size
  sge : ∀ x, some x ∈ Ss → w.heap.size ≤ x.1
  vn : ∀ g, v.ownBlock = some g → ¬ D g ∧ ∀ x, some x ∈ Ss → x.1 ≠ g
  below : Below w.heap.size w wr
section
variable {D D' : Nat → Prop} {w wr w1 w5 : World} {Ls : List (Sl Pr)} {Ss : List (Option (Nat × Sl Pr))} {v v5 : Value} {k : Nat} {s s0 : Sl Pr} {S : List Nat}
theorem Srcs.kb (h : Srcs D wr Ss) (hk : Kb S wr w1) (hS : ∀ x, some x ∈ Ss → x.1 ∉ S) (hD : ∀ b, D b → b ∉ S) : Srcs D w1 Ss := ⟨fun x hx => ⟨(h.ls x hx).1.kb hk (hS x hx) hD, (h.ls x hx).2⟩, h.dj⟩
theorem Srcs.below (h : Srcs D wr Ss) (hb : Below wr.heap.size wr w1) : Srcs D w1 Ss := h.kb (Kb.of_below hb) (S := []) (by simp) (by simp)
/-- One source more, whether a list or none. -/
theorem Srcs.snoc (h : Srcs D wr Ss) (hi : ∀ b, D b → D' b) (hn : ∀ x, some x ∈ Ss → ¬ D' x.1) (o : Option (Nat × Sl Pr)) (ho : ∀ x, o = some x → LsM D' wr x.1 x.2 (-1) ∧ ¬ D' x.1 ∧ ∀ y, some y ∈ Ss → y.1 ≠ x.1) : Srcs D' wr (Ss ++ [o]) := by
  refine ⟨fun x hx => ?_, fun i j a b hi hj hab => ?_⟩
  · rcases List.mem_append.1 hx with hx | hx
    · exact ⟨(h.ls x hx).1.imp hi, hn x hx⟩
    · rw [List.mem_singleton] at hx
      exact ⟨(ho x hx.symm).1, (ho x hx.symm).2.1⟩
  · have hget : ∀ (i : Nat) (a : Nat × Sl Pr), (Ss ++ [o])[i]? = some (some a) → (i < Ss.length ∧ Ss[i]? = some (some a)) ∨ (i = Ss.length ∧ o = some a) := fun i a h => by
      rcases Nat.lt_or_ge i Ss.length with h1 | h1
      · rw [List.getElem?_append_left h1] at h; exact .inl ⟨h1, h⟩
      · rw [List.getElem?_append_right h1, List.getElem?_singleton] at h
        split at h
        · exact .inr ⟨by omega, Option.some.inj h⟩
        · cases h
    rcases hget i a hi with ⟨h1, h2⟩ | ⟨h1, h2⟩ <;> rcases hget j b hj with ⟨h3, h4⟩ | ⟨h3, h4⟩
    · exact h.dj i j a b h2 h4 hab
    · exact absurd hab ((ho b h4).2.2 a (List.mem_of_getElem? h2))
    · exact absurd hab.symm ((ho a h2).2.2 b (List.mem_of_getElem? h4))
    · omega
theorem Sr.next (h : Sr w Ls k D Ss v wr) (hs : Ls[k]? = some s0) (hl : LsM (wr.heap.size + 1 ≤ ·) w1 wr.heap.size s (-1)) (ha : s.L.map Pr.pl = allL s0.pls) (hb : Below wr.heap.size wr w1)
    (ho : OwnK w5 w.heap.size 59 1 v5 (Ss.length + 1) (Ss.map srcV ++ [srcV (some (wr.heap.size, s))])) (hg : w1.grownBy w5 v.ownBlock) (hat : v5.ownBlock = v.ownBlock ∨ ∃ g, v5.ownBlock = some g ∧ w1.heap.size ≤ g) :
    Sr w Ls (k + 1) (fun b => D b ∨ (wr.heap.size + 1 ≤ b ∧ b < w1.heap.size)) (Ss ++ [some (wr.heap.size, s)]) v5 w5 := by
  have hk5 := kb_grown hg
  have hkl : k < Ls.length := (List.getElem?_eq_some_iff.1 hs).1
  have hown := h.own.lt
  have hlt : wr.heap.size < w1.heap.size := hl.bk.lt
  have hsb : ∀ x, some x ∈ Ss → x.1 < wr.heap.size := fun x hx => (h.srcs.ls x hx).1.bk.lt
  have hlie : (encSl encPr).lie (fun b => D b ∨ (wr.heap.size + 1 ≤ b ∧ b < w1.heap.size)) s := (hl.lie.and hl.ok.lt).imp fun b hb => .inr hb
  have hs1 := (h.srcs.below hb).snoc (D' := fun b => D b ∨ (wr.heap.size + 1 ≤ b ∧ b < w1.heap.size)) (fun b hb => .inl hb) (fun x hx hD => by
    rcases hD with h1 | h1
    · exact (h.srcs.ls x hx).2 h1
    · have := hsb x hx; omega) (some (wr.heap.size, s)) (fun x hx => by
      cases hx
      refine ⟨⟨hl.bk, hl.ok, hlie, hl.n⟩, fun hD => ?_, fun y hy e => by have := hsb y hy; dsimp only at e; omega⟩
      rcases hD with h1 | h1
      · have := h.dlt _ h1; dsimp only at this; omega
      · dsimp only at h1; omega)
  have hvD : ∀ g, v.ownBlock = some g → ¬ (D g ∨ (wr.heap.size + 1 ≤ g ∧ g < w1.heap.size)) ∧ ∀ x, some x ∈ Ss ++ [some (wr.heap.size, s)] → x.1 ≠ g := fun g e => by
    have h1 := h.vn g e
    have h2 := hown g e
    refine ⟨fun hD => ?_, fun x hx => ?_⟩
    · rcases hD with h3 | h3
      · exact h1.1 h3
      · omega
    · rcases List.mem_append.1 hx with hx | hx
      · exact h1.2 x hx
      · rw [List.mem_singleton] at hx; cases hx; dsimp only; omega
  refine ⟨by rw [List.map_append, List.length_append]; exact ho, hs1.kb hk5 (fun x hx hm => ?_) (fun b hb hm => ?_), ?_, by rw [List.length_append, h.len]; rfl, fun b hb => ?_, fun x hx => ?_, fun g e => ?_, ?_⟩
  · rw [Option.mem_toList] at hm; exact (hvD _ hm).2 x hx rfl
  · rw [Option.mem_toList] at hm; exact (hvD _ hm).1 hb
  · unfold srcL
    rw [List.filterMap_append, List.map_append, List.take_succ_eq_append_getElem hkl, List.map_append]
    have h1 := h.law
    unfold srcL at h1
    rw [h1, (List.getElem?_eq_some_iff.1 hs).2]
    simp [ha]
  · have h1 := hg.size
    rcases hb with h4 | h4
    · have := h.dlt b h4; have := (show wr.heap.size ≤ w1.heap.size from Nat.le_of_lt hlt); omega
    · have := h.below.size; omega
  · rcases List.mem_append.1 hx with hx | hx
    · exact h.sge x hx
    · rw [List.mem_singleton] at hx; cases hx; exact h.below.size
  · rcases hat with e2 | ⟨g', e2, hg'⟩
    · rw [e2] at e; exact hvD g e
    · rw [e] at e2; cases e2
      refine ⟨fun hD => ?_, fun x hx => ?_⟩
      · rcases hD with h3 | h3
        · have := h.dlt _ h3; omega
        · omega
      · rcases List.mem_append.1 hx with hx | hx
        · have := hsb x hx; omega
        · rw [List.mem_singleton] at hx; cases hx; dsimp only; omega
  · exact (h.below.trans (hb.mono h.below.size)).grown hg (by have := h.below.size; omega) (fun g e => (hown g e).1)
end
def SourcesP (w : World) (Ls : List (Sl Pr)) (e : Ending) (w' : World) : Prop :=
  ∃ (D : Nat → Prop) (Ss : List (Option (Nat × Sl Pr))) (A : Option Addr) (c : Nat), e = .returned (.slice A Ss.length c) ∧ Sr w Ls Ls.length D Ss (.slice A Ss.length c) w'
set_option maxRecDepth 100000 in
set_option maxHeartbeats 1600000 in
theorem c_sources (w : World) {B n c : Nat} {A : Option Addr} {Ls : List (Sl Pr)} (hr : Els (encSl encPr) w B A n Ls) (hB : B ≤ w.heap.size) (hn : n ≤ 100000) (hns : ∀ s ∈ Ls, s.n ≤ 100000) :
    Calls Try.prog 12 #[.slice A n c] w (SourcesP w Ls) := by
  have Hl := Lib.hid hr.2.1
  have HS0 := Lib.hid (show Sr w Ls 0 (fun _ => False) [] (.slice none 0 0) w from ⟨OwnK.nil_ _ _ _ _, ⟨(fun _ h => by cases h), (fun _ _ _ _ h => by cases h)⟩, rfl, rfl, (fun _ h => h.elim), (fun _ h => by cases h), (fun _ h => by cases h), Below.refl _ _⟩)
  have Hr := Lib.hid hr
  have Hns := Lib.hid hns
  clear hr hns
  go_enter Try.func12, Try.ntmps12
  go_wp2
  go_loopw [3, 8] (fun v3 v8 wr => ∃ (k : Nat) (D : Nat → Prop) (Ss : List (Option (Nat × Sl Pr))) (v : Value), v3 = v ∧ v8 = .int .i64 (k : Int) ∧ k ≤ n ∧ Sr w Ls k D Ss v wr) (fun _ v8 _ => n - (intOf v8).toNat)
  case atStart => exact ⟨0, _, [], _, rfl, rfl, Nat.zero_le _, HS0.out⟩
  case round =>
    obtain ⟨k, D, Ss, v, rfl, rfl, hk, hS⟩ := hrel
    clear HS0
    obtain ⟨As, cs, rfl, hcs⟩ := hS.own.shape
    have hSl := hS.len
    rw [hSl] at hS hcs ⊢
    by_cases hlt : k < n
    · obtain ⟨b, o, s, rfl, hbB, hsk, _, hsok, hcell⟩ := Hr.out.at hlt
      have c0 : wr.cell? ⟨b, o + k, none⟩ = some (.slice s.A s.n s.c) := by
        have := hcell wr (hS.below.mono hB) 0 _ rfl
        rw [show o + k * (encSl encPr).k + 0 = o + k by show o + k * 1 + 0 = _; omega] at this
        exact this
      have hEl := ((encSl_ok (by decide)).1 hsok).1
      have hpr := (prs_of_els hEl).below hS.below hB
      have HC := c_List wr (c := s.c) hpr (Nat.le_trans hB hS.below.size) (Hns.out s (List.mem_of_getElem? hsk))
      unfold ListP at HC
      have HC := Lib.hid HC
      have Hsk := Lib.hid hsk
      have HS := Lib.hid hS
      have HSl := Lib.hid hSl
      clear hcell hsok hEl hpr hsk hS hSl
      go_wp2_with (first
        | (go_at_call 19; (with_reducible refine HC.out.mono ?_); rintro e w1 ⟨s1, rfl, hl1, ha1, hb1, hz1⟩; have hS1 := HS.out.own.below hb1 (Nat.le_refl _); have hsz1 : w.heap.size ≤ w1.heap.size := Nat.le_trans HS.out.below.size hb1.size)
        | (at_builtin; (refine wpList_appK_new (m := 1) (c := 1) rfl (.tmp 12) (.tmp 15) rfl slsrc (by decide) rfl hS1 (Below.refl _ _) hsz1 rfl (news := [srcV (some (wr.heap.size, s1))]) rfl (srcV_one _) (by have := HSl.out; omega) ?_); intro v5 w5 ho5 hb5 hg5 hat5 hs5; have HN := Lib.hid (HS.out.next Hsk.out hl1 ha1 hb1 ho5 hg5 hat5); obtain ⟨A5, c5, rfl, hc5⟩ := ho5.shape; clear ho5 hb5 hg5 hat5))
      refine ⟨⟨k + 1, _, _, _, rfl, by go_num, by omega, HN.out⟩, by simp [intOf]; omega⟩
    · obtain rfl : k = n := by omega
      have HS := Lib.hid hS
      have HSl := Lib.hid hSl
      clear hS hSl
      go_wp2
      go_ret
      have hl := HSl.out
      subst hl
      exact ⟨D, Ss, As, cs, rfl, by rw [Hl.out]; exact HS.out⟩
end Go.Proofs.Ytedelkifadonjaa
