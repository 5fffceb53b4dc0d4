/- Layer 23: First, Next, Seek, Pair, Steps of an iterator. -/
import Derived.Test.YtjkjlekfeelfpaaMsQ
namespace Go.Proofs.Ytjkjlekfeelfpaa
open Go.RowKit Go.Lec Go.Op
/-- A head stands at a place. -/
structure StAt (h : Hd) (q : Nat) : Prop where
  at_ : h.at_ = (q : Int)
  le : q ≤ h.s.n
  is : h.is = decide (q < h.s.n)
  p : ∀ p, h.s.L[q]? = some p → h.p.pl = p.pl
theorem HdTo.st {h h' : Hd} {q : Nat} (t : HdTo h h' q) : StAt h' q := by
  have e : h'.s = h.s := congrArg (·.2.2) t.k
  exact ⟨t.at_, by rw [e]; exact t.le, by rw [e]; exact t.is, by rw [e]; exact t.p⟩
def Hd.l (h : Hd) : List PairB := h.s.L.map Pr.pl
/-- Its lists. -/
def lsK (K : List (Nat × Nat × Sl Pr)) : List (List PairB) := K.map fun k => k.2.2.L.map Pr.pl
theorem lsK_map (Hs : List Hd) : lsK (Hs.map Hd.k) = Hs.map Hd.l := by unfold lsK; rw [List.map_map]; rfl
theorem heads_at {D : List UInt8 → Bool} {Hs : List Hd} (h : ∀ x ∈ Hs, StAt x (posD D x.l)) (hl : ∀ x ∈ Hs, x.s.L.length = x.s.n) : heads Hs = headsD D (lsK (Hs.map Hd.k)) := by
  rw [lsK_map]
  unfold heads headsD
  rw [List.map_map]
  refine List.map_congr_left fun x hx => ?_
  have hs := h x hx
  have hn := hl x hx
  show (if x.is then some x.p.pl else none) = x.l[posD D x.l]?
  rw [hs.is]
  by_cases hq : posD D x.l < x.s.n
  · rw [if_pos (by simpa using hq)]
    obtain ⟨p, hp⟩ : ∃ p, x.s.L[posD D x.l]? = some p := ⟨_, List.getElem?_eq_getElem (by rw [hn]; exact hq)⟩
    rw [hs.p p hp]
    unfold Hd.l at hp ⊢
    rw [List.getElem?_map, hp]; rfl
  · rw [if_neg (by simpa using hq)]
    refine (List.getElem?_eq_none ?_).symm
    unfold Hd.l at hq ⊢
    rw [List.length_map]; omega
/-- All its heads stand where D ends. -/
structure AtD (Dn : List UInt8 → Bool) (Hs : List Hd) : Prop where
  at_ : ∀ x ∈ Hs, StAt x (posD Dn x.l)
/-- Where an iterator stands now, all heads moved; and what it says. -/
structure To (D : Nat → Prop) (w : World) (X : It) (steps : Nat) (Dn : List UInt8 → Bool) (D' : Nat → Prop) (Hs' : List Hd) (w' : World) : Prop where
  it : ItM D' w' { X with Hs := Hs' } (if (bestF (headsD Dn (lsK X.K)) 0 none).isSome then 1 else 2) steps
  k : Hs'.map Hd.k = X.K
  at_ : AtD Dn Hs'
  gr : Grows D w D' w'
  kb : Kb X.ctl w w'
def ToI (D : Nat → Prop) (w : World) (X : It) (steps : Nat) (Dn : List UInt8 → Bool) (e : Ending) (w' : World) : Prop :=
  e = .returned (.bool (bestF (headsD Dn (lsK X.K)) 0 none).isSome) ∧ ∃ D' Hs' steps', steps' ≤ steps + X.Hs.length ∧ To D w X steps' Dn D' Hs' w'
theorem len_k {Hs : List Hd} {X : It} (hk : Hs.map Hd.k = X.K) : Hs.length = X.Hs.length := by have := congrArg List.length hk; unfold It.K at this; simpa using this
theorem ctl_k {Hs : List Hd} {X : It} (hk : Hs.map Hd.k = X.K) : ({ X with Hs := Hs } : It).ctl = X.ctl := by unfold It.ctl; rw [show ({ X with Hs := Hs } : It).K = Hs.map Hd.k from rfl, hk]
theorem at_k {Hs : List Hd} {X : It} (hk : Hs.map Hd.k = X.K) {i : Nat} {h : Hd} (hh : Hs[i]? = some h) : ∃ h0, X.Hs[i]? = some h0 ∧ h.k = h0.k := by
  have := congrArg (fun l : List (Nat × Nat × Sl Pr) => l[i]?) hk
  unfold It.K at this
  simp only [List.getElem?_map, hh, Option.map_some] at this
  cases h0 : X.Hs[i]? with
  | none => rw [h0] at this; cases this
  | some g => rw [h0] at this; exact ⟨g, rfl, by simpa using this⟩
theorem set_k {Hs : List Hd} {X : It} (hk : Hs.map Hd.k = X.K) {i : Nat} {h h' : Hd} (hh : Hs[i]? = some h) (he : h'.k = h.k) : (Hs.set i h').map Hd.k = X.K := (set_map Hd.k Hs i h h' hh he).trans hk
/-- The heads before k have moved. -/
structure Pre (D : Nat → Prop) (w : World) (X : It) (st steps : Nat) (Dn : List UInt8 → Bool) (kk : Nat) (D' : Nat → Prop) (Hs' : List Hd) (w' : World) : Prop where
  it : ItM D' w' { X with Hs := Hs' } st steps
  k : Hs'.map Hd.k = X.K
  at_ : ∀ (i : Nat) (x : Hd), i < kk → Hs'[i]? = some x → StAt x (posD Dn x.l)
  rest : ∀ i, kk ≤ i → Hs'[i]? = X.Hs[i]?
  gr : Grows D w D' w'
  kb : Kb X.ctl w w'
section
variable {D D' D'' : Nat → Prop} {w w' w'' : World} {X : It} {st steps steps' k q : Nat} {Dn : List UInt8 → Bool} {Hs' : List Hd} {h h' : Hd}
theorem Pre.zero (hI : ItM D w X st steps) (Dn : List UInt8 → Bool) : Pre D w X st steps Dn 0 D X.Hs w := ⟨hI, rfl, (fun _ _ h => absurd h (by omega)), (fun _ _ => rfl), Grows.refl _ _, Kb.refl _ _⟩
theorem Pre.sub (hP : Pre D w X st steps Dn k D' Hs' w') (hh : Hs'[k]? = some h) : ∀ b ∈ [X.ib, h.hb, h.sb], b ∈ X.ctl := fun b hb => by
  rw [← ctl_k hP.k]
  have hm := List.mem_of_getElem? hh
  simp only [List.mem_cons, List.not_mem_nil, or_false] at hb
  rcases hb with rfl | rfl | rfl
  · exact ctl_mem.2 (.inl rfl)
  · exact ctl_mem.2 (.inr ⟨h, hm, .inl rfl⟩)
  · exact ctl_mem.2 (.inr ⟨h, hm, .inr rfl⟩)
/-- One more has moved. -/
theorem Pre.next (hP : Pre D w X st steps Dn k D' Hs' w') (hh : Hs'[k]? = some h) (hI : ItM D'' w'' { X with Hs := Hs'.set k h' } st steps') (ht : HdTo h h' q) (hq : q = posD Dn h.l) (hg : Grows D' w' D'' w'') (hk : Kb [X.ib, h.hb, h.sb] w' w'') :
    Pre D w X st steps' Dn (k + 1) D'' (Hs'.set k h') w'' := by
  have es : h'.s = h.s := congrArg (·.2.2) ht.k
  refine ⟨hI, set_k hP.k hh ht.k, fun i x hi hx => ?_, fun i hi => ?_, hP.gr.trans hg, hP.kb.trans hk (fun b hb => .inl (hP.sub hh b hb))⟩
  · rw [List.getElem?_set] at hx
    split at hx
    · split at hx
      · have hx := Option.some.inj hx
        subst hx
        have := ht.st
        rw [hq] at this
        unfold Hd.l at this ⊢
        rw [es]; exact this
      · cases hx
    · exact hP.at_ i x (by omega) hx
  · rw [List.getElem?_set_ne (by omega)]
    exact hP.rest i (by omega)
/-- One that stays. -/
theorem Pre.stay (hP : Pre D w X st steps Dn k D' Hs' w') (hh : Hs'[k]? = some h) (hs : StAt h (posD Dn h.l)) (hk : Below w'.heap.size w' w'') : Pre D w X st steps Dn (k + 1) D' Hs' w'' := by
  refine ⟨hP.it.below hk, hP.k, fun i x hi hx => ?_, fun i hi => hP.rest i (by omega), hP.gr.trans (Grows.same hk.size), hP.kb.trans (Kb.of_below hk (S := [])) (fun b hb => by cases hb)⟩
  rcases Nat.lt_or_ge i k with h1 | h1
  · exact hP.at_ i x h1 hx
  · obtain rfl : i = k := by omega
    rw [hh] at hx; cases hx; exact hs
theorem Pre.all (hP : Pre D w X st steps Dn k D' Hs' w') (hk : k = X.Hs.length) : AtD Dn Hs' := ⟨fun x hx => by
  obtain ⟨i, hi, he⟩ := List.getElem_of_mem hx
  exact hP.at_ i x (by rw [hk, ← len_k hP.k]; exact hi) (by rw [List.getElem?_eq_getElem hi, he])⟩
/-- Behind the loop. -/
theorem Pre.heads (hP : Pre D w X st steps Dn k D' Hs' w') (hk : k = X.Hs.length) : heads Hs' = headsD Dn (lsK X.K) := by
  rw [← hP.k]
  exact heads_at (hP.all hk).at_ fun x hx => (hP.it.hds x hx).ls.len
theorem Pre.to_ (hP : Pre D w X st steps Dn k D' Hs' w') (hk : k = X.Hs.length) (hI : ItM D' w'' { X with Hs := Hs' } (if (bestF (Go.Proofs.Ytjkjlekfeelfpaa.heads Hs') 0 none).isSome then 1 else 2) steps) (hkb : Kb [X.ib] w' w'') : To D w X steps Dn D' Hs' w'' := by
  refine ⟨by rw [← hP.heads hk]; exact hI, hP.k, hP.all hk, hP.gr.trans (Grows.same hkb.size), hP.kb.trans hkb (fun b hb => .inl ?_)⟩
  rw [List.mem_singleton] at hb
  subst hb
  exact ctl_mem.2 (.inl rfl)
end
end Go.Proofs.Ytjkjlekfeelfpaa
/- Layer 23: First, Next, Seek, Pair, Steps of an iterator: the walks. -/
namespace Go.Proofs.Ytjkjlekfeelfpaa
open Go.RowKit Go.Lec Go.Op
theorem mv_of_to {D : Nat → Prop} {w w' : World} {sb k : Nat} {s : Sl Pr} {a : Int} {e : Ending} (h : LsM D w sb s a) (hD : ∀ b, D b → b ≠ sb) (hk : k ≤ s.n) (ht : ToP w sb s k e w') : MvTo D w sb s k e w' := by
  obtain ⟨h1, h2, h3⟩ := ht
  rw [Nat.min_eq_left hk] at h3
  exact ⟨h1, h2, h.to_ h2 hD h3⟩
section
variable {D : Nat → Prop} {w : World} {X : It} {st steps j q : Nat} {h : Hd}
theorem ItM.nDs (hI : ItM D w X st steps) (hj : X.Hs[j]? = some h) : ∀ b, D b → b ≠ h.sb := fun b hb e => hI.nD b (ctl_mem.2 (.inr ⟨h, List.mem_of_getElem? hj, .inr e⟩)) hb
theorem ItM.lsAt (hI : ItM D w X st steps) (hj : X.Hs[j]? = some h) {W : World} (hk : Kb [X.ib] w W) : LsM D W h.sb h.s h.at_ := by
  have hm := List.mem_of_getElem? hj
  refine (hI.hds h hm).ls.kb hk (by simpa using (hI.ne hm).2.1.symm) (fun b hb e => ?_)
  rw [List.mem_singleton] at e
  exact hI.nD b (ctl_mem.2 (.inl e)) hb
theorem c_mvFirst (hI : ItM D w X st steps) (hj : X.Hs[j]? = some h) (hst : steps ≤ 4611686018427387904) :
    Calls Try.prog 38 #[.pointer (some ⟨X.ib, 0, none⟩), .pointer (some ⟨h.hb, 0, none⟩), .func (.method "First") #[.iface 74 (.pointer (some ⟨h.sb, 0, none⟩))] #[]] w (MvP D w X st steps j h 0) :=
  c_moveFirst w hI hj (Nat.zero_le _) hst fun _ hk => (c_lFirst _ (hI.lsAt hj hk)).mono fun _ _ ht => mv_of_to (hI.lsAt hj hk) (hI.nDs hj) (Nat.zero_le _) ht
theorem c_mvNext (hI : ItM D w X st steps) (hj : X.Hs[j]? = some h) (hst : steps ≤ 4611686018427387904) (hq : h.at_ = (q : Int)) (hl : q < h.s.n) :
    Calls Try.prog 38 #[.pointer (some ⟨X.ib, 0, none⟩), .pointer (some ⟨h.hb, 0, none⟩), .func (.method "Next") #[.iface 74 (.pointer (some ⟨h.sb, 0, none⟩))] #[]] w (MvP D w X st steps j h (q + 1)) :=
  c_moveNext w hI hj (by omega) hst fun W hk => by
    have hL := hI.lsAt hj hk
    have hn := hL.n
    have e : h.at_ = ((q + 1 : Nat) : Int) - 1 := by rw [hq]; omega
    have hL2 := hL
    rw [e] at hL2
    exact (c_lNext W hL2 (by omega)).mono fun _ _ ht => mv_of_to hL (hI.nDs hj) (by omega) ht
end
theorem posD_of_srt {l : List Pr} (hs : Srt (l.map Pr.pl)) (key : List UInt8) : PosOf l key (posD (fun x => bytesLess x key) (l.map Pr.pl)) := by
  refine ⟨by have := posD_le (fun x => bytesLess x key) (l.map Pr.pl); rw [List.length_map] at this; exact this, fun t h => ?_⟩
  have ht : t < (l.map Pr.pl).length := by rw [List.length_map]; exact h
  have e : (l[t]).key = ((l.map Pr.pl)[t]).1 := by rw [List.getElem_map]; rfl
  rw [e]
  by_cases hp : t < posD (fun x => bytesLess x key) (l.map Pr.pl)
  · rw [decide_eq_true hp]; exact posD_lt (D := fun x => bytesLess x key) ht hp
  · rw [decide_eq_false hp]
    cases hb : bytesLess ((l.map Pr.pl)[t]).1 key with
    | false => rfl
    | true =>
      have hD : Down (fun x => bytesLess x key) := fun _ _ h1 h2 => less_trans h2 h1
      have h0 : posD (fun x => bytesLess x key) (l.map Pr.pl) < (l.map Pr.pl).length := by omega
      have h1 := posD_at (D := fun x => bytesLess x key) h0
      have h2 := srt_le hs h0 ht (by omega)
      have h1 : bytesLess _ key = false := h1
      rw [nless_less h2 hb] at h1
      cases h1
set_option maxRecDepth 100000 in
set_option maxHeartbeats 1600000 in
theorem c_seek1 (w : World) {D : Nat → Prop} {B2 nk ck p : Nat} {h : Hd} {hv kv : Nat} {Ak : Option Addr} {key : List UInt8} (hh : w.cell? ⟨h.hb, 0, none⟩ = some (.iface 74 (.pointer (some ⟨h.sb, 0, none⟩)))) (hl : LsM D w h.sb h.s h.at_) (hD : ∀ b, D b → b ≠ h.sb)
    (c0 : w.cell? ⟨hv, 0, none⟩ = some (.pointer (some ⟨h.hb, 0, none⟩))) (c1 : w.cell? ⟨kv, 0, none⟩ = some (.slice Ak nk ck)) (hk : Rd w B2 Ak nk (bcs key)) (hB2 : B2 ≤ w.heap.size) (hp : PosOf h.s.L key p) (n0 : h.hb ≠ h.sb) (n1 : hv ≠ h.sb) (n2 : kv ≠ h.sb) (l1 : hv < w.heap.size) (l2 : kv < w.heap.size) (l0 : h.hb < w.heap.size) :
    Calls Try.prog 40 #[.pointer (some ⟨hv, 0, none⟩), .pointer (some ⟨kv, 0, none⟩)] w (MvTo D w h.sb h.s p) := by
  have hpn : p ≤ h.s.n := by rw [← hl.len]; exact hp.le
  have HC := Lib.hid (c_lSeek w.drew (ck := ck) (hl.kb (Kb.refl [] w).drew (by simp) (by simp)) hD hk.drew hB2 hp)
  clear hl hk hp
  go_enter Try.func40, Try.ntmps40
  go_wp2
  have hHeld : (fun W : World => (W.cell? ⟨h.hb, 0, none⟩ = some (.iface 74 (.pointer (some ⟨h.sb, 0, none⟩))) ∧ W.cell? ⟨hv, 0, none⟩ = some (.pointer (some ⟨h.hb, 0, none⟩))) ∧ W.cell? ⟨kv, 0, none⟩ = some (.slice Ak nk ck)) w.drew := ⟨⟨hh, c0⟩, c1⟩
  refine wp_region_T (S := fun W : World => (W.cell? ⟨h.hb, 0, none⟩ = some (.iface 74 (.pointer (some ⟨h.sb, 0, none⟩))) ∧ W.cell? ⟨hv, 0, none⟩ = some (.pointer (some ⟨h.hb, 0, none⟩))) ∧ W.cell? ⟨kv, 0, none⟩ = some (.slice Ak nk ck)) (m := 7) (by kernel_rfl) ?_
  simp only [List.size_toArray, List.length_cons, List.length_nil, Nat.reduceAdd]
  refine tTake (i := 0) (v := ?_) rfl (by kernel_rfl) (by kernel_rfl) (by kernel_rfl) (by kernel_rfl) (fun _ _ _ h => h) hHeld (by rfl) ?_ ?_
  rotate_left
  · (intro w hSw; (try dsimp only at hSw); go_simp; try with_reducible rfl)
  try simp only [Act.put, List.setIfInBounds_toArray, List.set_cons_zero, List.set_cons_succ]
  refine tTake (i := 1) (v := ?_) rfl (by kernel_rfl) (by kernel_rfl) (by kernel_rfl) (by kernel_rfl) (fun _ _ _ h => h) hHeld (by rfl) ?_ ?_
  rotate_left
  · (intro w hSw; (try dsimp only at hSw); go_simp; try with_reducible rfl)
  try simp only [Act.put, List.setIfInBounds_toArray, List.set_cons_zero, List.set_cons_succ]
  refine tTake (i := 2) (v := ?_) rfl (by kernel_rfl) (by kernel_rfl) (by kernel_rfl) (by kernel_rfl) (fun _ _ _ h => h) hHeld (by rfl) ?_ ?_
  rotate_left
  · (intro w hSw; (try dsimp only at hSw); go_simp; try with_reducible rfl)
  try simp only [Act.put, List.setIfInBounds_toArray, List.set_cons_zero, List.set_cons_succ]
  refine tTake (i := 3) (v := ?_) rfl (by kernel_rfl) (by kernel_rfl) (by kernel_rfl) (by kernel_rfl) (fun _ _ _ h => h) hHeld (by rfl) ?_ ?_
  rotate_left
  · (intro w hSw; (try dsimp only at hSw); go_simp; try with_reducible rfl)
  try simp only [Act.put, List.setIfInBounds_toArray, List.set_cons_zero, List.set_cons_succ]
  refine tTake (i := 4) (v := ?_) rfl (by kernel_rfl) (by kernel_rfl) (by kernel_rfl) (by kernel_rfl) (fun _ _ _ h => h) hHeld (by rfl) ?_ ?_
  rotate_left
  · (intro w hSw; (try dsimp only at hSw); go_simp; try with_reducible rfl)
  try simp only [Act.put, List.setIfInBounds_toArray, List.set_cons_zero, List.set_cons_succ]
  refine tStep (i := 5) rfl (by kernel_rfl) (fun K hK => ?_)
  go_simp
  go_invoke
  go_simp
  go_at_call 94
  refine HC.out.mono ?_
  rintro e w2 ⟨rfl, hk2, hl2⟩
  have hHeldN : (fun W : World => (W.cell? ⟨h.hb, 0, none⟩ = some (.iface 74 (.pointer (some ⟨h.sb, 0, none⟩))) ∧ W.cell? ⟨hv, 0, none⟩ = some (.pointer (some ⟨h.hb, 0, none⟩))) ∧ W.cell? ⟨kv, 0, none⟩ = some (.slice Ak nk ck)) _ := ⟨⟨(hk2.cell (p := ⟨h.hb, 0, none⟩) l0 (by simpa using n0)).trans hh, (hk2.cell (p := ⟨hv, 0, none⟩) l1 (by simpa using n1)).trans c0⟩, (hk2.cell (p := ⟨kv, 0, none⟩) l2 (by simpa using n2)).trans c1⟩
  refine hK.out _ _ (fun _ => hHeldN) ?_
  clear hK K hHeld
  have hHeld := hHeldN
  clear hHeldN
  try simp only [Act.put, List.setIfInBounds_toArray, List.set_cons_zero, List.set_cons_succ]
  refine tTake (i := 6) (v := ?_) rfl (by kernel_rfl) (by kernel_rfl) (by kernel_rfl) (by kernel_rfl) (fun _ _ _ h => h) hHeld (by rfl) ?_ ?_
  rotate_left
  · (intro w hSw; (try dsimp only at hSw); go_simp; try with_reducible rfl)
  try simp only [Act.put, List.setIfInBounds_toArray, List.set_cons_zero, List.set_cons_succ]
  refine tDone (by kernel_rfl) ?_ _
  go_wp2
  go_ret
  exact ⟨rfl, ⟨hk2.os, hk2.tape, hk2.output, hk2.size, hk2.block⟩, by rw [Nat.min_eq_left hpn] at hl2; exact hl2⟩
section
variable {D : Nat → Prop} {w : World} {X : It} {st steps j q B2 nk ck hv kv : Nat} {h : Hd} {Ak : Option Addr} {key : List UInt8}
theorem c_mvSeek (hI : ItM D w X st steps) (hj : X.Hs[j]? = some h) (hst : steps ≤ 4611686018427387904) (c0 : w.cell? ⟨hv, 0, none⟩ = some (.pointer (some ⟨h.hb, 0, none⟩))) (c1 : w.cell? ⟨kv, 0, none⟩ = some (.slice Ak nk ck))
    (hvl : hv < w.heap.size) (hvn : hv ∉ X.ctl) (kvl : kv < w.heap.size) (kvn : kv ∉ X.ctl) (hk : Rd w w.heap.size Ak nk (bcs key)) (hkn : 0 < nk → ∀ a, Ak = some a → a.block ≠ X.ib) (hp : PosOf h.s.L key q) :
    Calls Try.prog 38 #[.pointer (some ⟨X.ib, 0, none⟩), .pointer (some ⟨h.hb, 0, none⟩), .func (.func 40) #[] #[.pointer (some ⟨hv, 0, none⟩), .pointer (some ⟨kv, 0, none⟩)]] w (MvP D w X st steps j h q) :=
  c_moveSeek w hI hj (by have := hp.le; have := (hI.hds h (List.mem_of_getElem? hj)).ls.len; omega) hst fun W hkb => by
    have hm := List.mem_of_getElem? hj
    have hb := (hI.hds h hm).bk.kb hkb (by simpa using (hI.ne hm).1.symm)
    have e1 : ∀ b, b ∉ X.ctl → b ≠ X.ib ∧ b ≠ h.sb := fun b hb => ⟨fun e => hb (ctl_mem.2 (.inl e)), fun e => hb (ctl_mem.2 (.inr ⟨h, hm, .inr e⟩))⟩
    exact c_seek1 W (hb.cell 0) (hI.lsAt hj hkb) (hI.nDs hj) ((hkb.cell hvl (by simpa using (e1 _ hvn).1)).trans c0) ((hkb.cell kvl (by simpa using (e1 _ kvn).1)).trans c1)
      (rd_kb (D := fun b => b ≠ X.ib) hk hkn hkb (by simp)) (Nat.le_refl _) hp (hI.ne hm).2.2 (e1 _ hvn).2 (e1 _ kvn).2 (Nat.lt_of_lt_of_le hvl hkb.size) (Nat.lt_of_lt_of_le kvl hkb.size) hb.lt
end
end Go.Proofs.Ytjkjlekfeelfpaa
/- Layer 23: First, Seek, Next, Pair, Steps of an iterator: the contracts. -/
namespace Go.Proofs.Ytjkjlekfeelfpaa
open Go.RowKit Go.Lec Go.Op
def noneD : List UInt8 → Bool := fun _ => false
theorem posD_none : ∀ l : List PairB, posD noneD l = 0
  | [] => rfl
  | _ :: _ => rfl
theorem Pre.grow {D D' : Nat → Prop} {w w' w'' : World} {X : It} {st steps k : Nat} {Dn : List UInt8 → Bool} {Hs' : List Hd} (hP : Pre D w X st steps Dn k D' Hs' w') (hk : Below w'.heap.size w' w'') : Pre D w X st steps Dn k D' Hs' w'' :=
  ⟨hP.it.below hk, hP.k, hP.at_, hP.rest, hP.gr.trans (Grows.same hk.size), hP.kb.trans (Kb.of_below hk (S := [])) (fun b hb => by cases hb)⟩
theorem To.from_ {D D' : Nat → Prop} {w w1 w' : World} {X : It} {steps : Nat} {Dn : List UInt8 → Bool} {Hs' : List Hd} (h : To D w1 X steps Dn D' Hs' w') (hb : Below w.heap.size w w1) : To D w X steps Dn D' Hs' w' :=
  ⟨h.it, h.k, h.at_, (Grows.same hb.size).trans h.gr, (Kb.of_below hb (S := X.ctl)).trans h.kb (fun _ hb => .inl hb)⟩
set_option maxRecDepth 100000 in
set_option maxHeartbeats 1600000 in
theorem c_IFirst (w : World) {D : Nat → Prop} {X : It} {st steps : Nat} (hI : ItM D w X st steps) (hst : steps ≤ 2305843009213693952) :
    Calls Try.prog 18 #[.pointer (some ⟨X.ib, 0, none⟩)] w (ToI D w X steps noneD) := by
  have hn := hI.n
  obtain ⟨ib, A, cA, Hs⟩ := X
  have HC := Lib.hid (c_isI w hI.bk rfl)
  have q1 := hI.bk.cell 1
  dsimp only at hn q1 HC
  obtain ⟨n, hnn⟩ : ∃ n, n = Hs.length := ⟨_, rfl⟩
  rw [← hnn] at hn q1
  have Hn := Lib.hid hnn
  have HI := Lib.hid hI
  clear hnn hI
  dsimp only
  go_enter Try.func18, Try.ntmps18
  go_wp2_with (first | (go_at_call 36; (refine HC.out.mono ?_); rintro e w1 ⟨rfl, rfl⟩))
  go_loopw [13] (fun v13 wr => ∃ (k : Nat) (D' : Nat → Prop) (Hs' : List Hd), k ≤ n ∧ v13 = .int .i64 (k : Int) ∧ Pre D w1 ⟨ib, A, cA, Hs⟩ st (steps + k) noneD k D' Hs' wr) (fun v13 _ => n - (intOf v13).toNat)
  case atStart => exact ⟨0, D, Hs, Nat.zero_le _, rfl, Pre.zero HI.out _⟩
  case round =>
    obtain ⟨k, D', Hs', hk, rfl, hP⟩ := hrel
    clear q1
    by_cases hlt : k < n
    · have hI' := hP.it
      have hlen : Hs'.length = n := by have := len_k hP.k; dsimp only at this; rw [this, Hn.out]
      obtain ⟨h, hh⟩ : ∃ h, Hs'[k]? = some h := ⟨_, List.getElem?_eq_getElem (by omega)⟩
      have hm := List.mem_of_getElem? hh
      have hho := hI'.hds h hm
      obtain ⟨b, o, hA, hbB, hc⟩ := hI'.row.2 (by dsimp only; omega)
      dsimp only at hA
      subst hA
      have c0 : wr.cell? ⟨b, o + k, none⟩ = some (.pointer (some ⟨h.hb, 0, none⟩)) := hc k (.pointer (some ⟨h.hb, 0, none⟩)) (by rw [List.getElem?_map, hh]; rfl)
      have c1 := hho.bk.cell 0
      have HM := c_mvFirst hI' hh (by omega)
      unfold MvP at HM
      have HM := Lib.hid HM
      have HP := Lib.hid hP
      have Hh := Lib.hid hh
      clear hc hho hI' hP hh HC
      go_wp2_with (first | (go_at_call 38; (refine HM.out.mono ?_); rintro e w2 ⟨rfl, D2, h2, hI2, ht, hg, hkb⟩))
      refine ⟨⟨k + 1, D2, Hs'.set k h2, by omega, by go_num, HP.out.next Hh.out hI2 ht (posD_none _).symm hg hkb⟩, by simp [intOf]; omega⟩
    · obtain rfl : k = n := by omega
      have HSt := c_settle _ hP.it
      unfold SettleP at HSt
      have HSt := Lib.hid HSt
      have HP := Lib.hid hP
      clear hP HC
      go_wp2_with (first | (go_at_call 39; (refine HSt.out.mono ?_); rintro e w2 ⟨rfl, hI2, hkb⟩))
      go_ret
      exact ⟨by rw [← HP.out.heads Hn.out]; rfl, D', Hs', steps + k, by dsimp only; have := Hn.out; omega, HP.out.to_ Hn.out hI2 hkb⟩
set_option maxRecDepth 100000 in
set_option maxHeartbeats 1600000 in
theorem c_ISeek (w : World) {D : Nat → Prop} {X : It} {st steps B nk ck : Nat} {Ak : Option Addr} {key : List UInt8} (hI : ItM D w X st steps) (hst : steps ≤ 2305843009213693952) (hk : Rd w B Ak nk (bcs key)) (hB : B ≤ w.heap.size) (hkc : 0 < nk → ∀ a, Ak = some a → a.block ∉ X.ctl) (hsr : ∀ l ∈ lsK X.K, Srt l) :
    Calls Try.prog 20 #[.pointer (some ⟨X.ib, 0, none⟩), .slice Ak nk ck] w (ToI D w X steps (fun x => bytesLess x key)) := by
  have hn := hI.n
  have hb0 := (Below.refl w.heap.size w).alloc (Nat.le_refl _) (.cells #[.slice Ak nk ck] 34)
  have N0 := Bk.new_ w 34 #[.slice Ak nk ck]
  have hI0 := hI.below hb0
  have hk0 : Rd (w.alloc (.cells #[.slice Ak nk ck] 34)) (w.alloc (.cells #[.slice Ak nk ck] 34)).heap.size Ak nk (bcs key) := (hk.below hb0 hB).more (by rw [World.size_alloc]; omega)
  have hkv : w.heap.size ∉ X.ctl := fun hm => by have := hI.lt _ hm; omega
  unfold ToI
  obtain ⟨w0, hw0⟩ : ∃ W, W = w.alloc (.cells #[.slice Ak nk ck] 34) := ⟨_, rfl⟩
  have hz0 : w0.heap.size = w.heap.size + 1 := by rw [hw0]; simp
  obtain ⟨kv, hkve⟩ : ∃ kv, kv = w.heap.size := ⟨_, rfl⟩
  rw [← hw0] at hb0 N0 hI0 hk0
  obtain ⟨ib, A, cA, Hs⟩ := X
  have HC := Lib.hid (c_isI w0 hI0.bk rfl)
  have q1 := hI0.bk.cell 1
  dsimp only at hn q1 HC hkc hkv ⊢
  obtain ⟨n, hnn⟩ : ∃ n, n = Hs.length := ⟨_, rfl⟩
  rw [← hnn] at hn q1
  have Hn := Lib.hid hnn
  have HI := Lib.hid hI0
  have HKc := Lib.hid hkc
  have Hsr := Lib.hid hsr
  have Hb0 := Lib.hid hb0
  rw [← hkve] at N0 hkv
  have HK0 := Lib.hid hk0
  have Hkv := Lib.hid hkv
  have HN0 := Lib.hid N0
  have hkl : kv < w0.heap.size := N0.lt
  clear hnn hI hI0 hkc hsr hb0 hk hk0 hkv N0 hz0
  go_enter Try.func20, Try.ntmps20
  go_wp2_with fail
  rw [← hw0, ← hkve]
  clear hw0 hkve
  refine HC.out.mono ?_
  rintro e w1 ⟨rfl, rfl⟩
  clear HC
  go_wp2
  go_loopw [15] (fun v15 wr => ∃ (k : Nat) (D' : Nat → Prop) (Hs' : List Hd), k ≤ n ∧ v15 = .int .i64 (k : Int) ∧ Pre D w1 ⟨ib, A, cA, Hs⟩ st (steps + k) (fun x => bytesLess x key) k D' Hs' wr) (fun v15 _ => n - (intOf v15).toNat)
  case atStart => exact ⟨0, D, Hs, Nat.zero_le _, rfl, Pre.zero HI.out _⟩
  case round =>
    obtain ⟨k, D', Hs', hk, rfl, hP⟩ := hrel
    clear q1
    by_cases hlt : k < n
    · have hI' := hP.it
      have hlen : Hs'.length = n := by have := len_k hP.k; dsimp only at this; rw [this, Hn.out]
      obtain ⟨h, hh⟩ : ∃ h, Hs'[k]? = some h := ⟨_, List.getElem?_eq_getElem (by omega)⟩
      have hm := List.mem_of_getElem? hh
      have hho := hI'.hds h hm
      obtain ⟨b, o, hA, hbB, hc⟩ := hI'.row.2 (by dsimp only; omega)
      dsimp only at hA
      subst hA
      have c0 : wr.cell? ⟨b, o + k, none⟩ = some (.pointer (some ⟨h.hb, 0, none⟩)) := hc k (.pointer (some ⟨h.hb, 0, none⟩)) (by rw [List.getElem?_map, hh]; rfl)
      have hb4 := (Below.refl wr.heap.size wr).alloc (Nat.le_refl _) (.cells #[.pointer (some ⟨h.hb, 0, none⟩)] 84)
      have N4 := Bk.new_ wr 84 #[.pointer (some ⟨h.hb, 0, none⟩)]
      have HP4 := hP.grow hb4
      have hkv4 := ((HN0.out.kb hP.kb Hkv.out).below hb4 (Nat.lt_of_lt_of_le hkl hP.kb.size)).cell 0
      have hvn : wr.heap.size ∉ (⟨ib, some ⟨b, o, none⟩, cA, Hs'⟩ : It).ctl := fun hmm => by have := hI'.lt _ hmm; omega
      have hkvn : kv ∉ (⟨ib, some ⟨b, o, none⟩, cA, Hs'⟩ : It).ctl := by rw [ctl_k hP.k]; exact Hkv.out
      have hkn' : 0 < nk → ∀ a, Ak = some a → a.block ∉ (⟨ib, some ⟨b, o, none⟩, cA, Hs'⟩ : It).ctl := fun h0 a ha => by rw [ctl_k hP.k]; exact HKc.out h0 a ha
      have hkr := rd_kb (D := fun x => x ∉ (⟨ib, some ⟨b, o, none⟩, cA, Hs⟩ : It).ctl) HK0.out HKc.out hP.kb (fun _ hb => hb)
      have hkr4 := (hkr.below hb4 (Nat.le_refl _)).more hb4.size
      have hsrt : Srt (h.s.L.map Pr.pl) := Hsr.out _ (List.mem_map.2 ⟨h.k, by rw [← hP.k]; exact List.mem_map.2 ⟨h, hm, rfl⟩, rfl⟩)
      have HM := c_mvSeek HP4.it hh (by omega) (N4.cell 0) hkv4 N4.lt hvn (by rw [World.size_alloc]; have := hP.kb.size; omega) hkvn hkr4 (fun h0 a ha e => hkn' h0 a ha (ctl_mem.2 (.inl e))) (posD_of_srt hsrt key)
      unfold MvP at HM
      have HM := Lib.hid HM
      have HP := Lib.hid HP4
      have Hh := Lib.hid hh
      clear hc hho hI' hP hh hb4 HP4 hkv4 hvn hkvn hkn' hkr hkr4 hsrt hm N4
      go_wp2_with (first | (go_at_call 38; (refine HM.out.mono ?_); rintro e w2 ⟨rfl, D2, h2, hI2, ht, hg, hkb⟩))
      refine ⟨⟨k + 1, D2, Hs'.set k h2, by omega, by go_num, HP.out.next Hh.out hI2 ht rfl hg hkb⟩, by simp [intOf]; omega⟩
    · obtain rfl : k = n := by omega
      have HSt := c_settle _ hP.it
      unfold SettleP at HSt
      have HSt := Lib.hid HSt
      have HP := Lib.hid hP
      clear hP
      go_wp2_with (first | (go_at_call 39; (refine HSt.out.mono ?_); rintro e w2 ⟨rfl, hI2, hkb⟩))
      go_ret
      exact ⟨by rw [← HP.out.heads Hn.out]; rfl, D', Hs', steps + k, by have := Hn.out; omega, (HP.out.to_ Hn.out hI2 hkb).from_ Hb0.out⟩
end Go.Proofs.Ytjkjlekfeelfpaa
