/- Layer 23: an iterator stands where one over all pairs would. -/
import Derived.Test.YtjkjlekfeelfpaaMsU
namespace Go.Lec
theorem best_some {ls : List (List PairB)} {all : List PairB} {D : List UInt8 → Bool} (hD : Down D) (ha : AllOf ls.flatten all) (hs : ∀ l ∈ ls, Srt l) : (bestF (headsD D ls) 0 none).isSome = decide (posD D all < all.length) := by
  obtain ⟨h1, h2⟩ := best_all hD ha hs
  cases hb : bestF (headsD D ls) 0 none with
  | none => have := h2 hb; simp [this]
  | some r =>
    have := h1 r.1 r.2 hb
    have := (List.getElem?_eq_some_iff.1 this).1
    simp [this]
theorem posD_up {D : List UInt8 → Bool} (hD : Down D) {all : List PairB} (hs : Srt all) {p : PairB} (hp : all[posD D all]? = some p) : posD (upD p.1) all = posD D all + 1 := by
  obtain ⟨hl, he⟩ := List.getElem?_eq_some_iff.1 hp
  have h1 := posD_at hl
  rw [he] at h1
  rw [up_list hD hs h1 (fun h => by rw [he]; exact less_irr _), dif_pos hl, if_pos (by rw [he])]
end Go.Lec
namespace Go.Proofs.Ytjkjlekfeelfpaa
open Go.RowKit Go.Lec Go.Op
/-- The lists of an iterator make all of these pairs. -/
structure Makes (X : It) (all : List PairB) : Prop where
  all : AllOf (lsK X.K).flatten all
  srt : ∀ l ∈ lsK X.K, Srt l
/-- An iterator that stands at place q of all. -/
structure ItAt (all : List PairB) (D : Nat → Prop) (w : World) (X : It) (steps q : Nat) : Prop where
  ms : Makes X all
  at_ : ∃ Dn, Down Dn ∧ AtD Dn X.Hs ∧ posD Dn all = q
  it : ItM D w X (if q < all.length then 1 else 2) steps
  lt : ∀ b, D b → b < w.heap.size
structure Same (X X' : It) : Prop where
  ib : X'.ib = X.ib
  K : X'.K = X.K
theorem Same.ctl {X X' : It} (h : Same X X') : X'.ctl = X.ctl := by unfold It.ctl; rw [h.ib, h.K]
theorem Same.len {X X' : It} (h : Same X X') : X'.Hs.length = X.Hs.length := by have := congrArg List.length h.K; unfold It.K at this; simpa using this
theorem Same.trans {X Y Z : It} (h : Same X Y) (k : Same Y Z) : Same X Z := ⟨k.ib.trans h.ib, k.K.trans h.K⟩
theorem Same.refl (X : It) : Same X X := ⟨rfl, rfl⟩
/-- It stands at place q now. -/
def NowP (all : List PairB) (D : Nat → Prop) (w : World) (X : It) (steps q : Nat) (e : Ending) (w' : World) : Prop :=
  e = .returned (.bool (decide (q < all.length))) ∧ ∃ D' X' steps', Same X X' ∧ steps' ≤ steps + X.Hs.length ∧ ItAt all D' w' X' steps' q ∧ Grows D w D' w' ∧ Kb X.ctl w w'
section
variable {all : List PairB} {D : Nat → Prop} {w w' : World} {X : It} {st steps q : Nat} {S : List Nat} {e : Ending}
theorem ItAt.kb (h : ItAt all D w X steps q) (hk : Kb S w w') (hS : ∀ b ∈ X.ctl, b ∉ S) (hD : ∀ b, D b → b ∉ S) : ItAt all D w' X steps q := ⟨h.ms, h.at_, h.it.kb hk hS hD, fun b hb => Nat.lt_of_lt_of_le (h.lt b hb) hk.size⟩
theorem ItAt.below (h : ItAt all D w X steps q) (hb : Below w.heap.size w w') : ItAt all D w' X steps q := ⟨h.ms, h.at_, h.it.below hb, fun b hb' => Nat.lt_of_lt_of_le (h.lt b hb') hb.size⟩
theorem now_of {Dn : List UInt8 → Bool} (hm : Makes X all) (hD : Down Dn) (hq : posD Dn all = q) (hlt : ∀ b, D b → b < w.heap.size) (h : ToI D w X steps Dn e w') : NowP all D w X steps q e w' := by
  obtain ⟨rfl, D', Hs', steps', hs, ht⟩ := h
  have hb := best_some hD hm.all hm.srt
  rw [hq] at hb
  have hK : ({ X with Hs := Hs' } : It).K = X.K := ht.k
  have hI := ht.it
  rw [hb] at hI
  refine ⟨by rw [hb], D', { X with Hs := Hs' }, steps', ⟨rfl, hK⟩, hs, ⟨⟨by rw [hK]; exact hm.all, by rw [hK]; exact hm.srt⟩, ⟨Dn, hD, ht.at_, hq⟩, ?_, fun b hb => by exact (ht.gr.new_ b hb).elim (fun h1 => Nat.lt_of_lt_of_le (hlt b h1) ht.gr.size) (fun h1 => h1.2)⟩, ht.gr, ht.kb⟩
  by_cases hl : q < all.length
  · rw [if_pos hl]; rw [decide_eq_true hl] at hI; exact hI
  · rw [if_neg hl]; rw [decide_eq_false hl] at hI; exact hI
theorem none_down : Down noneD := fun _ _ h _ => h
theorem i_First (hI : ItM D w X st steps) (hm : Makes X all) (hlt : ∀ b, D b → b < w.heap.size) (hst : steps ≤ 2305843009213693952) :
    Calls Try.prog 18 #[.pointer (some ⟨X.ib, 0, none⟩)] w (NowP all D w X steps 0) :=
  (c_IFirst w hI hst).mono fun _ _ h => now_of hm none_down (posD_none _) hlt h
theorem i_Next0 (hI : ItM D w X 0 steps) (hm : Makes X all) (hlt : ∀ b, D b → b < w.heap.size) (hst : steps ≤ 2305843009213693952) :
    Calls Try.prog 19 #[.pointer (some ⟨X.ib, 0, none⟩)] w (NowP all D w X steps 0) :=
  (c_INext0 w hI hst).mono fun _ _ h => now_of hm none_down (posD_none _) hlt h
theorem i_Seek {B nk ck : Nat} {Ak : Option Addr} {key : List UInt8} (hI : ItM D w X st steps) (hm : Makes X all) (hlt : ∀ b, D b → b < w.heap.size) (hst : steps ≤ 2305843009213693952) (hk : Rd w B Ak nk (bcs key)) (hB : B ≤ w.heap.size) (hkc : 0 < nk → ∀ a, Ak = some a → a.block ∉ X.ctl) :
    Calls Try.prog 20 #[.pointer (some ⟨X.ib, 0, none⟩), .slice Ak nk ck] w (NowP all D w X steps (posD (fun x => bytesLess x key) all)) :=
  (c_ISeek w hI hst hk hB hkc hm.srt).mono fun _ _ h => now_of hm (fun _ _ h1 h2 => less_trans h2 h1) rfl hlt h
theorem ItAt.best (h : ItAt all D w X steps q) (hq : q < all.length) : ∃ Dn i, Down Dn ∧ AtD Dn X.Hs ∧ posD Dn all = q ∧ bestF (headsD Dn (lsK X.K)) 0 none = some (i, all[q]) ∧ bestF (heads X.Hs) 0 none = some (i, all[q]) := by
  obtain ⟨Dn, hD, hat, hp⟩ := h.at_
  have hb := best_some hD h.ms.all h.ms.srt
  obtain ⟨h1, _⟩ := best_all hD h.ms.all h.ms.srt
  rw [hp, decide_eq_true hq] at hb
  cases hr : bestF (headsD Dn (lsK X.K)) 0 none with
  | none => rw [hr] at hb; cases hb
  | some r =>
    have h2 := h1 r.1 r.2 hr
    rw [hp, List.getElem?_eq_getElem hq] at h2
    have h2 : all[q] = r.2 := Option.some.inj h2
    have hh : heads X.Hs = headsD Dn (lsK X.K) := heads_at hat.at_ fun x hx => (h.it.hds x hx).ls.len
    exact ⟨Dn, r.1, hD, hat, hp, by rw [hr, h2], by rw [hh, hr, h2]⟩
theorem i_Next (h : ItAt all D w X steps q) (hq : q < all.length) (hst : steps ≤ 2305843009213693952) :
    Calls Try.prog 19 #[.pointer (some ⟨X.ib, 0, none⟩)] w (NowP all D w X steps (q + 1)) := by
  obtain ⟨Dn, i, hD, hat, hp, hb, _⟩ := h.best hq
  have hI := h.it
  rw [if_pos hq] at hI
  refine (c_INext1 w hI hst hD hat h.ms.srt hb).mono fun _ _ ht => now_of h.ms (upD_down _) ?_ h.lt ht
  have := posD_up hD h.ms.all.srt (p := all[q]) (by rw [hp, List.getElem?_eq_getElem hq])
  rw [this, hp]
theorem i_NextEnd (h : ItAt all D w X steps q) (hq : ¬ q < all.length) :
    Calls Try.prog 19 #[.pointer (some ⟨X.ib, 0, none⟩)] w fun e w' => e = .returned (.bool false) ∧ w' = w := by
  have hI := h.it
  rw [if_neg hq] at hI
  exact c_INext2 w hI
theorem i_Pair (h : ItAt all D w X steps q) (hq : q < all.length) :
    Calls Try.prog 17 #[.pointer (some ⟨X.ib, 0, none⟩)] w (PairP w all[q]) := by
  obtain ⟨Dn, i, hD, hat, hp, _, hb⟩ := h.best hq
  have hI := h.it
  rw [if_pos hq] at hI
  exact c_IPair1 w hI hb
theorem i_PairEnd (h : ItAt all D w X steps q) (hq : ¬ q < all.length) :
    Calls Try.prog 17 #[.pointer (some ⟨X.ib, 0, none⟩)] w (NoPair w) := by
  have hI := h.it
  rw [if_neg hq] at hI
  exact c_IPairN w hI (by decide) (by decide)
end
/-- The lists of sources, one behind another. -/
def srcL (Ss : List (Option (Nat × Sl Pr))) : List (List PairB) := (Ss.filterMap id).map fun k => k.2.L.map Pr.pl
theorem new_makes {X : It} {Ss : List (Option (Nat × Sl Pr))} (h : X.Hs.map Hd.src = Ss.filterMap id) : lsK X.K = srcL Ss := by
  unfold lsK It.K srcL
  rw [← h, List.map_map, List.map_map]
  rfl
end Go.Proofs.Ytjkjlekfeelfpaa
/- Layer 23: all pairs of several sources (All); the law's sources. -/
namespace Go.Lec
open Go.RowKit
section
variable {α : Type} {E : Enc α} {X : Nat → Prop} {w W W' : World} {B k n : Nat} {e : TypeId} {L : List α} {v : Value} {xs : List Value} {S : List Nat}
theorem OwnK.kb (h : OwnK W B e k v n xs) (hk : Kb S W W') (hS : ∀ g, v.ownBlock = some g → g ∉ S) : OwnK W' B e k v n xs := by
  refine ⟨h.1, ?_⟩
  rcases h.2 with h2 | ⟨g, cap, cur, rfl, hg, hh, r⟩
  · exact .inl h2
  · exact .inr ⟨g, cap, cur, rfl, hg, (hk.block g (Array.getElem?_eq_some_iff.1 hh).1 (hS g rfl)).trans hh, r⟩
theorem Gth.kbS (h : Gth E X w W e L v) (hk : Kb S W W') (ho : ∀ g, v.ownBlock = some g → g ∉ S) (hX : ∀ b, X b → b ∉ S) (hw : ∀ b ∈ S, w.heap.size ≤ b) : Gth E X w W' e L v :=
  ⟨h.own.kb hk ho, fun m hm => ⟨(h.oks m hm).1.kb (h.oks m hm).2.2 hk hX, (h.oks m hm).2⟩, h.below.trans (hk.below hw h.below.size)⟩
end
end Go.Lec
namespace Go.Proofs.Ytjkjlekfeelfpaa
open Go.RowKit Go.Lec Go.Op
def slLen : Value → Nat
  | .slice _ n _ => n
  | _ => 0
def MAllP (w0 : World) (all : List PairB) (e : Ending) (w' : World) : Prop :=
  ∃ (L : List Pr) (A : Option Addr) (c : Nat), e = .returned (.slice A L.length c) ∧ Els encPr w' w'.heap.size A L.length L ∧ L.map Pr.pl = all ∧ Below w0.heap.size w0 w'
set_option maxRecDepth 100000 in
set_option maxHeartbeats 1600000 in
theorem c_mAll (w0 w : World) {D : Nat → Prop} {B n c : Nat} {A : Option Addr} {Ss : List (Option (Nat × Sl Pr))} {all : List PairB} (hr : Rd w B A n (Ss.map srcV)) (hB : B ≤ w.heap.size) (hS : Srcs D w Ss) (hn : n ≤ 100000) (hD : ∀ b, D b → b < w.heap.size)
    (h0 : Below w0.heap.size w0 w) (hsb : ∀ k, some k ∈ Ss → w0.heap.size ≤ k.1) (ha : AllOf (srcL Ss).flatten all) (hs : ∀ l ∈ srcL Ss, Srt l) (hal : all.length ≤ 10000) :
    Calls Try.prog 13 #[.slice A n c] w (MAllP w0 all) := by
  have HC := c_New w (c := c) hr hB hS hn hD
  unfold NewP at HC
  have HC := Lib.hid HC
  have Hsb := Lib.hid hsb
  have Ha := Lib.hid ha
  have Hs := Lib.hid hs
  have H0 := Lib.hid h0
  have HSs := Lib.hid hS
  have HD := Lib.hid hD
  clear hr hS hD hsb ha hs h0
  go_enter Try.func13, Try.ntmps13
  go_wp2_with fail
  refine HC.out.mono ?_
  rintro e w1 ⟨X, D1, rfl, hI, hX, hb1, hg1, hib, hhb⟩
  have hK := new_makes hX
  have hm : Makes X all := ⟨by rw [hK]; exact Ha.out, by rw [hK]; exact Hs.out⟩
  have hn1 := hI.n
  have h01 : Below w0.heap.size w0 w1 := H0.out.trans (hb1.mono H0.out.size)
  have hctl : ∀ b ∈ X.ctl, w0.heap.size ≤ b := fun b hb => by
    have hz := H0.out.size
    rcases ctl_mem.1 hb with rfl | ⟨h, hh, rfl | rfl⟩
    · omega
    · have := hhb h hh; omega
    · refine Hsb.out h.src ?_
      have h1 : h.src ∈ Ss.filterMap id := by rw [← hX]; exact List.mem_map.2 ⟨h, hh, rfl⟩
      obtain ⟨o, ho, he⟩ := List.mem_filterMap.1 h1
      have he : o = some h.src := he
      rw [← he]; exact ho
  have hDl : ∀ b, D1 b → b < w1.heap.size := fun b hb => (hg1.new_ b hb).elim (fun h1 => Nat.lt_of_lt_of_le (HD.out b h1) hg1.size) (fun h1 => h1.2)
  have HF := i_First hI hm hDl (by omega)
  unfold NowP at HF
  have HF := Lib.hid HF
  have Hctl := Lib.hid hctl
  have HG0 := Lib.hid (show Gth encPr (fun b => b ∉ X.ctl) w0 w1 42 [] (.slice none 0 0) from Gth.nil _ _ _ _ h01)
  clear hI hK hm hb1 hg1 hib hhb h01 hctl HC hX
  go_wp2_with fail
  refine HF.out.mono ?_
  rintro e w2 ⟨rfl, D2, X2, st2, hs2, hst2, hI2, hg2, hk2⟩
  have HG2 := Lib.hid (HG0.out.kbS hk2 (fun g e => by cases e) (fun _ h => h) Hctl.out)
  have HI2 := Lib.hid hI2
  have Hs2 := Lib.hid hs2
  clear HF HG0 hI2 hg2 hk2 hs2
  go_wp2
  go_loopw [3, 5] (fun v3 v5 wr => ∃ (q st : Nat) (D' : Nat → Prop) (X' : It) (O : List Pr) (v : Value), v3 = v ∧ v5 = .bool (decide (q < all.length)) ∧ q ≤ all.length ∧ O.length = q ∧ Hid (ItAt all D' wr X' st q) ∧ Hid (Same X X') ∧ st ≤ (q + 1) * X.Hs.length ∧ Hid (Gth encPr (fun b => b ∉ X.ctl) w0 wr 42 O v) ∧ Hid (O.map Pr.pl = all.take q) ∧ Hid (∀ g, v.ownBlock = some g → ¬ D' g ∧ g ∉ X.ctl)) (fun v3 _ _ => all.length + 1 - slLen v3)
  case atStart => exact ⟨0, st2, D2, X2, [], _, rfl, rfl, Nat.zero_le _, rfl, HI2, Hs2, by omega, HG2, Lib.hid rfl, Lib.hid (fun g e => by cases e)⟩
  case round =>
    obtain ⟨q, st, D', X', O, v, rfl, rfl, hq, hOl, HI, HSm, hst, HG, HO, Hv⟩ := hrel
    obtain ⟨As, cs, rfl, hcs⟩ := HG.out.own.shape
    rw [hOl] at hcs HG Hv ⊢
    by_cases hlt : q < all.length
    · have HP := i_Pair HI.out hlt
      unfold PairP at HP
      rw [HSm.out.ib] at HP
      have HP := Lib.hid HP
      have hdt : decide (q < all.length) = true := decide_eq_true hlt
      rw [hdt]
      have hst1 : (q + 1) * X.Hs.length ≤ 10001 * 100000 := Nat.mul_le_mul (by omega) hn1
      have Hat := Lib.hid (show all.take (q + 1) = all.take q ++ [all[q]] from List.take_succ_eq_append_getElem hlt)
      obtain ⟨p, hp⟩ : ∃ p, p = all[q] := ⟨_, rfl⟩
      rw [← hp] at HP Hat
      clear hp hdt
      go_wp2_with fail
      (with_reducible refine HP.out.mono ?_)
      rintro e w3 ⟨m, rfl, hm1, hm2, hm3, hb3⟩
      have HG3 := HG.out.grow hb3
      have HI3 := HI.out.below hb3
      have hb4 := (Below.refl w3.heap.size w3).alloc (Nat.le_refl _) (.cells #[.slice m.A1 m.n1 m.c1, .slice m.A2 m.n2 m.c2] 42)
      have HG4 := HG3.grow hb4
      have HI4 := HI3.below hb4
      have N4 := Bk.new_ w3 42 #[.slice m.A1 m.n1 m.c1, .slice m.A2 m.n2 m.c2]
      have x0 := N4.cell 0
      have x1 := N4.cell 1
      have hm4 := ((encPr_ok hm1).below hb4 (Nat.le_refl _)).more hb4.size
      have hlie : encPr.lie (fun b => b ∉ X.ctl) m := (encPr_hi hm2).imp fun b hb hc => by
        have h1 : wr.heap.size ≤ b := hb
        have h2 := HI.out.it.lt b (by rw [HSm.out.ctl]; exact hc)
        omega
      have hfar : encPr.lie (fun b => some b ≠ (Value.slice As q cs).ownBlock) m := HG.out.far (encPr_hi hm2)
      have Hm := Lib.hid (And.intro hm4 (And.intro hlie (And.intro hfar hm3)))
      have HG4h := Lib.hid HG4
      have HI4h := Lib.hid HI4
      have Hb34 := Lib.hid (hb3.trans (hb4.mono hb3.size))
      clear hm1 hm2 hm3 hb3 HG3 HI3 hb4 HG4 HI4 N4 hm4 hlie hfar HP HG HI
      have hol1 : O.length + 1 ≤ 10001 := by omega
      have Hol := Lib.hid hOl
      have hsz := hn1
      clear hOl
      go_wp2_with (first
        | (at_builtin; ((refine wpList_appK_new (m := 1) (c := 1) rfl (.tmp 20) (.tmp 22) rfl slpM (by decide) rfl HG4h.out.own HG4h.out.below HG4h.out.below.size (by rw [World.size_alloc]; rfl) (news := m.cs) rfl m.cs_one (by omega) ?_); intro v5 w5 ho5 hb5 hg5 hat5 hs5; have HG5 := Lib.hid (HG4h.out.snoc Hm.out.1 Hm.out.2.2.1 Hm.out.2.1 ho5 hg5 hat5 hb5); have hHI5 := HI4h.out.kb (kb_grown hg5) (fun b hb hm => by rw [Option.mem_toList] at hm; exact (Hv.out b hm).2 (by rw [← HSm.out.ctl]; exact hb)) (fun b hb hm => by rw [Option.mem_toList] at hm; exact (Hv.out b hm).1 hb); have HNx := i_Next hHI5 hlt (by omega); unfold NowP at HNx; rw [HSm.out.ib] at HNx; have HNx := Lib.hid HNx; have hw4 : wr.heap.size ≤ (w3.alloc (.cells #[.slice m.A1 m.n1 m.c1, .slice m.A2 m.n2 m.c2] 42)).heap.size := Hb34.out.size; have Hv5 := Lib.hid (show ∀ g, v5.ownBlock = some g → ¬ D' g ∧ g ∉ X.ctl from fun g e => by { rcases hat5 with e2 | ⟨g', e2, hg'⟩; · { rw [e2] at e; exact Hv.out g e }; · { rw [e] at e2; cases e2; refine ⟨fun hD => ?_, fun hc => ?_⟩; · { have := HI4h.out.lt g hD; omega }; · { have := HI4h.out.it.lt g (by rw [HSm.out.ctl]; exact hc); omega } } }); obtain ⟨A5, c5, rfl, hc5⟩ := ho5.shape; have Hg5 := Lib.hid (ho5.lt); clear hHI5 ho5 hb5 hg5 hat5))
        | (go_at_call 19; (with_reducible refine HNx.out.mono ?_); rintro e w6 ⟨rfl, D6, X6, st6, hs6, hst6, hI6, hg6, hk6⟩))
      refine ⟨⟨q + 1, st6, D6, X6, O ++ [m], _, rfl, rfl, by omega, by rw [List.length_append, Hol.out]; rfl, Lib.hid hI6, Lib.hid (HSm.out.trans hs6), ?_, Lib.hid (HG5.out.kbS hk6 (fun g e => ?_) (fun b hb => ?_) (fun b hb => ?_)), Lib.hid (by rw [List.map_append, HO.out, Hat.out, ← Hm.out.2.2.2]; rfl), Lib.hid fun g e => ⟨fun hD => ?_, (Hv5.out g e).2⟩⟩, ?_⟩
      · have := HSm.out.len; rw [Nat.add_mul (q + 1) 1]; omega
      · rw [HSm.out.ctl]; exact (Hv5.out g e).2
      · rw [HSm.out.ctl]; exact hb
      · rw [HSm.out.ctl] at hb; exact Hctl.out b hb
      · rcases hg6.new_ g hD with h1 | h1
        · exact (Hv5.out g e).1 h1
        · have := (Hg5.out g e).2; omega
      · have := Hol.out; simp [slLen]; omega
    · have hdf : decide (q < all.length) = false := decide_eq_false hlt
      rw [hdf]
      clear hdf
      go_wp2
      go_ret
      have hqe : q = all.length := by omega
      refine ⟨O, As, cs, by rw [hOl]; rfl, by rw [hOl]; exact HG.out.els hOl, ?_, HG.out.below⟩
      rw [HO.out, hqe, List.take_length]
end Go.Proofs.Ytjkjlekfeelfpaa
/- Layer 23: the law's sources. -/
namespace Go.Proofs.Ytjkjlekfeelfpaa
open Go.RowKit Go.Lec Go.Op
theorem infoSrc : (Try.prog.info? 32).map (fun i => (i.zero, i.size, i.bytes)) = some (some .nilIface, 1, 16) := by kernel_rfl
theorem slsrc : SlK Try.prog 29 32 .nilIface 16 1 := ⟨Try.underlying29, info_parts infoSrc, rfl, by decide⟩
theorem srcV_one (k : Option (Nat × Sl Pr)) : ∀ u ∈ [srcV k], u.oneCell' = true := fun u hu => by
  rw [List.mem_singleton] at hu
  subst hu
  cases k <;> rfl
/-- Sources that have been made, and the row that holds them. -/
structure Sr (w : World) (Ls : List (Sl Pr)) (k : Nat) (D : Nat → Prop) (Ss : List (Option (Nat × Sl Pr))) (v : Value) (wr : World) : Prop where
  own : OwnK wr w.heap.size 32 1 v Ss.length (Ss.map srcV)
  srcs : Srcs D wr Ss
  law : srcL Ss = (Ls.take k).map fun s => allL s.pls
  len : Ss.length = k
  dlt : ∀ b, D b → w.heap.size ≤ b ∧ b < wr.heap.size
  sge : ∀ x, some x ∈ Ss → w.heap.size ≤ x.1
  vn : ∀ g, v.ownBlock = some g → ¬ D g ∧ ∀ x, some x ∈ Ss → x.1 ≠ g
  below : Below w.heap.size w wr
section
variable {D D' : Nat → Prop} {w wr w1 w5 : World} {Ls : List (Sl Pr)} {Ss : List (Option (Nat × Sl Pr))} {v v5 : Value} {k : Nat} {s s0 : Sl Pr} {S : List Nat}
theorem Srcs.kb (h : Srcs D wr Ss) (hk : Kb S wr w1) (hS : ∀ x, some x ∈ Ss → x.1 ∉ S) (hD : ∀ b, D b → b ∉ S) : Srcs D w1 Ss := ⟨fun x hx => ⟨(h.ls x hx).1.kb hk (hS x hx) hD, (h.ls x hx).2⟩, h.dj⟩
theorem Srcs.below (h : Srcs D wr Ss) (hb : Below wr.heap.size wr w1) : Srcs D w1 Ss := h.kb (Kb.of_below hb) (S := []) (by simp) (by simp)
/-- One source more, whether a list or none. -/
theorem Srcs.snoc (h : Srcs D wr Ss) (hi : ∀ b, D b → D' b) (hn : ∀ x, some x ∈ Ss → ¬ D' x.1) (o : Option (Nat × Sl Pr)) (ho : ∀ x, o = some x → LsM D' wr x.1 x.2 (-1) ∧ ¬ D' x.1 ∧ ∀ y, some y ∈ Ss → y.1 ≠ x.1) : Srcs D' wr (Ss ++ [o]) := by
  refine ⟨fun x hx => ?_, fun i j a b hi hj hab => ?_⟩
  · rcases List.mem_append.1 hx with hx | hx
    · exact ⟨(h.ls x hx).1.imp hi, hn x hx⟩
    · rw [List.mem_singleton] at hx
      exact ⟨(ho x hx.symm).1, (ho x hx.symm).2.1⟩
  · have hget : ∀ (i : Nat) (a : Nat × Sl Pr), (Ss ++ [o])[i]? = some (some a) → (i < Ss.length ∧ Ss[i]? = some (some a)) ∨ (i = Ss.length ∧ o = some a) := fun i a h => by
      rcases Nat.lt_or_ge i Ss.length with h1 | h1
      · rw [List.getElem?_append_left h1] at h; exact .inl ⟨h1, h⟩
      · rw [List.getElem?_append_right h1, List.getElem?_singleton] at h
        split at h
        · exact .inr ⟨by omega, Option.some.inj h⟩
        · cases h
    rcases hget i a hi with ⟨h1, h2⟩ | ⟨h1, h2⟩ <;> rcases hget j b hj with ⟨h3, h4⟩ | ⟨h3, h4⟩
    · exact h.dj i j a b h2 h4 hab
    · exact absurd hab ((ho b h4).2.2 a (List.mem_of_getElem? h2))
    · exact absurd hab.symm ((ho a h2).2.2 b (List.mem_of_getElem? h4))
    · omega
theorem Sr.next (h : Sr w Ls k D Ss v wr) (hs : Ls[k]? = some s0) (hl : LsM (wr.heap.size + 1 ≤ ·) w1 wr.heap.size s (-1)) (ha : s.L.map Pr.pl = allL s0.pls) (hb : Below wr.heap.size wr w1)
    (ho : OwnK w5 w.heap.size 32 1 v5 (Ss.length + 1) (Ss.map srcV ++ [srcV (some (wr.heap.size, s))])) (hg : w1.grownBy w5 v.ownBlock) (hat : v5.ownBlock = v.ownBlock ∨ ∃ g, v5.ownBlock = some g ∧ w1.heap.size ≤ g) :
    Sr w Ls (k + 1) (fun b => D b ∨ (wr.heap.size + 1 ≤ b ∧ b < w1.heap.size)) (Ss ++ [some (wr.heap.size, s)]) v5 w5 := by
  have hk5 := kb_grown hg
  have hkl : k < Ls.length := (List.getElem?_eq_some_iff.1 hs).1
  have hown := h.own.lt
  have hlt : wr.heap.size < w1.heap.size := hl.bk.lt
  have hsb : ∀ x, some x ∈ Ss → x.1 < wr.heap.size := fun x hx => (h.srcs.ls x hx).1.bk.lt
  have hlie : (encSl encPr).lie (fun b => D b ∨ (wr.heap.size + 1 ≤ b ∧ b < w1.heap.size)) s := (hl.lie.and hl.ok.lt).imp fun b hb => .inr hb
  have hs1 := (h.srcs.below hb).snoc (D' := fun b => D b ∨ (wr.heap.size + 1 ≤ b ∧ b < w1.heap.size)) (fun b hb => .inl hb) (fun x hx hD => by
    rcases hD with h1 | h1
    · exact (h.srcs.ls x hx).2 h1
    · have := hsb x hx; omega) (some (wr.heap.size, s)) (fun x hx => by
      cases hx
      refine ⟨⟨hl.bk, hl.ok, hlie, hl.n⟩, fun hD => ?_, fun y hy e => by have := hsb y hy; dsimp only at e; omega⟩
      rcases hD with h1 | h1
      · have := h.dlt _ h1; dsimp only at this; omega
      · dsimp only at h1; omega)
  have hvD : ∀ g, v.ownBlock = some g → ¬ (D g ∨ (wr.heap.size + 1 ≤ g ∧ g < w1.heap.size)) ∧ ∀ x, some x ∈ Ss ++ [some (wr.heap.size, s)] → x.1 ≠ g := fun g e => by
    have h1 := h.vn g e
    have h2 := hown g e
    refine ⟨fun hD => ?_, fun x hx => ?_⟩
    · rcases hD with h3 | h3
      · exact h1.1 h3
      · omega
    · rcases List.mem_append.1 hx with hx | hx
      · exact h1.2 x hx
      · rw [List.mem_singleton] at hx; cases hx; dsimp only; omega
  refine ⟨by rw [List.map_append, List.length_append]; exact ho, hs1.kb hk5 (fun x hx hm => ?_) (fun b hb hm => ?_), ?_, by rw [List.length_append, h.len]; rfl, fun b hb => ?_, fun x hx => ?_, fun g e => ?_, ?_⟩
  · rw [Option.mem_toList] at hm; exact (hvD _ hm).2 x hx rfl
  · rw [Option.mem_toList] at hm; exact (hvD _ hm).1 hb
  · unfold srcL
    rw [List.filterMap_append, List.map_append, List.take_succ_eq_append_getElem hkl, List.map_append]
    have h1 := h.law
    unfold srcL at h1
    rw [h1, (List.getElem?_eq_some_iff.1 hs).2]
    simp [ha]
  · have h1 := hg.size
    rcases hb with h4 | h4
    · have := h.dlt b h4; have := (show wr.heap.size ≤ w1.heap.size from Nat.le_of_lt hlt); omega
    · have := h.below.size; omega
  · rcases List.mem_append.1 hx with hx | hx
    · exact h.sge x hx
    · rw [List.mem_singleton] at hx; cases hx; exact h.below.size
  · rcases hat with e2 | ⟨g', e2, hg'⟩
    · rw [e2] at e; exact hvD g e
    · rw [e] at e2; cases e2
      refine ⟨fun hD => ?_, fun x hx => ?_⟩
      · rcases hD with h3 | h3
        · have := h.dlt _ h3; omega
        · omega
      · rcases List.mem_append.1 hx with hx | hx
        · have := hsb x hx; omega
        · rw [List.mem_singleton] at hx; cases hx; dsimp only; omega
  · exact (h.below.trans (hb.mono h.below.size)).grown hg (by have := h.below.size; omega) (fun g e => (hown g e).1)
end
def SourcesP (w : World) (Ls : List (Sl Pr)) (e : Ending) (w' : World) : Prop :=
  ∃ (D : Nat → Prop) (Ss : List (Option (Nat × Sl Pr))) (A : Option Addr) (c : Nat), e = .returned (.slice A Ss.length c) ∧ Sr w Ls Ls.length D Ss (.slice A Ss.length c) w'
set_option maxRecDepth 100000 in
set_option maxHeartbeats 1600000 in
theorem c_sources (w : World) {B n c : Nat} {A : Option Addr} {Ls : List (Sl Pr)} (hr : Els (encSl encPr) w B A n Ls) (hB : B ≤ w.heap.size) (hn : n ≤ 100000) (hns : ∀ s ∈ Ls, s.n ≤ 100000) :
    Calls Try.prog 14 #[.slice A n c] w (SourcesP w Ls) := by
  have Hl := Lib.hid hr.2.1
  have HS0 := Lib.hid (show Sr w Ls 0 (fun _ => False) [] (.slice none 0 0) w from ⟨OwnK.nil_ _ _ _ _, ⟨(fun _ h => by cases h), (fun _ _ _ _ h => by cases h)⟩, rfl, rfl, (fun _ h => h.elim), (fun _ h => by cases h), (fun _ h => by cases h), Below.refl _ _⟩)
  have Hr := Lib.hid hr
  have Hns := Lib.hid hns
  clear hr hns
  go_enter Try.func14, Try.ntmps14
  go_wp2
  go_loopw [3, 8] (fun v3 v8 wr => ∃ (k : Nat) (D : Nat → Prop) (Ss : List (Option (Nat × Sl Pr))) (v : Value), v3 = v ∧ v8 = .int .i64 (k : Int) ∧ k ≤ n ∧ Sr w Ls k D Ss v wr) (fun _ v8 _ => n - (intOf v8).toNat)
  case atStart => exact ⟨0, _, [], _, rfl, rfl, Nat.zero_le _, HS0.out⟩
  case round =>
    obtain ⟨k, D, Ss, v, rfl, rfl, hk, hS⟩ := hrel
    clear HS0
    obtain ⟨As, cs, rfl, hcs⟩ := hS.own.shape
    have hSl := hS.len
    rw [hSl] at hS hcs ⊢
    by_cases hlt : k < n
    · obtain ⟨b, o, s, rfl, hbB, hsk, _, hsok, hcell⟩ := Hr.out.at hlt
      have c0 : wr.cell? ⟨b, o + k, none⟩ = some (.slice s.A s.n s.c) := by
        have := hcell wr (hS.below.mono hB) 0 _ rfl
        rw [show o + k * (encSl encPr).k + 0 = o + k by show o + k * 1 + 0 = _; omega] at this
        exact this
      have hEl := ((encSl_ok (by decide)).1 hsok).1
      have hpr := (prs_of_els hEl).below hS.below hB
      have HC := c_List wr (c := s.c) hpr (Nat.le_trans hB hS.below.size) (Hns.out s (List.mem_of_getElem? hsk))
      unfold ListP at HC
      have HC := Lib.hid HC
      have Hsk := Lib.hid hsk
      have HS := Lib.hid hS
      have HSl := Lib.hid hSl
      clear hcell hsok hEl hpr hsk hS hSl
      go_wp2_with (first
        | (go_at_call 15; (with_reducible refine HC.out.mono ?_); rintro e w1 ⟨s1, rfl, hl1, ha1, hb1, hz1⟩; have hS1 := HS.out.own.below hb1 (Nat.le_refl _); have hsz1 : w.heap.size ≤ w1.heap.size := Nat.le_trans HS.out.below.size hb1.size)
        | (at_builtin; (refine wpList_appK_new (m := 1) (c := 1) rfl (.tmp 12) (.tmp 15) rfl slsrc (by decide) rfl hS1 (Below.refl _ _) hsz1 rfl (news := [srcV (some (wr.heap.size, s1))]) rfl (srcV_one _) (by have := HSl.out; omega) ?_); intro v5 w5 ho5 hb5 hg5 hat5 hs5; have HN := Lib.hid (HS.out.next Hsk.out hl1 ha1 hb1 ho5 hg5 hat5); obtain ⟨A5, c5, rfl, hc5⟩ := ho5.shape; clear ho5 hb5 hg5 hat5))
      refine ⟨⟨k + 1, _, _, _, rfl, by go_num, by omega, HN.out⟩, by simp [intOf]; omega⟩
    · obtain rfl : k = n := by omega
      have HS := Lib.hid hS
      have HSl := Lib.hid hSl
      clear hS hSl
      go_wp2
      go_ret
      have hl := HSl.out
      subst hl
      exact ⟨D, Ss, As, cs, rfl, by rw [Hl.out]; exact HS.out⟩
end Go.Proofs.Ytjkjlekfeelfpaa
