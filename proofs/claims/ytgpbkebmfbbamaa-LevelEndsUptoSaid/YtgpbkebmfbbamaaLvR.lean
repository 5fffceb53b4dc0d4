/- Layer 24: the level that is compacted. -/
import Derived.Test.YtgpbkebmfbbamaaLvQ
namespace Go.Lec
open Go.RowKit
/-- A block of cells abides what a loop over a function does beside. -/
theorem Bk.kept {w w' : World} {b : Nat} {t : TypeId} {cs : Array Value} {row : Option Nat} (h : Bk w b t cs) (hg : w.grownBy w' row) (hr : ∀ r, row = some r → ∃ o : Obj, w.heap[r]? = some o ∧ o.isCells = false) : Bk w' b t cs :=
  (grownBy_keeps_cells hg hr h rfl).trans h
theorem Rd.kept {w w' : World} {B n : Nat} {A : Option Addr} {xs : List Value} {row : Option Nat} (h : Rd w B A n xs) (hg : w.grownBy w' row) (hr : ∀ r, row = some r → ∃ o : Obj, w.heap[r]? = some o ∧ o.isCells = false) : Rd w' B A n xs :=
  ⟨h.1, fun hn => by obtain ⟨b, o, e, hb, hc⟩ := h.2 hn; exact ⟨b, o, e, hb, fun i u hu => cell_kept (hc i u hu) hg hr⟩⟩
theorem Mts.kept {w w' : World} {B n : Nat} {A : Option Addr} {L : List Mt} {row : Option Nat} (h : Mts w B A n L) (hg : w.grownBy w' row) (hr : ∀ r, row = some r → ∃ o : Obj, w.heap[r]? = some o ∧ o.isCells = false) : Mts w' B A n L :=
  ⟨⟨h.1.1, fun hn => by obtain ⟨b, o, e, hb, hc⟩ := h.1.2 hn; exact ⟨b, o, e, hb, fun i u hu => cell_kept (hc i u hu) hg hr⟩⟩, fun m hm => ⟨(h.2 m hm).1.kept hg hr, (h.2 m hm).2.1.kept hg hr, (h.2 m hm).2.2⟩⟩
theorem keeps_of_below {w w' : World} (h : Below w.heap.size w w') (B : Nat) : KeepsFrom B w w' := ⟨h.size, fun k o _ hk _ => (h.block k (Array.getElem?_eq_some_iff.1 hk).1).trans hk⟩
theorem St.ok.more {w : World} {B B' : Nat} {s : St} (h : s.ok w B) (hB : B ≤ B') : s.ok w B' := fun j hj => ⟨(h j hj).1.more hB, (h j hj).2⟩
/-- Whether a level is too large. -/
def big (s : St) (b fa : Int) (j : Nat) : Bool := decide (1 ≤ j ∧ j ≤ 5 ∧ limOf b fa j < mtSize (s.L j))
end Go.Lec
namespace Go.Proofs.Ytgpbkebmfbbamaa
open Go.RowKit Go.Lec Go.Shelf
attribute [local go_sem] Oper.semAt_some

/-- What is answered: the first level that is too large, and a file of it; or none is. -/
def UpPost (w : World) (s : St) (b fa : Int) (e : Ending) (w' : World) : Prop :=
  ((∃ (i : Nat) (A : Option Addr) (c : Nat) (m : Mt), big s b fa i = true ∧ (∀ j, j < i → big s b fa j = false) ∧ minL (fun a b => cmpI a.num b.num) (s.L i) = some m ∧ e = .returned (.tuple #[.int .i64 i, .slice A 1 c]) ∧ Mts w' w'.heap.size A 1 [m]) ∨
   ((∀ j, j < 7 → big s b fa j = false) ∧ e = .returned (.tuple #[.int .i64 0, .slice none 0 0]))) ∧ Below w.heap.size w w'

set_option maxRecDepth 100000 in
set_option maxHeartbeats 4000000 in
theorem c_upper (w : World) {B : Nat} {s : St} (hs : s.ok w B) (hB : B ≤ w.heap.size) {f b fa fi : Int} (hp : okPlan f b fa fi) (hf : (s.n 0 : Int) < f) :
    Calls Try.prog 27 #[.agg s.arr, .agg #[.int .i64 f, .int .i64 b, .int .i64 fa, .int .i64 fi]] w (UpPost w s b fa) := by
  have HS := (((Bk.new_ w 26 s.arr).alloc (.cells #[.int .i64 f, .int .i64 b, .int .i64 fa, .int .i64 fi] 28)).alloc (.cells #[.int .i64 0] 3)).alloc (.cells #[.slice none 0 0] 23)
  have HP := ((Bk.new_ (w.alloc (.cells s.arr 26)) 28 #[.int .i64 f, .int .i64 b, .int .i64 fa, .int .i64 fi]).alloc (.cells #[.int .i64 0] 3)).alloc (.cells #[.slice none 0 0] 23)
  have H4 := (Bk.new_ ((w.alloc (.cells s.arr 26)).alloc (.cells #[.int .i64 f, .int .i64 b, .int .i64 fa, .int .i64 fi] 28)) 3 #[.int .i64 0]).alloc (.cells #[.slice none 0 0] 23)
  have H5 := Bk.new_ (((w.alloc (.cells s.arr 26)).alloc (.cells #[.int .i64 f, .int .i64 b, .int .i64 fa, .int .i64 fi] 28)).alloc (.cells #[.int .i64 0] 3)) 23 #[.slice none 0 0]
  rw [World.size_alloc] at HP
  rw [World.size_alloc, World.size_alloc] at H4
  rw [World.size_alloc, World.size_alloc, World.size_alloc] at H5
  have hb0 : Below w.heap.size w ((((w.alloc (.cells s.arr 26)).alloc (.cells #[.int .i64 f, .int .i64 b, .int .i64 fa, .int .i64 fi] 28)).alloc (.cells #[.int .i64 0] 3)).alloc (.cells #[.slice none 0 0] 23)) := ((((Below.refl _ _).alloc (Nat.le_refl _) _).alloc (by simp) _).alloc (by simp; omega) _).alloc (by simp; omega) _
  obtain ⟨w0, hw0⟩ : ∃ W, W = ((((w.alloc (.cells s.arr 26)).alloc (.cells #[.int .i64 f, .int .i64 b, .int .i64 fa, .int .i64 fi] 28)).alloc (.cells #[.int .i64 0] 3)).alloc (.cells #[.slice none 0 0] 23)) := ⟨_, rfl⟩
  have hz0 : w0.heap.size = w.heap.size + 4 := by rw [hw0]; simp
  rw [← hw0] at HS HP H4 H5 hb0
  have HW0 := Lib.hid hw0
  have qs := HS.cell
  have qp := HP.cell
  rw [hw0] at qs qp
  clear hw0
  refine (callsIn_wide (n := 5)).1 ?_
  refine callsIn_of_wp_marks Try.func27 rfl trivial ?_ rfl
  simp only [Try.ntmps27, List.size_toArray, List.length_cons, List.length_nil, Nat.reduceAdd, Nat.reduceSub, Array.replicate_succ, Array.replicate_zero, List.push_toArray, List.append_toArray, List.nil_append, List.cons_append]
  gi_wp2_with (refine ⟨trivial, ?_⟩; gi_at_call 44; rw [← HW0.out]; refine (callsIn_wide.2 (c_Each w0 s)).mono ?_; rintro e w1 ⟨rfl, rfl⟩)
  clear qs qp HW0
  have bE := Bk.new_ w0 26 s.arr
  have hbL := hb0.alloc (by omega) (.cells s.arr 26)
  have HSL := HS.alloc (.cells s.arr 26)
  have HPL := HP.alloc (.cells s.arr 26)
  have H4L := H4.alloc (.cells s.arr 26)
  have H5L := H5.alloc (.cells s.arr 26)
  have hzL : (w0.alloc (.cells s.arr 26)).heap.size = w.heap.size + 5 := by simp [hz0]
  rw [hz0] at bE
  obtain ⟨wL, hwL⟩ : ∃ W, W = w0.alloc (.cells s.arr 26) := ⟨_, rfl⟩
  rw [← hwL] at bE hbL HSL HPL H4L H5L hzL ⊢
  clear hwL HS HP H4 H5 hb0 hz0
  have hsL := (hs.below hbL hB).more hB
  refine wpIn_rangeFunc_ownG (n := 5) rfl (by omega) (gf := 62) (lb := #[.pointer (some ⟨w.heap.size + 4, 0, none⟩)]) rfl trivial (enters_of Try.func62 (by kernel_rfl) rfl)
    (each_stops 4 (by omega) (w.heap.size + 4) w.heap.size s wL bE hsL (by omega)) belowK_t (belowK_b (by omega)) (Below.refl _ _) (fun _ => rfl)
    (fun pre W => (Bk W w.heap.size 26 s.arr ∧ Bk W (w.heap.size + 1) 28 #[.int .i64 f, .int .i64 b, .int .i64 fa, .int .i64 fi] ∧ Bk W (w.heap.size + 1 + 1) 3 #[.int .i64 0] ∧ Bk W (w.heap.size + 1 + 1 + 1) 23 #[.slice none 0 0]) ∧ (∀ j ∈ pre, big s b fa j.1 = false) ∧ Below w.heap.size w W)
    (fun c pre W => (c = .ret ∧ ∃ (ini : List (Fin 7)) (last : Fin 7) (A : Option Addr) (cc : Nat) (m : Mt), pre = ini ++ [last] ∧ (∀ j ∈ ini, big s b fa j.1 = false) ∧ big s b fa last.1 = true ∧ minL (fun a b => cmpI a.num b.num) (s.L last.1) = some m ∧ Bk W (w.heap.size + 1 + 1) 3 #[.int .i64 (last.1 : Int)] ∧ Bk W (w.heap.size + 1 + 1 + 1) 23 #[.slice A 1 cc] ∧ Mts W W.heap.size A 1 [m]) ∧ Below w.heap.size w W)
    (fun q X Y row h hg hr => ⟨⟨h.1.1.kept hg (fun r e => (hr r e).2), h.1.2.1.kept hg (fun r e => (hr r e).2), h.1.2.2.1.kept hg (fun r e => (hr r e).2), h.1.2.2.2.kept hg (fun r e => (hr r e).2)⟩, h.2.1, h.2.2.grown hg h.2.2.size (fun k e => by have := (hr k e).1; omega)⟩)
    (fun c q X Y row h hg hr => by
      obtain ⟨⟨hc, ini, last, A, cc, m, e1, e2, e3, em, e4, e5, e6⟩, hB'⟩ := h
      exact ⟨⟨hc, ini, last, A, cc, m, e1, e2, e3, em, e4.kept hg (fun r e => (hr r e).2), e5.kept hg (fun r e => (hr r e).2), (e6.kept hg (fun r e => (hr r e).2)).more hg.size⟩, hB'.grown hg hB'.size (fun k e => by have := (hr k e).1; omega)⟩)
    ⟨⟨HSL, HPL, H4L, H5L⟩, (fun j hj => by cases hj), hbL⟩
    (fun x => { tmps := #[.agg s.arr, .agg #[.int .i64 f, .int .i64 b, .int .i64 fa, .int .i64 fi], .pointer (some ⟨w.heap.size, 0, none⟩), .pointer (some ⟨w.heap.size + 1, 0, none⟩), .pointer (some ⟨w.heap.size + 1 + 1, 0, none⟩), .pointer (some ⟨w.heap.size + 1 + 1 + 1, 0, none⟩),
      .int .i64 (x.1 : Int), .int .i64 (mtSize (s.L x.1)), undef, .pointer (some ⟨w.heap.size, 8, none⟩), .pointer (some ⟨w.heap.size, 8, none⟩), .slice (s.A 0) (s.n 0) (s.c 0), .int .i64 (s.n 0), .pointer (some ⟨w.heap.size + 1, 0, none⟩), .int .i64 f, .bool (decide (f ≤ (s.n 0 : Int))), undef, undef, undef,
      .agg s.arr, .func (.func 62) #[] #[.pointer (some ⟨w.heap.size + 4, 0, none⟩)], .int .i64 (x.1 : Int), .int .i64 (mtSize (s.L x.1)), undef, undef, undef, undef, undef, undef, undef, undef, undef, undef, undef, undef, undef, undef, undef, undef, undef, undef, undef, undef, undef, undef, undef, undef, undef, undef], defers := [] }) ?assign ?body ?done ?stop
  case assign =>
    intro l x W K hK
    gi_wp2
    exact hK
  case body =>
    rintro l pre ⟨i, hi⟩ W ⟨⟨h1, h2, h3, h4⟩, hpre, hBW⟩ hlen
    have hzW : w.heap.size + 4 ≤ W.heap.size := by have := h4.lt; omega
    have q1 := h1.cell
    have q2 := h2.cell
    have c8 : W.cell? ⟨w.heap.size, 8 + i, none⟩ = some (.slice (s.A i) (s.n i) (s.c i)) := by
      rw [q1]
      match i, hi with
      | 0, _ => rfl
      | 1, _ => rfl
      | 2, _ => rfl
      | 3, _ => rfl
      | 4, _ => rfl
      | 5, _ => rfl
      | 6, _ => rfl
    clear q1
    have hj0 : (0 : Int) ≤ (i : Int) := by omega
    have hj7 : (i : Int) < 7 := by omega
    have hd : 1 ≤ 5 - 1 - 1 := by omega
    have hnext : big s b fa i = false → ∀ j ∈ pre ++ [(⟨i, hi⟩ : Fin 7)], big s b fa j.1 = false := fun hb j hj => (List.mem_append.1 hj).elim (hpre j) (fun e => by simp at e; subst e; exact hb)
    have Hnext := Lib.hid hnext
    clear hnext
    by_cases hr1 : 1 ≤ i
    · by_cases hr5 : i ≤ 5
      · have i1 : ¬ (i : Int) < 1 := by omega
        have i2 : ¬ (6 : Int) ≤ (i : Int) := by omega
        have hlr := limR_rng hp.2.2.1.1 (i - 1) b hp.2.1.1 (by have := hp.2.1.2; omega)
        obtain ⟨hlm, hlc, hln⟩ := (hs.below hBW hB) i hi
        by_cases hn0 : s.n i = 0
        · have hbg : big s b fa i = false := by
            have hl0 : s.L i = [] := List.eq_nil_of_length_eq_zero (by rw [hlm.len, hn0])
            unfold big limOf
            rw [hl0]
            exact decide_eq_false (fun h => by have := h.2.2; simp [mtSize] at this; omega)
          have hbg' := Hnext.out hbg
          have Hbg := Lib.hid hbg'
          clear hbg hbg' hlm
          have hn0' : ((s.n i : Int) == 0) = true := by rw [hn0]; rfl
          gi_wp2
          refine ⟨trivial, ?_⟩
          gi_wp2
          exact ⟨KeepsFrom.refl _ _, Below.refl _ _, ⟨h1, h2, h3, h4⟩, Hbg.out, hBW⟩
        · have hn0' : ((s.n i : Int) == 0) = false := by simp; omega
          have HLim := Lib.hid (c_Limit W hp i hr1 (by omega))
          by_cases hbig : limOf b fa i < mtSize (s.L i)
          · have hbg : big s b fa i = true := decide_eq_true ⟨hr1, hr5, hbig⟩
            have Hbg := Lib.hid hbg
            have HMost := Lib.hid (fun (W1 : World) (hb : Below W.heap.size W W1) => c_most W1 (c := s.c i) (hlm.below hb (by omega)) (by have := hb.size; omega) (by omega) (by omega) 47 (fun a b => cmpI b.num a.num) (fun _ _ => by simp [go_sem]) (fun W' a b _ _ _ => c_upper1 W'))
            have Hlm := Lib.hid hlm
            clear hbg hlm
            gi_wp2_with (first
              | (refine ⟨trivial, ?_⟩; gi_at_call 45; refine (CallsIn.inRound l (callsIn_wide.2 HLim.out)).mono ?_; rintro e W1 ⟨rfl, hb⟩)
              | (refine ⟨trivial, ?_⟩; gi_at_call 46; refine (CallsIn.inRound l (callsIn_wide.2 (HMost.out W1 hb))).mono ?_; rintro e W2 ⟨m, hm, rfl, hb2⟩; have Hm := Lib.hid hm; clear hm;
                 have hb12 : Below W.heap.size W W2 := hb.trans (hb2.mono hb.size); have H3 := h3.below hb12 h3.lt; have H4 := h4.below hb12 h4.lt; have q3 := H3.cell; have q4 := H4.cell; have z3 := H3.frz; have z4 := H4.frz; have hlt3 := H3.lt; have hlt4 := H4.lt))
            have hzW2 := hb12.size
            have e3 := ((H3.set_ 0 (.int .i64 (i : Int))).far (p := ⟨w.heap.size + 1 + 1 + 1, 0, none⟩) (by dsimp only; omega) (.slice (some ⟨W2.heap.size, 0, none⟩) 1 1)).alloc (.cells #[.int .i64 m.num, .int .i64 m.size, .int .i64 m.cnt, .slice m.A1 m.n1 m.c1, .slice m.A2 m.n2 m.c2] 44)
            have e4 := ((H4.far (p := ⟨w.heap.size + 1 + 1, 0, none⟩) (by dsimp only; omega) (.int .i64 (i : Int))).set_ 0 (.slice (some ⟨W2.heap.size, 0, none⟩) 1 1)).alloc (.cells #[.int .i64 m.num, .int .i64 m.size, .int .i64 m.cnt, .slice m.A1 m.n1 m.c1, .slice m.A2 m.n2 m.c2] 44)
            have hBf : Below w.heap.size w (((W2.setCell ⟨w.heap.size + 1 + 1, 0, none⟩ (.int .i64 (i : Int))).setCell ⟨w.heap.size + 1 + 1 + 1, 0, none⟩ (.slice (some ⟨W2.heap.size, 0, none⟩) 1 1)).alloc (.cells #[.int .i64 m.num, .int .i64 m.size, .int .i64 m.cnt, .slice m.A1 m.n1 m.c1, .slice m.A2 m.n2 m.c2] 44)) :=
              (((hBW.trans (hb12.mono (by omega))).setCell (by dsimp only; omega) _).setCell (by dsimp only; omega) _).alloc (by simp; omega) _
            have hrow := (OwnK.lit (B := w.heap.size + 4) (e := 44) (k := 5) ((W2.setCell ⟨w.heap.size + 1 + 1, 0, none⟩ (.int .i64 (i : Int))).setCell ⟨w.heap.size + 1 + 1 + 1, 0, none⟩ (.slice (some ⟨W2.heap.size, 0, none⟩) 1 1)) m.cs 1 (by simp; omega) rfl (by decide)).rd
            simp only [World.size_setCell] at hrow
            have hma : m.cs.toArray = #[.int .i64 m.num, .int .i64 m.size, .int .i64 m.cnt, .slice m.A1 m.n1 m.c1, .slice m.A2 m.n2 m.c2] := rfl
            rw [hma] at hrow
            have hmm := minL_mem _ Hm.out
            refine ⟨?_, ⟨rfl, pre, ⟨i, hi⟩, some ⟨W2.heap.size, 0, none⟩, 1, m, rfl, hpre, Hbg.out, Hm.out, e3, e4, ⟨by simpa using hrow, fun x hx => ?_⟩⟩, hBf⟩
            · exact (keeps_of_below hb12 _).trans (((KeepsOthers.setCell _ _ _).from _).trans (((KeepsOthers.setCell _ _ _).from _).trans ((KeepsOthers.alloc _ _).from _)))
            · obtain rfl : x = m := by simpa using hx
              exact (((hs i hi).1.2 x hmm).below hBf hB).more (by have := hBf.size; omega)
          · have hle : mtSize (s.L i) ≤ limOf b fa i := by omega
            have hbg : big s b fa i = false := decide_eq_false (fun h => hbig h.2.2)
            have hbg' := Hnext.out hbg
            have Hbg := Lib.hid hbg'
            clear hbg hbg' hlm hbig
            gi_wp2_with (refine ⟨trivial, ?_⟩; gi_at_call 45; refine (CallsIn.inRound l (callsIn_wide.2 HLim.out)).mono ?_; rintro e W1 ⟨rfl, hb⟩)
            exact ⟨keeps_of_below hb _, hb.mono (by omega), ⟨h1.below hb h1.lt, h2.below hb h2.lt, h3.below hb h3.lt, h4.below hb h4.lt⟩, Hbg.out, hBW.trans (hb.mono (by omega))⟩
      · have i1 : ¬ (i : Int) < 1 := by omega
        have i2 : (6 : Int) ≤ (i : Int) := by omega
        have hbg' := Hnext.out (decide_eq_false (fun h => hr5 h.2.1))
        have Hbg := Lib.hid hbg'
        clear hbg'
        gi_wp2
        refine ⟨trivial, ?_⟩
        gi_wp2
        exact ⟨KeepsFrom.refl _ _, Below.refl _ _, ⟨h1, h2, h3, h4⟩, Hbg.out, hBW⟩
    · have i1 : (i : Int) < 1 := by omega
      have hbg' := Hnext.out (decide_eq_false (fun h => hr1 h.1))
      have Hbg := Lib.hid hbg'
      clear hbg'
      gi_wp2
      refine ⟨trivial, ?_⟩
      gi_wp2
      exact ⟨KeepsFrom.refl _ _, Below.refl _ _, ⟨h1, h2, h3, h4⟩, Hbg.out, hBW⟩
  case done =>
    rintro D ys W hD rfl ⟨⟨h1, h2, h3, h4⟩, hpre, hBW⟩ hK
    have q3 := h3.cell
    have z3 := h3.frz
    have q4 := h4.cell
    have z4 := h4.frz
    gi_wp2
    have hK1 := (KeepsOthers.setCell W ⟨w.heap.size + 1 + 1, 0, none⟩ (.int .i64 0)).same D _ hK rfl
    have hK2 := (KeepsOthers.setCell _ ⟨w.heap.size + 1 + 1 + 1, 0, none⟩ (.slice none 0 0)).same D _ hK1 rfl
    have e3 := ((h3.set_ 0 (.int .i64 0)).far (p := ⟨w.heap.size + 1 + 1 + 1, 0, none⟩) (by dsimp only; omega) (.slice none 0 0)).cell 0
    have e4 := ((h4.far (p := ⟨w.heap.size + 1 + 1, 0, none⟩) (by dsimp only; omega) (.int .i64 0)).set_ 0 (.slice none 0 0)).cell 0
    have f3 := cell_kept (v := .int .i64 0) e3 (grownBy_putObj' _ D (.deferred none)) (fun r e => by cases e; exact ⟨_, hK2, rfl⟩)
    have f4 := cell_kept (v := .slice none 0 0) e4 (grownBy_putObj' _ D (.deferred none)) (fun r e => by cases e; exact ⟨_, hK2, rfl⟩)
    refine ⟨by simp, .inl ⟨_, _, rfl, run_takeDeferred hK2, ?_⟩⟩
    refine ⟨.tuple #[.int .i64 0, .slice none 0 0], ?_, .inr ⟨fun j hj => ?_, rfl⟩, ((hBW.setCell (p := ⟨w.heap.size + 1 + 1, 0, none⟩) (by dsimp only; omega) _).setCell (p := ⟨w.heap.size + 1 + 1 + 1, 0, none⟩) (by dsimp only; omega) _).trans (belowK_b (w := w) (Nat.le_refl _) _ D _ _ (by omega) hK2 rfl rfl)⟩
    · simp [results, Try.results27, go_sem, f3, f4]
    · have := hpre (lvFin j) (by simp only [upto, List.mem_map, List.mem_range]; exact ⟨j, hj, rfl⟩)
      rwa [lvFin_val hj] at this
  case stop =>
    rintro D c pre W hD ⟨k, hk, rfl⟩ ⟨⟨rfl, ini, last, A, cc, m, e1, e2, e3, em, e4, e5, e6⟩, hBW⟩ hK
    gi_wp2
    have f3 := cell_kept (e4.cell 0) (grownBy_putObj' _ D (.deferred none)) (fun r e => by cases e; exact ⟨_, hK, rfl⟩)
    have f4 := cell_kept (e5.cell 0) (grownBy_putObj' _ D (.deferred none)) (fun r e => by cases e; exact ⟨_, hK, rfl⟩)
    have f5 := e6.kept (grownBy_putObj' _ D (.deferred none)) (fun r e => by cases e; exact ⟨_, hK, rfl⟩)
    obtain ⟨k', rfl⟩ : ∃ k', k = k' + 1 := by
      cases k with
      | zero => simp [upto] at e1
      | succ k' => exact ⟨k', rfl⟩
    rw [upto_succ] at e1
    obtain ⟨rfl, e7⟩ := List.append_inj' e1 rfl
    have e8 : lvFin k' = last := by simpa using e7
    have hk7 : k' < 7 := hk
    rw [lvFin_val hk7] at e8
    subst e8
    refine ⟨by simp, .inl ⟨_, _, rfl, run_takeDeferred hK, ?_⟩⟩
    refine ⟨.tuple #[.int .i64 (k' : Int), .slice A 1 cc], ?_, .inl ⟨k', A, cc, m, e3, fun j hj => ?_, em, rfl, f5.more (by simp)⟩, hBW.trans (belowK_b (w := w) (Nat.le_refl _) W D _ _ (by omega) hK rfl rfl)⟩
    · simp [results, Try.results27, go_sem, f3, f4]
    · have := e2 (lvFin j) (by simp only [upto, List.mem_map, List.mem_range]; exact ⟨j, hj, rfl⟩)
      rwa [lvFin_val (by omega)] at this
end Go.Proofs.Ytgpbkebmfbbamaa
