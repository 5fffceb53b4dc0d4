/- Layer 17: a log's records are told one by one. -/
import Derived.Test.YtgilnjngphhhlaaGreatWdB
import Derived.Test.YtgilnjngphhhlaaGreatFsY1
import Derived.Test.YtgilnjngphhhlaaGreatRangeX
namespace Go.Proofs.YtgilnjngphhhlaaGreat
open Go.RowKit Go.Lec Go.Fsy Go.Op Go.Maps Go.Shelf
attribute [local go_sem] Oper.semAt_some
set_option maxRecDepth 40000 in
/-- A clone of bytes; it is the caller's. -/
theorem c_CloneO (w : World) {B : Nat} {A : Option Addr} {n c : Nat} {l : List UInt8} (hr : Rd w B A n (bcs l)) (hB : B ≤ w.heap.size) (hn : n ≤ 1099511627776) :
    Calls Tryz.prog 25 #[.slice A n c] w fun e w' => ∃ A' c', e = .returned (.slice A' n c') ∧ n ≤ c' ∧ Lec.Own w' w.heap.size 5 (.slice A' n c') (bcs l) ∧ Below w.heap.size w w' := by
  have hk := Lib.run_eql_slice_nil (P := Tryz.prog) w 22 5 A n c 0 0 Tryz.underlying22
  have hln := hr.1
  rw [bcs_length] at hln
  have Hln := Lib.hid hln; clear hln
  go_enter Tryz.func25, Tryz.ntmps25
  cases A with
  | none =>
    have h0 : n = 0 := by
      rcases Nat.eq_zero_or_pos n with h | h
      · exact h
      · obtain ⟨b, o, e, _⟩ := hr.2 h; cases e
    subst h0
    obtain rfl : l = [] := List.eq_nil_of_length_eq_zero Hln.out
    go_wp2
    go_ret
    exact ⟨_, _, rfl, Nat.le_refl _, Lec.Own.nil_ _ _ _, Below.refl _ _⟩
  | some a =>
    go_wp2_with (first
      | (at_builtin; (refine wpList_app_rd (m := n) rfl _ _ rfl slb rfl (Lec.Own.lit w [] (Nat.le_refl _) (by simp)) rfl (hr.alloc hB _) bcs_one (by simp; omega) (by decide) (by simp) ?_); intro v2 w2 ho2 hb2 hg2))
    rw [List.nil_append] at ho2
    obtain ⟨A2, c2, rfl, hc2⟩ := ho2.shapeN (n := n) (by rw [bcs_length, Hln.out])
    go_ret
    exact ⟨_, _, rfl, hc2, ho2, ((Below.refl _ _).alloc (Nat.le_refl _) _).trans hb2⟩
/-- A log that is read: its records lie below block n₀. -/
structure LgRd (n₀ : Nat) (w : World) (lb : Nat) (recs : List Bs) : Prop where
  is : w.cell? ⟨lb, 0, none⟩ = some (.int .i64 1)
  row : ∃ A n c, w.cell? ⟨lb, 3, none⟩ = some (.slice A n c) ∧ n ≤ c ∧ n ≤ 1099511627776 ∧ Rws w n₀ A n recs
  short : ∀ r ∈ recs, r.length ≤ 1099511627776
  lt : lb < n₀
theorem LgRd.below {n₀ B lb : Nat} {w w' : World} {recs : List Bs} (h : LgRd n₀ w lb recs) (hb : Below B w w') (hB : n₀ ≤ B) : LgRd n₀ w' lb recs := by
  obtain ⟨h1, ⟨A, n, c, h2, h3, h4, h5⟩, h6, h7⟩ := h
  exact ⟨(hb.cell (p := ⟨lb, 0, none⟩) (Nat.lt_of_lt_of_le h7 hB)).trans h1, ⟨A, n, c, (hb.cell (p := ⟨lb, 3, none⟩) (Nat.lt_of_lt_of_le h7 hB)).trans h2, h3, h4, h5.below hb hB⟩, h6, h7⟩
theorem LgP.rd {B lb fb : Nat} {Z : Nat → Prop} {w : World} {name : Bs} {s : St} {l : Lg} (h : LgP B Z w lb fb name s l) (hn : l.recs.length ≤ 1099511627776) (hs : ∀ r ∈ l.recs, r.length ≤ 1099511627776) : LgRd w.heap.size w lb l.recs := by
  obtain ⟨K, E, v, es, hG, _⟩ := h
  obtain ⟨A, c, hv, hc⟩ := hG.own.shape
  have ho := hG.own
  rw [hv] at ho
  refine ⟨hG.bk.cell 0, ⟨A, es.length, c, by rw [hG.bk.cell 3]; show some v = _; rw [hv], hc, by rw [hG.els.1]; exact hn, es, ho.rd, hG.els.1, fun i u x h1 h2 => ?_⟩, hs, hG.bk.lt⟩
  obtain ⟨A', c', e, hc', hr, _⟩ := hG.els.2 i u x h1 h2
  exact ⟨A', c', e, hc', hr⟩
/-- A record as it is told. -/
structure Lx where
  l : Bs
  A : Option Addr
  c : Nat
  i : Nat
def Lx.val (x : Lx) : Array Value := #[.int .i64 (x.i : Int), .slice x.A x.l.length x.c]
/-- What is known of a record when it is told. -/
def LxY (recs : List Bs) (B : Nat) (pre : List Lx) (x : Lx) (W : World) : Prop := recs[pre.length]? = some x.l ∧ x.i = pre.length ∧ x.l.length ≤ x.c ∧ Lec.Own W B 5 (.slice x.A x.l.length x.c) (bcs x.l)
theorem l_Each (w : World) (pa : Option Addr) : Calls Tryz.prog 12 #[.pointer pa] w fun e w' =>
    e = .returned (.func (.func 26) #[] #[.pointer (some ⟨w.heap.size, 0, none⟩)]) ∧ w' = w.alloc (.cells #[.pointer pa] 24) := by
  have hmf : ∀ (fn : Fn) (first cap : Array Value) (w : World), (Instr.makeFunc fn first cap).run Tryz.prog w = .ok (.func fn first cap) w := fun _ _ _ _ => rfl
  go_enter Tryz.func12, Tryz.ntmps12
  go_wp2
  go_ret
  exact ⟨rfl, rfl⟩
set_option maxRecDepth 100000 in
set_option maxHeartbeats 2000000 in
theorem lEach_X (n : Nat) (hn : 1 ≤ n) (bi lb n₀ : Nat) {recs : List Bs} (w : World) (hbi : Bk w bi 24 #[ptrV lb]) (hL : LgRd n₀ w lb recs) (hn₀ : n₀ ≤ w.heap.size) :
    SeqX Tryz.prog n 26 #[.pointer (some ⟨bi, 0, none⟩)] Lx.val (LxY recs w.heap.size) (Below n₀) (fun ys => ys.map Lx.l = recs) (fun _ => True) recs.length w := by
  intro l J Jx Jp W hW hJa hY h0
  have hbi' := (hbi.below hW hbi.lt).cell
  have hLW := hL.below hW hn₀
  have HI := Lib.hid (l_is W lb hLW.is)
  obtain ⟨A, N, c, q3, hc, hN, es, hes, hel, hE⟩ := hLW.row
  have hln : recs.length = N := by rw [← hel, hes.1]
  have Hs := Lib.hid hL.short
  have hsz := hW.size
  have HE := Lib.hid hE
  unfold ptrV at *
  have q0 := hLW.is
  clear hbi hL hLW hE
  refine callsIn_of_wp Tryz.func26 rfl trivial ?_ rfl
  simp only [Tryz.ntmps26, List.size_toArray, List.length_cons, List.length_nil, Nat.reduceAdd, Nat.reduceSub, Array.replicate_succ, Array.replicate_zero, List.push_toArray, List.append_toArray, List.nil_append, List.cons_append]
  gi_wp2_with (refine ⟨trivial, ?_⟩; gi_at_call 21; refine (callsIn_wide.2 HI.out).mono ?_; rintro e w1 ⟨rfl, rfl⟩)
  have hN' : es.length = N := by rw [hel, hln]
  have Hln := Lib.hid hln
  clear hbi' HI q3 q0 hln
  gi_loopw [13] (fun i wr => ∃ ys : List Lx, ys.map Lx.l = recs.take ys.length ∧ ys.length ≤ N ∧ i = .int .i64 (ys.length : Int) ∧ J ys wr ∧ Below n₀ w1 wr) (fun i _ => N - (intOf i).toNat)
  case atStart => exact ⟨[], rfl, Nat.zero_le _, rfl, h0, Below.refl _ _⟩
  case round =>
    obtain ⟨ys, hys, hk, rfl, hJs, hbl⟩ := hrel
    by_cases hlt : ys.length < N
    · have hke : ys.length < es.length := by rw [hN']; exact hlt
      have hkr : ys.length < recs.length := by rw [Hln.out]; exact hlt
      obtain ⟨b, o, rfl, hb, hcell⟩ := hes.2 (by omega)
      obtain ⟨A', c', hu, hc', hR⟩ := HE.out ys.length es[ys.length] recs[ys.length] (List.getElem?_eq_getElem hke) (List.getElem?_eq_getElem hkr)
      have g0 : wr.cell? ⟨b, o + ys.length, none⟩ = some (.slice A' recs[ys.length].length c') := by
        rw [← hu]; exact (hbl.cell (p := ⟨b, o + ys.length, none⟩) hb).trans (hcell _ _ (List.getElem?_eq_getElem hke))
      have hxs := Hs.out _ (List.getElem_mem hkr)
      have hxr : recs[ys.length]? = some recs[ys.length] := List.getElem?_eq_getElem hkr
      have Htk := Lib.hid (List.take_succ_eq_append_getElem hkr)
      obtain ⟨x, hx⟩ : ∃ x, x = recs[ys.length] := ⟨_, rfl⟩
      rw [← hx] at hR hc' g0 hxs hxr Htk
      have hwr := hbl.size
      have HC := Lib.hid (c_CloneO wr (c := c') (hR.below hbl (Nat.le_refl _)) (by omega) hxs)
      obtain ⟨k, hkk⟩ : ∃ k, k = ys.length := ⟨_, rfl⟩
      have HY := Lib.hid (fun (W2 : World) (A2 : Option Addr) (c2 : Nat) (h1 : x.length ≤ c2) (h2 : Lec.Own W2 wr.heap.size 5 (.slice A2 x.length c2) (bcs x)) (h3 : Below wr.heap.size wr W2) =>
        hY ys ⟨x, A2, c2, k⟩ W2 (hJa _ wr _ none hJs (grown_below h3) (fun r e => by cases e)) ⟨hxr, hkk, h1, h2.mono (by omega)⟩ hkr)
      unfold Lx.val at HY
      rw [← hkk] at g0 hlt ⊢
      have Hkk := Lib.hid hkk
      have Hb3 := Lib.hid hbl
      have Hys := Lib.hid hys
      clear hY hJs hu hcell hkk hx hxr hke hkr hR hys hk hes
      have hki : (k : Int) < (N : Int) := by omega
      gi_wp2_with (refine ⟨trivial, ?_⟩; gi_at_call 25; refine (callsIn_wide.2 HC.out).mono ?_; rintro e W2 ⟨A2, c2, rfl, hc2, ho2, hb2⟩; obtain ⟨fn, tmps, assign, body, hy, hRR⟩ := HY.out W2 A2 c2 hc2 ho2 hb2)
      refine hRR.mono ?_
      rintro e W3 (⟨rfl, hJ3, hk3⟩ | ⟨rfl, hJx3⟩ | ⟨ch, rfl, hJp⟩)
      · gi_wp2
        go_roundw
        case rel =>
          refine ⟨ys ++ [⟨x, A2, c2, k⟩], ?_, ?_, ?_, hJ3, (Hb3.out.trans (hb2.mono (by omega))).trans hk3⟩
          · rw [List.map_append, List.length_append, List.length_singleton, Htk.out, Hys.out]; rfl
          · rw [List.length_append, List.length_singleton, ← Hkk.out]; omega
          · rw [List.length_append, List.length_singleton, ← Hkk.out]; go_num
        case measure => simp [intOf]; omega
      · gi_wp2
        refine bodyPost_ret (results_none rfl _ _ _) rfl ?_
        exact .inl ⟨⟨_, rfl⟩, .inr ⟨_, trivial, hJx3⟩⟩
      · exact ⟨rfl, .inr ⟨ch, rfl, hJp⟩⟩
    · have hkN : ys.length = N := by omega
      rw [hkN] at hys ⊢
      clear hY
      gi_wp2
      go_end0
      refine .inl ⟨⟨_, rfl⟩, .inl ⟨ys, ?_, hJs⟩⟩
      rw [hys, ← Hln.out, List.take_length]
theorem slrwT : SlT Tryz.prog 26 22 (.slice none 0 0) 24 := ⟨Tryz.underlying26, info_parts infoRw, rfl⟩
theorem keeps_own {W W' : World} {B : Nat} {e : TypeId} {v : Value} {xs : List Value} (h : Lec.Own W B e v xs) (hg : W.grownBy W' v.ownBlock) (n : Nat) : KeepsFrom n W W' := by
  refine (KeepsOthers.of_grownBy hg ?_).from _
  intro j o ej hj
  rcases h.2 with ⟨rfl, _⟩ | ⟨g, cap, cur, rfl, _, hk, _⟩
  · simp [Value.ownBlock] at ej
  · obtain rfl : g = j := by simpa [Value.ownBlock] using ej
    rw [hk] at hj
    cases hj
    rfl
/-- What Records tells. -/
def RecsP (w : World) (recs : List Bs) (e : Ending) (w' : World) : Prop := ∃ A c, e = .returned (.slice A recs.length c) ∧ recs.length ≤ c ∧ Rws w' w'.heap.size A recs.length recs ∧ Below w.heap.size w w'
set_option maxRecDepth 100000 in
set_option maxHeartbeats 4000000 in
theorem l_Records (w : World) {lb : Nat} {recs : List Bs} (hL : LgRd w.heap.size w lb recs) (hn : recs.length ≤ 1099511) :
    Calls Tryz.prog 8 #[ptrV lb] w (RecsP w recs) := by
  have hb0 := (Below.refl w.heap.size w).alloc (Nat.le_refl _) (.cells #[.slice none 0 0] 26)
  have R0 := Bk.new_ w 26 #[.slice none 0 0]
  obtain ⟨w0, hw0⟩ : ∃ W, W = w.alloc (.cells #[.slice none 0 0] 26) := ⟨_, rfl⟩
  rw [← hw0] at hb0 R0
  have HW0 := Lib.hid hw0
  have HE := Lib.hid (l_Each w0 (some ⟨lb, 0, none⟩))
  clear hw0
  unfold ptrV
  refine (callsIn_wide (n := 5)).1 ?_
  refine callsIn_of_wp_marks Tryz.func8 rfl trivial ?_ rfl
  simp only [Tryz.ntmps8, List.size_toArray, List.length_cons, List.length_nil, Nat.reduceAdd, Nat.reduceSub, Array.replicate_succ, Array.replicate_zero, List.push_toArray, List.append_toArray, List.nil_append, List.cons_append]
  gi_wp2_with (refine ⟨trivial, ?_⟩; gi_at_call 12; rw [← HW0.out]; refine (callsIn_wide.2 HE.out).mono ?_; rintro e w1 ⟨rfl, rfl⟩)
  have Bi := Bk.new_ w0 24 #[.pointer (some ⟨lb, 0, none⟩)]
  have hb1 := (Below.refl w0.heap.size w0).alloc (Nat.le_refl _) (.cells #[.pointer (some ⟨lb, 0, none⟩)] 24)
  have R1 := R0.below hb1 R0.lt
  have hb01 := hb0.trans (hb1.mono hb0.size)
  obtain ⟨w1, hw1⟩ : ∃ W, W = w0.alloc (.cells #[.pointer (some ⟨lb, 0, none⟩)] 24) := ⟨_, rfl⟩
  rw [← hw1] at Bi hb1 R1 hb01 ⊢
  obtain ⟨bi, hbi⟩ : ∃ x, x = w0.heap.size := ⟨_, rfl⟩
  rw [← hbi] at Bi ⊢
  have hS := lEach_X 4 (by omega) bi lb w.heap.size w1 Bi (hL.below hb01 (Nat.le_refl _)) hb01.size
  have hs1 := hb01.size
  have hr1 : w.heap.size < w1.heap.size := R1.lt
  clear HE HW0 hb0 hb1 R0 hw1 hbi Bi
  refine range_X (n := 5) (by omega) (gf := 26) (lb := #[.pointer (some ⟨bi, 0, none⟩)]) rfl (enters_of Tryz.func26 (by kernel_rfl) rfl)
    hS belowK_t (belowK_b (by omega)) (Below.refl _ _) (fun _ => rfl)
    (fun pre W => ∃ v es, Bk W w.heap.size 26 #[v] ∧ Lec.Own W w1.heap.size 22 v es ∧ BEls W (fun k => w1.heap.size ≤ k ∧ ∃ cs, Bk W k 5 cs) es (pre.map Lx.l) ∧ Below w.heap.size w W ∧ w1.heap.size ≤ W.heap.size)
    (fun _ _ _ => False)
    (fun q X Y row h hg hr => by
      obtain ⟨v, es, h1, h2, h3, h4⟩ := h
      exact ⟨v, es, h1.kept hg (fun r e => (hr r e).2), own_kept h2 hg (fun r e => (hr r e).2), h3.imp (fun u l hu => el_kept hu hg (fun r e => (hr r e).2) (fun k h => ⟨h.1, by obtain ⟨cs, hc⟩ := h.2; exact ⟨cs, hc.kept hg (fun r e => (hr r e).2)⟩⟩)), h4.1.grown hg h4.1.size (fun k e => by have := (hr k e).1; omega), Nat.le_trans h4.2 hg.size⟩)
    (fun c q X Y row h hg hr => h)
    ⟨_, [], R1, Lec.Own.nil_ _ _ _, BEls.nil _ _, hb01, Nat.le_refl _⟩
    (fun pre x a' W => a' = { tmps := #[.pointer (some ⟨lb, 0, none⟩), undef, .slice none 0 0, .pointer (some ⟨w.heap.size, 0, none⟩), undef, .slice x.A x.l.length x.c, .pointer (some ⟨lb, 0, none⟩), .func (.func 26) #[] #[.pointer (some ⟨bi, 0, none⟩)], .int .i64 (x.i : Int), .slice x.A x.l.length x.c, undef, undef, undef, undef, undef], defers := [] } ∧ LxY recs w1.heap.size pre x W)
    (fun pre x q X Y row h hg hr => ⟨h.1, h.2.1, h.2.2.1, h.2.2.2.1, own_kept h.2.2.2.2 hg (fun r e => (hr r e).2)⟩) ?assign ?body ?done ?stop
  case assign =>
    intro l pre x W hI hY
    simp only [Lx.val]
    gi_wp2
    exact ⟨KeepsFrom.refl _ _, Below.refl _ _, hI, by trivial, hY⟩
  case body =>
    rintro l pre x a' W ⟨v, es, hR, hO, hE, hB, hwW⟩ ⟨rfl, hY1, hY2, hY3, hY4⟩ hlen
    obtain ⟨A0, c0, rfl, hc0⟩ := hO.shape
    have q := hR.cell
    have hel := hE.1
    rw [List.length_map] at hel
    have hle : es.length ≤ 1099511 := by omega
    have Hel := Lib.hid hel
    clear hel
    have HO1 := Lib.hid hO
    have HR1 := Lib.hid hR
    gi_wp2_with (gi_at_builtin; go_loud (refine listIn_step rfl (by intro c h; cases h) (fun Kx hKx => wpList_app_new (news := [.slice x.A x.l.length x.c]) rfl (.tmp 10) (.tmp 12) rfl slrwT rfl HO1.out rfl rfl (by intro u hu; rw [List.mem_singleton] at hu; subst hu; rfl) (by omega) (by decide) (by omega) (fun v3 w3 ho3 hb3 hg3 => wpList_nil (hKx _ _ ?_)))); go_loud (obtain ⟨A3, c3, rfl, hc3⟩ := ho3.shape); go_loud (have hR3 := bkGrown HR1.out hg3 (own_bkK HO1.out HR1.out (by decide)); have q3 := hR3.cell 0; have z3 := hR3.frz 0))
    have hg3' := hg3
    have hkeep : ∀ k, (w1.heap.size ≤ k ∧ ∃ cs, Bk W k 5 cs) → (w3.setCell ⟨w.heap.size, 0, none⟩ (.slice A3 (es ++ [Value.slice x.A x.l.length x.c]).length c3)).heap[k]? = W.heap[k]? := fun k hk => by
      obtain ⟨hk1, cs, hk2⟩ := hk
      refine (Below.heap_setCell w3 ⟨w.heap.size, 0, none⟩ _ k (fun e => ?_)).trans (hg3'.block k hk2.lt (fun e => own_bkK HO1.out hk2 (by decide) e.symm))
      have e' : k = w.heap.size := e
      omega
    have hnew : El W (fun k => w1.heap.size ≤ k ∧ ∃ cs, Bk W k 5 cs) (.slice x.A x.l.length x.c) x.l := by
      refine ⟨x.A, x.c, rfl, hY3, hY4.rd, fun hn a e => ?_⟩
      have h1 := World.ownsRow.lt hY4 a.block (by rw [e]; rfl)
      rcases hY4.2 with ⟨h2, _⟩ | ⟨g, cap, cur, h2, _, hh, _⟩
      · rw [Value.slice.injEq] at h2; rw [h2.1] at e; cases e
      · rw [Value.slice.injEq] at h2; rw [h2.1] at e; cases e; exact ⟨h1.1, _, hh⟩
    have hs3 := hg3.size
    have hfs : W.heap.size ≤ (w3.setCell ⟨w.heap.size, 0, none⟩ (.slice A3 (es ++ [Value.slice x.A x.l.length x.c]).length c3)).heap.size := by simp; exact hs3
    have hE2 := (hE.snoc hnew).keep (X' := fun k => w1.heap.size ≤ k ∧ ∃ cs, Bk (w3.setCell ⟨w.heap.size, 0, none⟩ (.slice A3 (es ++ [Value.slice x.A x.l.length x.c]).length c3)) k 5 cs) hfs (fun k hk _ => hkeep k hk) (fun k hk _ => ⟨hk.1, by obtain ⟨cs, h⟩ := hk.2; exact ⟨cs, (hkeep k hk).trans h⟩⟩)
    have hR4 := hR3.set_ 0 (.slice A3 (es ++ [Value.slice x.A x.l.length x.c]).length c3)
    have hO4 : Lec.Own (w3.setCell ⟨w.heap.size, 0, none⟩ (.slice A3 (es ++ [Value.slice x.A x.l.length x.c]).length c3)) w1.heap.size 22 (.slice A3 (es ++ [Value.slice x.A x.l.length x.c]).length c3) (es ++ [Value.slice x.A x.l.length x.c]) :=
      OwnK.kbP ho3 ((KbP.refl (fun k => k = w.heap.size) w3).setCell (p := ⟨w.heap.size, 0, none⟩) (.inl rfl) _) (fun g e hg => own_bkK ho3 hR3 (by decide) (by rw [e, show g = w.heap.size from hg]))
    have hB4 := ((hB.grown hg3' (by omega) (fun k e => (World.ownsRow.lt HO1.out k e).1 |> fun h => by omega)).setCell (p := ⟨w.heap.size, 0, none⟩) (Nat.le_refl _) (.slice A3 (es ++ [Value.slice x.A x.l.length x.c]).length c3))
    have hW4 : Below w.heap.size W (w3.setCell ⟨w.heap.size, 0, none⟩ (.slice A3 (es ++ [Value.slice x.A x.l.length x.c]).length c3)) := (((Below.refl w.heap.size W).grown hg3' (by omega) (fun k e => (World.ownsRow.lt HO1.out k e).1 |> fun h => by omega)).setCell (p := ⟨w.heap.size, 0, none⟩) (Nat.le_refl _) _)
    have hll : (es ++ [Value.slice x.A x.l.length x.c]).length = es.length + 1 := by simp
    rw [hll] at hW4 hO4 hE2 hB4 hR4 hfs
    refine ⟨(keeps_own HO1.out hg3' _).trans ((KeepsOthers.setCell _ _ _).from _), hW4, _, _, hR4, hO4, by rw [List.map_append]; exact hE2, hB4, by omega⟩
  case done =>
    rintro D ys W hD hys ⟨v, es, hR, hO, hE, hB, hwW⟩ hK
    obtain ⟨A0, c0, rfl, hc0⟩ := hO.shape
    have q := hR.cell
    have hel := hE.1
    rw [hys] at hE hel
    gi_wp2
    refine ⟨by simp, .inl ⟨_, _, rfl, run_takeDeferred hK, ?_⟩⟩
    have hg := grownBy_putObj' W D (.deferred none)
    have hr : ∀ r, some D = some r → ∃ o : Obj, W.heap[r]? = some o ∧ o.isCells = false := fun r e => by cases e; exact ⟨_, hK, rfl⟩
    have hO' := own_kept hO hg hr
    have hE' := hE.imp (fun u l hu => el_kept (X' := fun _ => True) hu hg hr (fun _ _ => trivial))
    refine ⟨.slice A0 recs.length c0, by simp [results, Tryz.results8, go_sem], A0, c0, rfl, by rw [← hel]; exact hc0, ⟨es, ?_, hel, fun i u l e1 e2 => by obtain ⟨A', c', e, hc', hr, _⟩ := hE'.2 i u l e1 e2; exact ⟨A', c', e, hc', hr⟩⟩, hB.trans (belowK_b (w := w) (Nat.le_refl _) _ D _ _ (by omega) hK rfl rfl)⟩
    rw [← hel]
    exact hO'.rd
  case stop =>
    intro D c pre W _ _ h
    exact h.elim
end Go.Proofs.YtgilnjngphhhlaaGreat
