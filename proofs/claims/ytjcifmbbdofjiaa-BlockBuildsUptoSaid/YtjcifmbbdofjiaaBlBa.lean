/- Layer 20: a block that is refused: the walks of slices.All and of build, where a round panics. -/
import Derived.Test.YtjcifmbbdofjiaaRangeP
import Derived.Test.YtjcifmbbdofjiaaInRoundP
import Derived.Test.YtjcifmbbdofjiaaBlPa
namespace Go.Proofs.Ytjcifmbbdofjiaa
open Go.RowKit Go.Lec Go.Op Go.Shelf
attribute [local go_sem] Oper.semAt_some
set_option maxRecDepth 100000 in
set_option maxHeartbeats 2000000 in
theorem all_X (n : Nat) (hn : 1 ≤ n) (Bs n₀ : Nat) {L : List Pr} {A : Option Addr} {N c : Nat} (w : World) (hBs : Bk w Bs 22 #[.slice A N c]) (hs : Prs w n₀ A N L) (hn₀ : n₀ ≤ w.heap.size) (hN : N ≤ 1099511627776) :
    SeqX Try.prog n 62 #[.pointer (some ⟨Bs, 0, none⟩)] (fun x : Px L => #[Value.int .i64 (x.1.1 : Int), x.1.2.val]) (fun pre x _ => x.1.1 = pre.length) (Below n₀) (fun xs => xs.length = N) (fun _ => True) N w := by
  intro l J Jx Jp W hW hJa hY h0
  replace hBs := hBs.below hW hBs.lt
  replace hs := hs.below hW hn₀
  replace hn₀ : n₀ ≤ W.heap.size := Nat.le_trans hn₀ hW.size
  have qs := hBs.cell 0
  refine callsIn_of_wp Try.func62 rfl trivial ?_ rfl
  simp only [Try.ntmps62, List.size_toArray, List.length_cons, List.length_nil, Nat.reduceAdd, Nat.reduceSub, Array.replicate_succ, Array.replicate_zero, List.push_toArray, List.append_toArray, List.nil_append, List.cons_append]
  gi_wp2
  gi_loopw [7] (fun i wr => ∃ (k : Nat) (pre : List (Px L)), k ≤ N ∧ i = .int .i64 k ∧ pre.length = k ∧ J pre wr ∧ Below n₀ W wr) (fun i _ => N - (intOf i).toNat)
  case atStart => exact ⟨0, [], Nat.zero_le _, rfl, rfl, h0, Below.refl _ _⟩
  case round =>
    obtain ⟨k, pre, hk, rfl, hpl, hJs, hnx⟩ := hrel
    clear qs
    by_cases hlt : k < N
    · obtain ⟨b, o, m, rfl, hbB, hmk, _, hmok, hcell⟩ := hs.cell2 hlt
      obtain ⟨c0, c1⟩ := hcell wr hnx
      have hnr : n₀ ≤ wr.heap.size := by have := hnx.size; omega
      have lbr : b < wr.heap.size := by omega
      have HB := Bk.new_ wr 35 #[.slice m.A1 m.n1 m.c1, .slice m.A2 m.n2 m.c2]
      have hb1 := (Below.refl wr.heap.size wr).alloc (Nat.le_refl _) (.cells #[.slice m.A1 m.n1 m.c1, .slice m.A2 m.n2 m.c2] 35)
      have hJ1 := hJa _ wr _ none hJs (grown_of_below hb1) (fun r e => by cases e)
      have g0 := HB.cell 0
      have g1 := HB.cell 1
      obtain ⟨fn, tmps, assign, body, hy, hR⟩ := hY pre ⟨(k, m), hmk⟩ _ hJ1 hpl.symm (by omega)
      dsimp only [Pr.val] at hy
      have Hpl := Lib.hid hpl
      clear hcell hmok HB hpl
      have hki : (k : Int) < (N : Int) := by omega
      gi_wp2
      refine hR.mono ?_
      rintro e W3 (⟨rfl, hJ3, hk3⟩ | ⟨rfl, hJx3⟩ | ⟨ch, rfl, hJp⟩)
      · gi_wp2
        go_roundw
        case rel => exact ⟨k + 1, _, by omega, by simp, by rw [List.length_append, Hpl.out]; rfl, hJ3, hnx.trans ((hb1.mono hnr).trans hk3)⟩
        case measure => simp [intOf]; omega
      · gi_wp2
        refine bodyPost_ret (results_none rfl _ _ _) rfl ?_
        exact .inl ⟨⟨_, rfl⟩, .inr ⟨_, trivial, hJx3⟩⟩
      · exact ⟨rfl, .inr ⟨ch, rfl, hJp⟩⟩
    · obtain rfl : k = N := by omega
      gi_wp2
      go_end0
      exact .inl ⟨⟨_, rfl⟩, .inl ⟨_, hpl, hJs⟩⟩
set_option maxRecDepth 40000 in
set_option maxHeartbeats 800000 in
theorem c_build_range (w : World) {N c : Nat} {A : Option Addr} (every : Int) (h : every < 1 ∨ 1024 < every) :
    Calls Try.prog 30 #[.slice A N c, .int .i64 every] w fun e w' => e = .panicked [{ v := blFailVal 1, recovered := false }] ∧ Below w.heap.size w w' := by
  have hb := (Below.refl w.heap.size w).alloc (Nat.le_refl _) (.cells #[.slice A N c] 22)
  by_cases h1 : every < 1
  · have d1 : decide ((1 : Int) ≤ every) = false := decide_eq_false (by omega)
    go_enter Try.func30, Try.ntmps30
    go_wp2_with (go_at_call 47; refine (c_blMust_no _ 1 _ ?_).mono ?_; (first | rfl | (simp; done) | (simp [*]; done)); rintro e w1 ⟨rfl, rfl⟩)
    exact ⟨rfl, rfl, hb⟩
  · have d1 : decide ((1 : Int) ≤ every) = true := decide_eq_true (by omega)
    have d2 : decide (every ≤ 1024) = false := decide_eq_false (by omega)
    go_enter Try.func30, Try.ntmps30
    go_wp2_with (go_at_call 47; refine (c_blMust_no _ 1 _ ?_).mono ?_; (first | rfl | (simp; done) | (simp [*]; done)); rintro e w1 ⟨rfl, rfl⟩)
    exact ⟨rfl, rfl, hb⟩
end Go.Proofs.Ytjcifmbbdofjiaa
/- Layer 20: a block that is refused, for its keys do not rise: the walk of build. -/
namespace Go.Proofs.Ytjcifmbbdofjiaa
open Go.RowKit Go.Lec Go.Op Go.Shelf
attribute [local go_sem] Oper.semAt_some
set_option maxRecDepth 100000 in
set_option maxHeartbeats 4000000 in
theorem c_build_rise (w : World) {B N c every : Nat} {A : Option Addr} {L : List Pr} (hp : Prs w B A N L) (hB : B ≤ w.heap.size) (he1 : 1 ≤ every) (he2 : every ≤ 1024) (hr : ¬ risen (L.map Pr.pl)) (hN : N ≤ 1099511627776) :
    Calls Try.prog 30 #[.slice A N c, .int .i64 (every : Int)] w fun e w' => e = .panicked [{ v := blFailVal 200, recovered := false }] ∧ Below w.heap.size w w' := by
  refine calls_at (n := 5) Try.func30 rfl ?_
  simp only [Try.ntmps30, List.size_toArray, List.length_cons, List.length_nil, Nat.reduceAdd, Nat.reduceSub, Array.replicate_succ, Array.replicate_zero, List.push_toArray, List.append_toArray, List.nil_append, List.cons_append]
  have hb0 := (Below.refl w.heap.size w).alloc (Nat.le_refl _) (.cells #[.slice A N c] 22)
  have H0 := Bk.new_ w 22 #[.slice A N c]
  have hz0 : (w.alloc (.cells #[.slice A N c] 22)).heap.size = w.heap.size + 1 := by simp
  obtain ⟨w0, hw0⟩ : ∃ W, W = w.alloc (.cells #[.slice A N c] 22) := ⟨_, rfl⟩
  rw [← hw0] at hb0 H0 hz0
  have q0 := H0.cell 0
  have HW0 := Lib.hid hw0
  clear hw0
  have d1 : decide ((1 : Int) ≤ (every : Int)) = true := decide_eq_true (by omega)
  have d2 : decide ((every : Int) ≤ 1024) = true := decide_eq_true (by omega)
  refine wpAt_seq_k fun K hK => ?_
  go_wp2
  rw [← HW0.out]
  refine wpAt_seq_k fun K hK => ?_
  go_wp2_with (first | (go_at_call 47; refine (c_blMust_ok true 1 w0 rfl).mono ?_; rintro e w1 ⟨rfl, rfl⟩))
  refine wpAt_seq_k fun K hK => ?_
  go_wp2
  refine wpAt_seq_k fun K hK => ?_
  go_wp2
  refine wpAt_left ?_
  refine wpAt_seq_k fun K hK => ?_
  go_wp2_with (first | (go_at_call 48; refine (c_All _).mono ?_; rintro e w2 ⟨rfl, rfl⟩))
  refine wpAt_block ?_
  clear HW0 q0 d1 d2
  have bE := Bk.new_ w0 22 #[.slice A N c]
  have hbL := hb0.alloc (by omega) (.cells #[.slice A N c] 22)
  have H0L := H0.alloc (.cells #[.slice A N c] 22)
  have hzL : (w0.alloc (.cells #[.slice A N c] 22)).heap.size = w.heap.size + 2 := by simp [hz0]
  rw [hz0] at bE
  obtain ⟨wL, hwL⟩ : ∃ W, W = w0.alloc (.cells #[.slice A N c] 22) := ⟨_, rfl⟩
  rw [← hwL] at bE hbL H0L hzL ⊢
  clear hwL H0 hb0 hz0
  have hpL := (hp.below hbL hB).more hB
  have hpl : ∀ k, (L.map Pr.pl)[k]? = L[k]?.map Pr.pl := fun k => by rw [List.getElem?_map]
  refine range_P (n := 5) Try.func30 (gf := 62) (lb := #[.pointer (some ⟨w.heap.size + 1, 0, none⟩)]) rfl (enters_of Try.func62 (by kernel_rfl) rfl)
    (all_X 5 (by omega) (w.heap.size + 1) w.heap.size wL bE hpL (by omega) hN) belowK_t (belowK_b (by omega)) (Below.refl _ _) (fun _ => rfl)
    (fun pre W => (Bk W w.heap.size 22 #[.slice A N c] ∧ Below w.heap.size w W) ∧ risenTo (L.map Pr.pl) pre.length)
    (fun ch W => ch = [{ v := blFailVal 200, recovered := false }] ∧ Below w.heap.size w W)
    (fun s X Y row h hg hr => ⟨⟨h.1.1.kept hg (fun r e => (hr r e).2), h.1.2.grown hg h.1.2.size (fun k e => by have := (hr k e).1; omega)⟩, h.2⟩)
    ⟨⟨H0L, hbL⟩, fun i hi => absurd hi (by simp)⟩
    (fun pre x a' W => x.1.1 = pre.length ∧ ∃ pb, w.heap.size ≤ pb ∧ Bk W pb 35 #[.slice x.1.2.A1 x.1.2.n1 x.1.2.c1, .slice x.1.2.A2 x.1.2.n2 x.1.2.c2] ∧ a' = { tmps := #[.slice A N c, .int .i64 (every : Int), .pointer (some ⟨w.heap.size, 0, none⟩), undef, .slice none 0 0, .slice none 0 0, .slice none 0 0, .int .i64 (x.1.1 : Int), .pointer (some ⟨pb, 0, none⟩), undef, undef, undef, undef, undef, undef, undef, undef, undef,
        .int .i64 (every : Int), .bool true, .bool true, .int .i64 (every : Int), .bool true, .bool true, .tuple #[], .slice A N c, .func (.func 62) #[] #[.pointer (some ⟨w.heap.size + 1, 0, none⟩)],
        .int .i64 (x.1.1 : Int), .agg #[.slice x.1.2.A1 x.1.2.n1 x.1.2.c1, .slice x.1.2.A2 x.1.2.n2 x.1.2.c2], undef, undef, undef, undef, undef, undef, undef, undef, undef, undef, undef, undef, undef, undef, undef, undef, undef, undef, undef, undef, undef, undef, undef, undef, undef, undef, undef, undef, undef, undef, undef, undef, undef, undef, undef, undef, undef, undef, undef, undef, undef, undef, undef, undef, undef, undef, undef, undef, undef, undef, undef, undef, undef, undef, undef, undef, undef, undef, undef, undef, undef, undef, undef, undef, undef, undef, undef, undef, undef, undef, undef, undef, undef, undef, undef, undef, undef, undef, undef, undef, undef, undef, undef, undef, undef, undef, undef, undef, undef, undef, undef, undef, undef, undef, undef, undef, undef, undef, undef], defers := [] })
    (fun pre x a' X Y row h hg hr => by
      obtain ⟨h0, pb, h1, h2, h3⟩ := h
      exact ⟨h0, pb, h1, h2.kept hg (fun r e => (hr r e).2), h3⟩) ?assign ?body ?done ?pan
  case assign =>
    intro l pre x W hI hY
    have HI := Lib.hid hI
    have hbI := hI.1.2
    have HY := Lib.hid hY
    clear hI hY
    dsimp only [Pr.val]
    have HP := Bk.new_ W 35 #[.slice x.1.2.A1 x.1.2.n1 x.1.2.c1, .slice x.1.2.A2 x.1.2.n2 x.1.2.c2]
    have hfin := Lib.hid (show KeepsFrom wL.heap.size W (W.alloc (.cells #[.slice x.1.2.A1 x.1.2.n1 x.1.2.c1, .slice x.1.2.A2 x.1.2.n2 x.1.2.c2] 35)) from keeps_of_below ((Below.refl _ _).alloc (Nat.le_refl _) _) _)
    gi_wp2
    exact ⟨hfin.out, (Below.refl _ _).alloc hbI.size _, ⟨⟨HI.out.1.1.alloc _, hbI.alloc hbI.size _⟩, HI.out.2⟩, HY.out, W.heap.size, hbI.size, HP, by first | rfl | trivial⟩
  case body =>
    rintro l pre ⟨⟨i, m⟩, hm⟩ hlen
    dsimp only at hm ⊢
    have hKN : ∀ (W : World) nq, KeepsFrom wL.heap.size W (W.drewN nq) := fun W nq => keeps_of_below (belowN (Below.refl _ _) nq) _
    have hml : (L.map Pr.pl)[i]? = some m.pl := by rw [hpl, hm]; rfl
    rcases Nat.eq_zero_or_pos i with rfl | hi
    · refine .inl ?_
      rintro a' W ⟨⟨h1, hBW⟩, hR⟩ ⟨hx0, pb, hpb, hP, rfl⟩
      have q0 := h1.cell 0
      have p0 := hP.cell 0
      have p1 := hP.cell 1
      have HR := Lib.hid (show risenTo (L.map Pr.pl) (pre.length + 1) from fun i hi => by rw [← hx0] at hi; simp at hi)
      clear hx0 hR
      gi_wp2
      refine wpIn_region_quiet_round (by kernel_rfl) (by kernel_rfl) (by kernel_rfl) ?_
      repeat (go_big_quiet_step ((first | (go_at_call 47; exact Calls.quiet_of_same ((c_blMust_ok true 200 _ rfl).mono (fun e w' h => ⟨h.1, h.2.symm⟩))))))
      refine wpQuiet_nil ?_
      rintro _ ⟨nq, rfl⟩
      exact ⟨hKN W nq, belowN (Below.refl _ _) nq, ⟨h1.drewN nq, belowN hBW nq⟩, by rw [List.length_append]; exact HR.out⟩
    · obtain ⟨j, rfl⟩ : ∃ j, i = j + 1 := ⟨i - 1, by omega⟩
      have hjN : j < N := by
        have := (List.getElem?_eq_some_iff.1 hm).1
        have := hp.len
        omega
      obtain ⟨b, o, m0, rfl, hbB, hmk, _, hmok, hcell⟩ := hp.cell2 hjN
      have hmok1 : m.ok w B := hp.2 m (List.mem_of_getElem? hm)
      have hm0l : (L.map Pr.pl)[j]? = some m0.pl := by rw [hpl, hmk]; rfl
      have hjI : (j : Int) < (N : Int) := by omega
      have hz : (((j : Int) + 1) == 0) = false := by rw [beq_eq_false_iff_ne]; omega
      by_cases hlt : bytesLess m0.key m.key = true
      · refine .inl ?_
        rintro a' W ⟨⟨h1, hBW⟩, hR⟩ ⟨hx0, pb, hpb, hP, rfl⟩
        have q0 := h1.cell 0
        have p0 := hP.cell 0
        have p1 := hP.cell 1
        obtain ⟨c0, _⟩ := hcell W (hBW.mono hB)
        have hcmp : decide (Lib.compareBytes m0.key m.key < 0) = true := by rw [cmp_neg_decide, hlt]
        have HC := Lib.hid (fun nq : Nat => c_bCompare (W.drewN nq) (c := m0.c1) (c2 := m.c1) ((hmok.1.below (hBW.mono hB) (Nat.le_refl _)).drewN nq) ((hmok1.1.below (hBW.mono hB) (Nat.le_refl _)).drewN nq))
        have lbW : b < W.heap.size := by have := hBW.size; omega
        have HR := Lib.hid (show risenTo (L.map Pr.pl) (pre.length + 1) from fun i hi => by
          rw [← hx0] at hi
          rcases Nat.lt_or_ge i j with h | h
          · exact hR i (by rw [← hx0]; omega)
          · obtain rfl : i = j := by omega
            rw [keyAt_of hm0l, keyAt_of hml]
            exact hlt)
        clear hcell hmk hmok hmok1 hx0 hR hml hm0l hpl
        gi_wp2
        refine wpIn_region_quiet_round (by kernel_rfl) (by kernel_rfl) (by kernel_rfl) ?_
        repeat (go_big_quiet_step ((first | (go_at_call 49; exact Calls.quiet_of_same (HC.out _)) | (go_at_call 47; exact Calls.quiet_of_same ((c_blMust_ok true 200 _ rfl).mono (fun e w' h => ⟨h.1, h.2.symm⟩))))))
        refine wpQuiet_nil ?_
        rintro _ ⟨nq, rfl⟩
        exact ⟨hKN W nq, belowN (Below.refl _ _) nq, ⟨h1.drewN nq, belowN hBW nq⟩, by rw [List.length_append]; exact HR.out⟩
      · refine .inr ?_
        rintro a' W ⟨⟨h1, hBW⟩, hR⟩ ⟨hx0, pb, hpb, hP, rfl⟩
        obtain ⟨c0, _⟩ := hcell W (hBW.mono hB)
        have hcmp : decide (Lib.compareBytes m0.key m.key < 0) = false := by rw [cmp_neg_decide]; simpa using hlt
        have hwr : IntKind.i64.wrap (j : Int) = (j : Int) := IntWalk.i64_in _ (by omega)
        have HC := Lib.hid (c_bCompare W.drew (c := m0.c1) (c2 := m.c1) (hmok.1.below (hBW.mono hB) (Nat.le_refl _)).drew (hmok1.1.below (hBW.mono hB) (Nat.le_refl _)).drew)
        have HK := Lib.hid (show W.drew.cell? ⟨w.heap.size, 0, none⟩ = some (.slice (some ⟨b, o, none⟩) N c) ∧ W.drew.cell? ⟨b, o + j * 2, none⟩ = some (.slice m0.A1 m0.n1 m0.c1) ∧ W.drew.cell? ⟨pb, 0, none⟩ = some (.slice m.A1 m.n1 m.c1) from ⟨h1.cell 0, c0, hP.cell 0⟩)
        have hKN1 := hKN W 1
        have hbw1 := belowN hBW 1
        clear hcell hmk hmok hmok1 hx0 hR hml hm0l hpl c0 h1 hP
        gi_wp2
        have hHeld : (fun W' : World => W'.cell? ⟨w.heap.size, 0, none⟩ = some (.slice (some ⟨b, o, none⟩) N c) ∧ W'.cell? ⟨b, o + j * 2, none⟩ = some (.slice m0.A1 m0.n1 m0.c1) ∧ W'.cell? ⟨pb, 0, none⟩ = some (.slice m.A1 m.n1 m.c1)) _ := HK.out
        refine wpIn_region_roundP (S := fun W' : World => W'.cell? ⟨w.heap.size, 0, none⟩ = some (.slice (some ⟨b, o, none⟩) N c) ∧ W'.cell? ⟨b, o + j * 2, none⟩ = some (.slice m0.A1 m0.n1 m0.c1) ∧ W'.cell? ⟨pb, 0, none⟩ = some (.slice m.A1 m.n1 m.c1)) (by kernel_rfl) (by kernel_rfl) ?_
        simp only [List.size_toArray, List.length_cons, List.length_nil, Nat.reduceAdd]
        refine heldTake (i := 0) (v := ?_) rfl (by kernel_rfl) (by kernel_rfl) (by kernel_rfl) (fun _ _ _ h => h) hHeld (by rfl) ?_ ?_
        rotate_left
        · (intro w hSw; (try dsimp only at hSw); go_simp; try with_reducible rfl)
        try simp only [Act.put, List.setIfInBounds_toArray, List.set_cons_zero, List.set_cons_succ]
        refine heldTake (i := 1) (v := ?_) rfl (by kernel_rfl) (by kernel_rfl) (by kernel_rfl) (fun _ _ _ h => h) hHeld (by rfl) ?_ ?_
        rotate_left
        · (intro w hSw; (try dsimp only at hSw); go_simp; try with_reducible rfl)
        try simp only [Act.put, List.setIfInBounds_toArray, List.set_cons_zero, List.set_cons_succ]
        refine heldTake (i := 2) (v := ?_) rfl (by kernel_rfl) (by kernel_rfl) (by kernel_rfl) (fun _ _ _ h => h) hHeld (by rfl) ?_ ?_
        rotate_left
        · (intro w hSw; (try dsimp only at hSw); go_simp; try with_reducible rfl)
        try simp only [Act.put, List.setIfInBounds_toArray, List.set_cons_zero, List.set_cons_succ]
        refine heldTake (i := 3) (v := ?_) rfl (by kernel_rfl) (by kernel_rfl) (by kernel_rfl) (fun _ _ _ h => h) hHeld (by rfl) ?_ ?_
        rotate_left
        · (intro w hSw; (try dsimp only at hSw); go_simp; try with_reducible rfl)
        try simp only [Act.put, List.setIfInBounds_toArray, List.set_cons_zero, List.set_cons_succ]
        refine heldTake (i := 4) (v := ?_) rfl (by kernel_rfl) (by kernel_rfl) (by kernel_rfl) (fun _ _ _ h => h) hHeld (by rfl) ?_ ?_
        rotate_left
        · (intro w hSw; (try dsimp only at hSw); go_simp; try with_reducible rfl)
        try simp only [Act.put, List.setIfInBounds_toArray, List.set_cons_zero, List.set_cons_succ]
        refine heldTake (i := 5) (v := ?_) rfl (by kernel_rfl) (by kernel_rfl) (by kernel_rfl) (fun _ _ _ h => h) hHeld (by rfl) ?_ ?_
        rotate_left
        · (intro w hSw; (try dsimp only at hSw); go_simp; try with_reducible rfl)
        try simp only [Act.put, List.setIfInBounds_toArray, List.set_cons_zero, List.set_cons_succ]
        refine heldTake (i := 6) (v := ?_) rfl (by kernel_rfl) (by kernel_rfl) (by kernel_rfl) (fun _ _ _ h => h) hHeld (by rfl) ?_ ?_
        rotate_left
        · (intro w hSw; (try dsimp only at hSw); go_simp; try with_reducible rfl)
        try simp only [Act.put, List.setIfInBounds_toArray, List.set_cons_zero, List.set_cons_succ]
        refine heldTake (i := 7) (v := ?_) rfl (by kernel_rfl) (by kernel_rfl) (by kernel_rfl) (fun _ _ _ h => h) hHeld (by rfl) ?_ ?_
        rotate_left
        · (intro w hSw; (try dsimp only at hSw); go_simp; try with_reducible rfl)
        try simp only [Act.put, List.setIfInBounds_toArray, List.set_cons_zero, List.set_cons_succ]
        refine heldTake (i := 8) (v := ?_) rfl (by kernel_rfl) (by kernel_rfl) (by kernel_rfl) (fun _ _ _ h => h) hHeld (by rfl) ?_ ?_
        rotate_left
        · (intro w hSw; (try dsimp only at hSw); go_simp; try with_reducible rfl)
        try simp only [Act.put, List.setIfInBounds_toArray, List.set_cons_zero, List.set_cons_succ]
        refine heldTake (i := 9) (v := ?_) rfl (by kernel_rfl) (by kernel_rfl) (by kernel_rfl) (fun _ _ _ h => h) hHeld (by rfl) ?_ ?_
        rotate_left
        · (intro w hSw; (try dsimp only at hSw); go_simp; try with_reducible rfl)
        try simp only [Act.put, List.setIfInBounds_toArray, List.set_cons_zero, List.set_cons_succ]
        refine heldTake (i := 10) (v := ?_) rfl (by kernel_rfl) (by kernel_rfl) (by kernel_rfl) (fun _ _ _ h => h) hHeld (by rfl) ?_ ?_
        rotate_left
        · (intro w hSw; (try dsimp only at hSw); go_simp; try with_reducible rfl)
        try simp only [Act.put, List.setIfInBounds_toArray, List.set_cons_zero, List.set_cons_succ]
        refine heldStep (i := 11) rfl (by kernel_rfl) (fun K hK => ?_)
        go_simp
        go_at_call 49
        refine HC.out.mono ?_
        rintro e w3 ⟨rfl, rfl⟩
        refine hK.out _ _ (HK.out) (fun hHeld => ?_)
        clear hK K
        try simp only [Act.put, List.setIfInBounds_toArray, List.set_cons_zero, List.set_cons_succ]
        refine heldTake (i := 12) (v := ?_) rfl (by kernel_rfl) (by kernel_rfl) (by kernel_rfl) (fun _ _ _ h => h) hHeld (by rfl) ?_ ?_
        rotate_left
        · (intro w hSw; (try dsimp only at hSw); go_simp; try with_reducible rfl)
        try simp only [Act.put, List.setIfInBounds_toArray, List.set_cons_zero, List.set_cons_succ]
        refine heldTake (i := 13) (v := ?_) rfl (by kernel_rfl) (by kernel_rfl) (by kernel_rfl) (fun _ _ _ h => h) hHeld (by rfl) ?_ ?_
        rotate_left
        · (intro w hSw; (try dsimp only at hSw); go_simp; try with_reducible rfl)
        try simp only [Act.put, List.setIfInBounds_toArray, List.set_cons_zero, List.set_cons_succ]
        refine heldStep (i := 14) rfl (by kernel_rfl) (fun K hK => ?_)
        go_simp
        go_at_call 47
        refine (c_blMust_no false 200 _ rfl).mono ?_
        rintro e w4 ⟨rfl, rfl⟩
        exact ⟨_, rfl, rfl, hKN1, rfl, hbw1⟩
  case done =>
    rintro xs W hS ⟨_, hR⟩
    rw [hS] at hR
    refine hr ((risen_iff _).2 (fun i hi => hR i ?_))
    rw [List.length_map, hp.len] at hi
    exact hi
  case pan =>
    rintro D ch W hD ⟨rfl, hb⟩ hK
    refine ⟨_, rfl, ?_⟩
    refine ⟨by simp, .inl ⟨_, _, rfl, run_takeDeferred hK, ?_⟩⟩
    exact ⟨rfl, hb.grown (grownBy_putObj' W D (.deferred none)) hb.size (fun k e => by cases e; omega)⟩
end Go.Proofs.Ytjcifmbbdofjiaa
/- Layer 20: Build and Size, where the pairs are refused: the walks. -/
namespace Go.Proofs.Ytjcifmbbdofjiaa
open Go.RowKit Go.Lec Go.Op
/-- The pairs are refused with that error. -/
def badE (l : List Pl) (every err : Int) : Prop := (err = 1 ∧ (every < 1 ∨ 1024 < every)) ∨ (err = 200 ∧ 1 ≤ every ∧ every ≤ 1024 ∧ ¬ risen l)
theorem badE_ne {l : List Pl} {every err : Int} (h : badE l every err) : err ≠ 0 := by rcases h with ⟨rfl, _⟩ | ⟨rfl, _⟩ <;> decide
theorem badE_rb {l : List Pl} {every err e2 : Int} {b : List UInt8} (h : badE l every err) (hr : RB l every e2 b) : e2 = err ∧ b = [] := by
  rcases h with ⟨rfl, h⟩ | ⟨rfl, h1, h2, h3⟩
  · cases hr with
    | range _ => exact ⟨rfl, rfl⟩
    | rise a b _ => omega
    | long a b _ _ => omega
    | ok a b _ _ => omega
  · cases hr with
    | range h => omega
    | rise _ _ _ => exact ⟨rfl, rfl⟩
    | long _ _ a _ => exact absurd a h3
    | ok _ _ a _ => exact absurd a h3
theorem c_build_no (w : World) {B N c : Nat} {A : Option Addr} {L : List Pr} {every err : Int} (hp : Prs w B A N L) (hB : B ≤ w.heap.size) (h : badE (L.map Pr.pl) every err) (hN : N ≤ 1099511627776) :
    Calls Try.prog 30 #[.slice A N c, .int .i64 every] w fun e w' => e = .panicked [{ v := blFailVal err, recovered := false }] ∧ Below w.heap.size w w' := by
  rcases h with ⟨rfl, h⟩ | ⟨rfl, h1, h2, h3⟩
  · exact c_build_range w every h
  · obtain ⟨ev, rfl⟩ : ∃ ev : Nat, every = (ev : Int) := ⟨every.toNat, by omega⟩
    exact c_build_rise w hp hB (by omega) (by omega) h3 hN
set_option maxRecDepth 40000 in
set_option maxHeartbeats 800000 in
theorem c_Build1_no (W : World) (bl be bo : Nat) {B N c : Nat} {A : Option Addr} {L : List Pr} {every err : Int} (hp : Prs W B A N L) (hB : B ≤ W.heap.size) (h : badE (L.map Pr.pl) every err) (hN : N ≤ 1099511627776)
    (q0 : W.cell? ⟨bl, 0, none⟩ = some (.slice A N c)) (q1 : W.cell? ⟨be, 0, none⟩ = some (.int .i64 every)) :
    Calls Try.prog 29 #[.pointer (some ⟨bl, 0, none⟩), .pointer (some ⟨be, 0, none⟩), .pointer (some ⟨bo, 0, none⟩)] W fun e w' => e = .panicked [{ v := blFailVal err, recovered := false }] ∧ Below W.heap.size W w' := by
  have HC := Lib.hid (c_build_no W (c := c) hp hB h hN)
  clear h
  go_enter Try.func29, Try.ntmps29
  go_wp2_with fail
  refine HC.out.mono ?_
  rintro e W1 ⟨rfl, hb⟩
  exact ⟨rfl, rfl, hb⟩
theorem c_BuildG_no (W : World) (bl be bo : Nat) {B N c : Nat} {A : Option Addr} {L : List Pr} {every err : Int} (hp : Prs W B A N L) (hB : B ≤ W.heap.size) (h : badE (L.map Pr.pl) every err) (hN : N ≤ 1099511627776)
    (q0 : W.cell? ⟨bl, 0, none⟩ = some (.slice A N c)) (q1 : W.cell? ⟨be, 0, none⟩ = some (.int .i64 every)) :
    Calls Try.prog 28 #[.func (.func 29) #[] #[.pointer (some ⟨bl, 0, none⟩), .pointer (some ⟨be, 0, none⟩), .pointer (some ⟨bo, 0, none⟩)]] W fun e w' => e = .returned (.int .i64 err) ∧ Below W.heap.size W w' := by
  have HE := Bk.new_ W 26 #[.int .i64 0]
  have hbE := (Below.refl W.heap.size W).alloc (Nat.le_refl _) (.cells #[.int .i64 0] 26)
  have lb := World.block_lt_of_cell? W _ q0
  have le := World.block_lt_of_cell? W _ q1
  have hz : (W.alloc (.cells #[.int .i64 0] 26)).heap.size = W.heap.size + 1 := by simp
  dsimp only at lb le
  refine (c_blGuarded W 29 _ (fun e w' => e = .panicked [{ v := blFailVal err, recovered := false }] ∧ Below (W.alloc (.cells #[.int .i64 0] 26)).heap.size (W.alloc (.cells #[.int .i64 0] 26)) w') ?_ ?_ ?_).mono ?_
  · intro w; simp [go_sem]
  · exact c_Build1_no _ bl be bo (hp.below hbE hB) (by omega) h hN ((hbE.cell (p := ⟨bl, 0, none⟩) lb).trans q0) ((hbE.cell (p := ⟨be, 0, none⟩) le).trans q1)
  · rintro e w' ⟨rfl, hk⟩
    have h := HE.below hk (by omega)
    exact ⟨.inr ⟨_, rfl⟩, h.cell 0, h.frz 0⟩
  · rintro e w' ⟨e0, w1, ⟨rfl, hk⟩, he⟩
    rcases he with ⟨he, _⟩ | ⟨err', he, rfl, rfl⟩
    · cases he
    · simp only [Ending.panicked.injEq, List.cons.injEq, PanicEntry.mk.injEq, blFailVal, Value.iface.injEq, Value.agg.injEq, Array.mk.injEq, Value.int.injEq, and_true, true_and] at he
      subst he
      exact ⟨rfl, (hbE.trans (hk.mono (by omega))).setCell (Nat.le_refl _) _⟩
set_option maxRecDepth 40000 in
set_option maxHeartbeats 800000 in
theorem c_BlBuild_no (w : World) {B N c : Nat} {A : Option Addr} {L : List Pr} {every err : Int} (hp : Prs w B A N L) (hB : B ≤ w.heap.size) (h : badE (L.map Pr.pl) every err) (hN : N ≤ 1099511627776) :
    Calls Try.prog 10 #[.slice A N c, .int .i64 every] w fun e w' => e = .returned (.tuple #[.slice none 0 0, .int .i64 err]) ∧ Below w.heap.size w w' := by
  have hmf : ∀ (fn : Fn) (first cap : Array Value) (w : World), (Instr.makeFunc fn first cap).run Try.prog w = .ok (.func fn first cap) w := fun _ _ _ _ => rfl
  obtain ⟨H0, H1, H2, hsz, hBl⟩ := Bk.new3 w 22 #[.slice A N c] 3 #[.int .i64 every] 25 #[.slice none 0 0]
  have hne : (err == 0) = false := by rw [beq_eq_false_iff_ne]; exact badE_ne h
  have HC := Lib.hid (c_BuildG_no _ w.heap.size (w.heap.size + 1) (w.heap.size + 1 + 1) (hp.below hBl hB) (Nat.le_trans hB hBl.size) h hN (H0.cell 0) (H1.cell 0))
  clear H0 H1 H2 hsz h
  go_enter Try.func10, Try.ntmps10
  go_wp2_with fail
  refine HC.out.mono ?_
  rintro e w1 ⟨rfl, hb1⟩
  have hbw : Below w.heap.size w w1 := hBl.trans (hb1.mono hBl.size)
  go_wp2
  go_ret2
  exact ⟨rfl, hbw⟩
set_option maxRecDepth 40000 in
theorem c_Size_no (w : World) {B N c : Nat} {A : Option Addr} {L : List Pr} {every err : Int} (hp : Prs w B A N L) (hB : B ≤ w.heap.size) (h : badE (L.map Pr.pl) every err) (hN : N ≤ 1099511627776) :
    Calls Try.prog 12 #[.slice A N c, .int .i64 every] w fun e w' => e = .returned (.int .i64 (-1)) ∧ Below w.heap.size w w' := by
  have hne : (err == 0) = false := by rw [beq_eq_false_iff_ne]; exact badE_ne h
  have HC := Lib.hid (c_BlBuild_no w (c := c) hp hB h hN)
  clear h
  go_enter Try.func12, Try.ntmps12
  go_wp2_with fail
  refine HC.out.mono ?_
  rintro e w1 ⟨rfl, hb⟩
  go_wp2
  go_ret
  exact ⟨rfl, hb⟩
end Go.Proofs.Ytjcifmbbdofjiaa
