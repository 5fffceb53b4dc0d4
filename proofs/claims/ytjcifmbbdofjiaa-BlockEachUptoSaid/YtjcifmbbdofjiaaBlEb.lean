/- Layer 20: the walk of BlockEach. -/
import Derived.Test.YtjcifmbbdofjiaaBlEa
import Derived.Test.YtjcifmbbdofjiaaBlPa
namespace Go.Proofs.Ytjcifmbbdofjiaa
open Go.RowKit Go.Lec Go.Op Go.Shelf
attribute [local go_sem] Oper.semAt_some
theorem run_eql_seq (w : World) (g : Fn) (f c : Array Value) : (binOp .eql 60 (.func g f c) .nilFunc).run Try.prog w = .ok (.bool false) w := by
  have h : ∀ d : Nat, (Op.equalIn (d + 1) 60 (.func g f c) .nilFunc).run Try.prog w = .ok false w := fun d => by
    simp [Op.equalIn, run_underlying Try.underlying60]
  simp only [binOp]
  simp [Op.equal, Op.maxDepth, h 9999]
set_option maxRecDepth 100000 in
set_option maxHeartbeats 8000000 in
theorem w_BlockEach (w : World) {B N c B2 n2 c2 : Nat} {A A2 : Option Addr} {L : List Pr} {key : List UInt8} (every : Int) (hp : Prs w B A N L) (hB : B ≤ w.heap.size) (hf : tot (L.map Pr.pl) ≤ 8796093022208)
    (hkey : Rd w B2 A2 n2 (bcs key)) (hB2 : B2 ≤ w.heap.size) (hn2 : n2 ≤ 1099511627776) (hei : -9223372036854775808 ≤ every) (hei2 : every ≤ 9223372036854775807) :
    Calls Try.prog 6 #[.slice A N c, .int .i64 every, .slice A2 n2 c2] w fun e w' => e = .returned (.bool true) ∧ Below w.heap.size w w' := by
  have hnf := run_eql_seq
  have hb0 := ((Below.refl w.heap.size w).alloc (Nat.le_refl _) (.cells #[.slice A N c] 22)).alloc (by simp) (.cells #[.bool false] 4)
  have P0 := (Bk.new_ w 22 #[.slice A N c]).alloc (.cells #[.bool false] 4)
  have R0 := Bk.new_ (w.alloc (.cells #[.slice A N c] 22)) 4 #[.bool false]
  rw [World.size_alloc] at R0
  obtain ⟨w0, hw0⟩ : ∃ W, W = (w.alloc (.cells #[.slice A N c] 22)).alloc (.cells #[.bool false] 4) := ⟨_, rfl⟩
  rw [← hw0] at hb0 R0 P0
  obtain ⟨pl, hpl⟩ : ∃ x, x = w.heap.size := ⟨_, rfl⟩
  obtain ⟨r, hr⟩ : ∃ x, x = w.heap.size + 1 := ⟨_, rfl⟩
  rw [← hr] at R0
  rw [← hpl] at P0
  have HW0 := Lib.hid hw0
  have Hr := Lib.hid hr
  have Hpl := Lib.hid hpl
  have hwp : w.heap.size ≤ pl := by omega
  have hwr : w.heap.size ≤ r := by omega
  have hplr : pl < r := by omega
  clear hw0 hr hpl
  have hz0 := hb0.size
  have HA := Lib.hid (c_awake w0)
  refine (callsIn_wide (n := 5)).1 ?_
  refine callsIn_of_wp_marks Try.func6 rfl trivial ?_ rfl
  simp only [Try.ntmps6, List.size_toArray, List.length_cons, List.length_nil, Nat.reduceAdd, Nat.reduceSub, Array.replicate_succ, Array.replicate_zero, List.push_toArray, List.append_toArray, List.nil_append, List.cons_append]
  refine wpIn_wide.2 ?_
  go_wp2_with fail
  rw [← HW0.out, ← Hr.out, ← Hpl.out]
  refine HA.out.mono ?_
  rintro e w1 ⟨rfl, hb1⟩
  have hb01 : Below w.heap.size w w1 := hb0.trans (hb1.mono hz0)
  have P1 := P0.below hb1 P0.lt
  have R1 := R0.below hb1 R0.lt
  clear P0 R0
  have p1 := P1.cell
  have r1 := R1.cell
  have z1 := R1.frz
  have HF := Lib.hid (c_few w1 (c := c) (hp.below hb01 hB) (Nat.le_trans hB hb01.size) hf)
  by_cases hfew : tot (L.map Pr.pl) ≤ 4000
  · rw [decide_eq_true hfew] at HF
    by_cases hst : n2 ≤ 1000
    · have hsd : decide ((1000 : Int) < (n2 : Int)) = false := decide_eq_false (by omega)
      go_wp2_with (first | (go_at_call 9; refine HF.out.mono ?_; rintro e w2 ⟨rfl, hb2⟩; have hb02 : Below w.heap.size w w2 := hb01.trans (hb2.mono hb01.size); have R2 := R1.below hb2 R1.lt; have P2 := P1.below hb2 P1.lt; have p2 := P2.cell; have HBd := Lib.hid (c_rBuild w2 (c := c) every (hp.below hb02 hB) (Nat.le_trans hB hb02.size) (by omega) hei hei2)))
      refine HBd.out.mono ?_
      rintro e w3 ⟨err, b, Ab, cb, hRB, rfl, hcb, hRb, _, hb3⟩
      have hb03 : Below w.heap.size w w3 := hb02.trans (hb3.mono hb02.size)
      have R3 := R2.below hb3 R2.lt
      have P3 := P2.below hb3 P2.lt
      have z3 := R3.frz
      have q3 := R3.cell
      have e3 := (R3.set_ 0 (.bool true)).cell 0
      clear HBd HF HA hb1 hb2 hb02 hsd R1 R2 P1 P2 p1 p2 r1 z1
      cases hRB with
      | range h =>
        go_wp2
        refine ⟨.bool true, ?_, rfl, hb03.setCell (p := ⟨r, 0, none⟩) hwr _⟩
        simp [results, Try.results6, go_sem, e3]
      | rise h1 h2 h3 =>
        go_wp2
        refine ⟨.bool true, ?_, rfl, hb03.setCell (p := ⟨r, 0, none⟩) hwr _⟩
        simp [results, Try.results6, go_sem, e3]
      | long h1 h2 h3 h4 =>
        go_wp2
        refine ⟨.bool true, ?_, rfl, hb03.setCell (p := ⟨r, 0, none⟩) hwr _⟩
        simp [results, Try.results6, go_sem, e3]
      | ok h1 h2 hri h4 =>
        obtain ⟨ev, rfl⟩ : ∃ ev : Nat, every = (ev : Int) := ⟨every.toNat, by omega⟩
        rw [Int.toNat_natCast] at h4 hcb hRb ⊢
        obtain ⟨Lp, hLp⟩ : ∃ l, l = L.map Pr.pl := ⟨_, rfl⟩
        have hLpl : Lp.length = N := by rw [hLp, List.length_map, hp.len]
        rw [← hLp] at hfew hri h4 hcb hRb ⊢
        have hNf := tot_len Lp
        rw [hLpl] at hNf
        have he1 : 1 ≤ ev := by omega
        have he2 : ev ≤ 1024 := by omega
        have hck := ck_bld (every := ev) hri hfew he1 he2
        have hev := evOf_of Lp he1
        rw [hLpl] at hck hev
        have HX0 : ∀ X : List Ex, X.map Ex.en = ens Lp ev → X.length = N := fun X h => by
          have := congrArg List.length h
          rw [List.length_map, ens_len, hLpl] at this
          exact this
        have HN := Lib.hid ((c_New w3 (c := cb) hRb hcb (Nat.le_refl _) (by omega)).mono (R' := fun e w' => ∃ it L0 A3 c3 X, e = .returned (.tuple #[.pointer (some ⟨it, 0, none⟩), .int .i64 0]) ∧ Itr w' it L0 A3 N c3 X (evB N ev) (-1) 0 ∧ w3.heap.size ≤ it ∧ X.map Ex.en = ens Lp ev ∧ Below w3.heap.size w3 w') (by
          rintro e w' (⟨l, ps, it, L0, A3, n3, c3, X, hu, rfl, hI, hit, hX, hb⟩ | ⟨err, hu, _⟩)
          · rw [hck] at hu
            cases hu
            have h5 := HX0 X hX
            have h6 := hI.els.2.1
            rw [h5] at h6
            subst h6
            rw [hev] at hI
            exact ⟨it, L0, A3, c3, X, rfl, hI, hit, hX, hb⟩
          · rw [hck] at hu
            cases hu))
        have HLp := Lib.hid hLp
        have HLpl := Lib.hid hLpl
        have Hri := Lib.hid hri
        have hevp := evB_pos (n := N) he1
        have hevl := evB_le (n := N) he1
        clear hck hev HX0 hRb hcb hLp hLpl hri h4 h1 h2 hb3
        go_wp2_with fail
        refine HN.out.mono ?_
        rintro e w4 ⟨it, L0, A3, c3, X, rfl, hI, hit, hX, hb4⟩
        have HX := Lib.hid hX
        obtain ⟨ve, hve⟩ : ∃ x, x = evB N ev := ⟨_, rfl⟩
        rw [← hve] at hI hevp hevl
        have Hve := Lib.hid hve
        have hb04 : Below w.heap.size w w4 := hb03.trans (hb4.mono hb03.size)
        have R4 := R3.below hb4 R3.lt
        have P4 := P3.below hb4 P3.lt
        have HFi := Lib.hid (c_First w4 hI (by omega) (by omega))
        have hz34 := hb4.size
        have hz03 := hb03.size
        have hr3 := R3.lt
        clear hX HN hve R3 P3 z3 q3 e3 hI
        go_wp2_with fail
        refine HFi.out.mono ?_
        rintro e w5 ⟨rfl, hI5, hk5⟩
        rw [show ((0 : Nat) : Int) = 0 from rfl] at hI5
        obtain ⟨lk, hlk⟩ : ∃ x : Int, x = if 0 < N then 0 + 1 else 0 := ⟨_, rfl⟩
        rw [← hlk] at hI5
        have hb05 : Below w.heap.size w w5 := hb04.trans (hk5.below (by intro b hb; simp at hb; omega) hb04.size)
        have hitr : it ∉ [pl] ∧ it ∉ [r] := by constructor <;> (simp; omega)
        have R5 := R4.kb hk5 (by simp; omega)
        have P5 := P4.kb hk5 (by simp; omega)
        clear hlk R4 P4 HFi hk5
        have HEa := Lib.hid (c_Each w5 (some ⟨it, 0, none⟩) A2 n2 c2)
        go_wp2_with fail
        refine HEa.out.mono ?_
        rintro e w6 ⟨rfl, hw6⟩
        have hb56 : Below w5.heap.size w5 w6 := by rw [hw6]; exact ((Below.refl _ _).alloc (Nat.le_refl _) _).alloc (by simp) _
        have Bi := (Bk.new_ w5 45 #[.pointer (some ⟨it, 0, none⟩)]).alloc (.cells #[.slice A2 n2 c2] 25)
        have Bf := Bk.new_ (w5.alloc (.cells #[.pointer (some ⟨it, 0, none⟩)] 45)) 25 #[.slice A2 n2 c2]
        rw [World.size_alloc] at Bf
        rw [← hw6] at Bi Bf
        obtain ⟨bi, hbi⟩ : ∃ x, x = w5.heap.size := ⟨_, rfl⟩
        obtain ⟨bf, hbf⟩ : ∃ x, x = w5.heap.size + 1 := ⟨_, rfl⟩
        rw [← hbf] at Bf ⊢
        rw [← hbi] at Bi ⊢
        have hb06 : Below w.heap.size w w6 := hb05.trans (hb56.mono hb05.size)
        have R6 := R5.below hb56 R5.lt
        have P6 := P5.below hb56 P5.lt
        have hI6 := hI5.below hb56
        have hz56 := hb56.size
        have hz05 := hb05.size
        have hr5 := R5.lt
        have hcn := fun (lb : Array Value) (W : World) => hnf W (.func 44) #[] lb
        clear hw6 R5 P5 hI5 HEa hbi hbf hnf
        go_wp2
        obtain ⟨k0, hk0⟩ : ∃ x, x = (findF (X.map Ex.en) ve key).1 := ⟨_, rfl⟩
        have hkl : findL Lp key = k0 := by rw [hk0, HX.out]; exact (find_of Hri.out key ve hevp).symm
        have hk0N : k0 ≤ N := by
          have h1 := findF_le (X.map Ex.en) ve key hevp
          rw [← hk0, HX.out, ens_len, HLpl.out] at h1
          exact h1
        have hkit : 0 < n2 → ∀ a, A2 = some a → a.block ∉ [it] := fun h0 a ha => by
          obtain ⟨b', o', e', hb', _⟩ := hkey.2 h0
          rw [ha] at e'
          cases e'
          simp; omega
        have hev6 : ve ≤ 1048576 := by omega
        have hB6 : B2 ≤ w6.heap.size := by omega
        have HSeq := Lib.hid (each_X 4 (by omega) bi bf w6 hI6 hev6 hevp (hkey.below hb06 hB2) hB6 hkit Bi Bf k0 hk0)
        have Hkl := Lib.hid hkl
        have HFd := Lib.hid (fun (V : World) (h : Below w6.heap.size w6 V) => (c_rFind V (c := c) (c2 := c2) (hp.below (hb06.trans (h.mono hb06.size)) hB) (Nat.le_trans hB (Nat.le_trans hb06.size h.size)) (hkey.below (hb06.trans (h.mono hb06.size)) hB2) (Nat.le_trans hB2 (Nat.le_trans hb06.size h.size)) (by omega)).mono (R' := fun e w' => e = .returned (.int .i64 (k0 : Int)) ∧ Below V.heap.size V w') (by rintro e w' ⟨rfl, hb⟩; exact ⟨by rw [← HLp.out, hkl], hb⟩))
        have HI6 := Lib.hid hI6
        clear hk0 hkl hkit Bi Bf
        refine (wpIn_wide (n := 5)).1 ?_
        refine range_X (n := 5) (by omega) (gf := 44) (lb := #[.pointer (some ⟨bi, 0, none⟩), .pointer (some ⟨bf, 0, none⟩)]) rfl (enters_of Try.func44 (by kernel_rfl) rfl)
          HSeq.out belowK_t (belowK_b (Nat.le_refl _)) (Below.refl _ _) (fun _ => rfl)
          (fun _ W => Below w6.heap.size w6 W) (fun c' _ W => c' = .exit 0 ∧ Below w6.heap.size w6 W) (ownFrom_below (Nat.le_refl _) (Nat.le_refl _))
          (fun c' => (ownFrom_pure _ _).and (ownFrom_below (Nat.le_refl _) (Nat.le_refl _))) (Below.refl _ _) (fun _ _ _ _ => True) (fun _ _ => fun _ _ _ _ _ _ _ => trivial) ?assign ?body ?done ?stop
        case assign =>
          intro l pre x W hI _
          gi_wp2
          exact ⟨KeepsFrom.refl _ _, Below.refl _ _, hI, trivial⟩
        case body =>
          intro l pre x a' W hI _ _
          gi_wp2
          exact ⟨KeepsFrom.refl _ _, rfl, hI⟩
        case' done =>
          rintro D ys W hD _ hBW hK
          dsimp only
        case' stop =>
          rintro D c' pre W hD _ ⟨rfl, hBW⟩ hK
          gi_wp2
        all_goals
          have hDs : D < W.heap.size := (Array.getElem?_eq_some_iff.1 hK).1
          have hz6 := hBW.size
          have R7 := R6.below hBW R6.lt
          have P7 := P6.below hBW P6.lt
          have p7 := P7.cell
          have HFd1 := Lib.hid (HFd.out W hBW)
          go_wp2_with (first | (go_at_call 24; (with_reducible refine HFd1.out.mono ?_); rintro e w8 ⟨rfl, hb8⟩))
          have hb9 := hb8.alloc hb8.size (.cells #[.int .i64 (k0 : Int)] 3)
          have K9 := Bk.new_ w8 3 #[.int .i64 (k0 : Int)]
          have hz9 : (w8.alloc (.cells #[.int .i64 (k0 : Int)] 3)).heap.size = w8.heap.size + 1 := by simp
          obtain ⟨kb, hkb⟩ : ∃ x, x = w8.heap.size := ⟨_, rfl⟩
          obtain ⟨w9, hw9⟩ : ∃ x, x = w8.alloc (.cells #[.int .i64 (k0 : Int)] 3) := ⟨_, rfl⟩
          rw [← hkb] at K9 hz9 ⊢
          rw [← hw9] at K9 hz9 hb9 ⊢
          have hDk : D < kb := by have := hb8.size; omega
          have M9 : w9.heap[D]? = some (.deferred (some [])) := by
            have h1 := (hb8.block D hDs).trans hK
            rw [hw9]
            exact (Below.heap_alloc _ _ _ (by omega)).trans h1
          have hb69 : Below w6.heap.size w6 w9 := hBW.trans (hb9.mono hz6)
          have hz69 := hb69.size
          have h6k : w6.heap.size ≤ kb := by have := hb8.size; omega
          have HZ9 := Lib.hid hz9
          have HW9 := Lib.hid hw9
          have Hkb := Lib.hid hkb
          have lk9 := K9.lt
          clear hw9 hkb hb8 hb9 hK R7 P7 p7 HFd1
          refine (wpIn_wide (n := 5)).1 ?_
          refine range_X (n := 5) (by omega) (gf := 44) (lb := #[.pointer (some ⟨bi, 0, none⟩), .pointer (some ⟨bf, 0, none⟩)]) rfl (enters_of Try.func44 (by kernel_rfl) rfl)
            HSeq.out belowK_t (belowK_b hz69) hb69 (fun _ => rfl)
            (fun pre W => (Bk W kb 3 #[.int .i64 ((k0 + pre.length : Nat) : Int)] ∧ W.heap[D]? = some (.deferred (some []))) ∧ Below w6.heap.size w6 W) (fun c' _ W => False)
            (fun s X Y row h hg hr => ⟨⟨h.1.1.kept hg (fun r e => (hr r e).2), (hg.block D (Array.getElem?_eq_some_iff.1 h.1.2).1 (fun e => by have := (hr D e.symm).1; omega)).trans h.1.2⟩, h.2.grown hg h.2.size (fun k e => by have := (hr k e).1; omega)⟩)
            (fun c' s X Y row h hg hr => h) ⟨⟨K9, M9⟩, hb69⟩
            (fun pre m a' W => (∃ M, M ≤ W.heap.size ∧ m.ok W M) ∧ (∃ x, (X.map Ex.en)[k0 + pre.length]? = some x ∧ m.pl = (x.key, x.val)) ∧ a' = { tmps := #[.slice A N c, .int .i64 (ev : Int), .slice A2 n2 c2, .pointer (some ⟨pl, 0, none⟩), undef, undef, .pointer (some ⟨r, 0, none⟩), .slice Ab (bld Lp ev).length cb, .int .i64 0, .pointer (some ⟨it, 0, none⟩), .int .i64 0, .bool (decide (0 < N)), .func (.func 44) #[] #[.pointer (some ⟨bi, 0, none⟩), .pointer (some ⟨bf, 0, none⟩)], .pointer (some ⟨kb, 0, none⟩), .slice m.A1 m.n1 m.c1, .slice m.A2 m.n2 m.c2, undef, undef, .bool true, .bool false, .slice A N c, .bool true, .bool false, .bool false, .slice A2 n2 c2, .int .i64 (n2 : Int), .bool false, .bool false, .tuple #[.slice Ab (bld Lp ev).length cb, .int .i64 0], .slice A N c, .int .i64 (ev : Int), .tuple #[.slice Ab (bld Lp ev).length cb, .int .i64 0], .slice Ab (bld Lp ev).length cb, .int .i64 0, .int .i64 0, .bool false, .tuple #[.pointer (some ⟨it, 0, none⟩), .int .i64 0], .slice Ab (bld Lp ev).length cb, .tuple #[.pointer (some ⟨it, 0, none⟩), .int .i64 0], .pointer (some ⟨it, 0, none⟩), .int .i64 0, .int .i64 0, .bool false, .bool false, .pointer (some ⟨it, 0, none⟩), .bool false, .bool false, .pointer (some ⟨it, 0, none⟩), .bool (decide (0 < N)), .pointer (some ⟨it, 0, none⟩), .slice A2 n2 c2, .func (.func 44) #[] #[.pointer (some ⟨bi, 0, none⟩), .pointer (some ⟨bf, 0, none⟩)], .func (.func 44) #[] #[.pointer (some ⟨bi, 0, none⟩), .pointer (some ⟨bf, 0, none⟩)], .bool false, .func (.func 44) #[] #[.pointer (some ⟨bi, 0, none⟩), .pointer (some ⟨bf, 0, none⟩)], undef, undef, .slice A N c, .slice A2 n2 c2, .int .i64 (k0 : Int), .func (.func 44) #[] #[.pointer (some ⟨bi, 0, none⟩), .pointer (some ⟨bf, 0, none⟩)], .slice m.A1 m.n1 m.c1, .slice m.A2 m.n2 m.c2, undef, undef, undef, undef, undef, undef, undef, undef, undef, undef, undef, undef, undef, undef, undef, undef, undef, undef, undef, undef, undef, undef, undef, undef, undef, undef, undef, undef, undef, undef, undef, undef, undef, undef, undef, undef, undef, undef, undef, undef, undef, undef, undef, undef, undef, undef, undef, undef, undef, undef, undef, undef, undef, undef, undef, undef, undef], defers := [] })
            (fun pre m s X Y row h hg hr => by
              obtain ⟨⟨M, h1, h2⟩, h3⟩ := h
              exact ⟨⟨M, Nat.le_trans h1 hg.size, h2.1.kept hg (fun r e => (hr r e).2), h2.2.1.kept hg (fun r e => (hr r e).2), h2.2.2⟩, h3⟩) ?_ ?_ ?_ ?_
          · rintro l pre m W ⟨⟨h1, h2⟩, h3⟩ ⟨hok, hn1, hn2, hx⟩
            have HX := Lib.hid (show (∃ M, M ≤ W.heap.size ∧ m.ok W M) from ⟨_, Nat.le_refl _, hok⟩)
            have HY := Lib.hid hx
            have HI := Lib.hid (show (Bk W kb 3 #[.int .i64 ((k0 + pre.length : Nat) : Int)] ∧ W.heap[D]? = some (.deferred (some []))) ∧ Below w6.heap.size w6 W from ⟨⟨h1, h2⟩, h3⟩)
            clear hok hx h1 h2 h3
            gi_wp2
            exact ⟨KeepsFrom.refl _ _, Below.refl _ _, HI.out, HX.out, HY.out, by first | rfl | trivial⟩
          · rintro l pre m a' W ⟨⟨h1, h2⟩, h3⟩ ⟨⟨M, hM, hok⟩, hx, rfl⟩ hlen
            obtain ⟨k, hk⟩ : ∃ x, x = k0 + pre.length := ⟨_, rfl⟩
            rw [← hk] at h1 hx
            obtain ⟨x, hx1, hx2⟩ := hx
            have hkN : k < N := by omega
            have hbw : Below w.heap.size w W := hb06.trans (h3.mono hb06.size)
            have P7 := P6.below h3 P6.lt
            have p7 := P7.cell
            have lpW := P7.lt
            obtain ⟨bb, oo, m0, rfl, hbB, hmk, _, hmok0, hcell⟩ := hp.cell2 hkN
            obtain ⟨c0, c1⟩ := hcell W (hbw.mono hB)
            have hok0 := hmok0.below (hbw.mono hB) (Nat.le_refl _)
            have heq : m.pl = m0.pl := by
              have h5 := ens_pr Lp ev
              have h6 : Lp[k]? = some (x.key, x.val) := by
                rw [← h5, ← HX.out, List.getElem?_map, hx1]; rfl
              have h7 : Lp[k]? = some m0.pl := by rw [HLp.out, List.getElem?_map, hmk]; rfl
              rw [hx2]
              exact Option.some.inj (h6.symm.trans h7)
            have hbW : bb < W.heap.size := by have := hbw.size; omega
            have Hk := Lib.hid hk
            clear hmk hmok0 hcell hx1 hx2 hk
            obtain ⟨D1, n3, d1, key1, D3, n4, d2, vl⟩ := m
            obtain ⟨E1, n5, e1, key2, E2, n6, e2, vl'⟩ := m0
            simp only [Pr.pl, Prod.mk.injEq] at heq
            obtain ⟨rfl, rfl⟩ := heq
            have s1 : ∀ q, (convert 25 9 (.slice D1 n3 d1)).run Try.prog (W.drewN q) = .ok (.string ⟨key1.toArray⟩) (W.drewN q) := fun q => run_str (P := Try.prog) Try.underlying25 Try.underlying5 Try.underlying9 (c := d1) (hok.1.drewN q)
            have s2 : ∀ q, (convert 25 9 (.slice D3 n4 d2)).run Try.prog (W.drewN q) = .ok (.string ⟨vl.toArray⟩) (W.drewN q) := fun q => run_str (P := Try.prog) Try.underlying25 Try.underlying5 Try.underlying9 (c := d2) (hok.2.1.drewN q)
            have s3 : ∀ q, (convert 25 9 (.slice E1 n5 e1)).run Try.prog (W.drewN q) = .ok (.string ⟨key1.toArray⟩) (W.drewN q) := fun q => run_str (P := Try.prog) Try.underlying25 Try.underlying5 Try.underlying9 (c := e1) (hok0.1.drewN q)
            have s4 : ∀ q, (convert 25 9 (.slice E2 n6 e2)).run Try.prog (W.drewN q) = .ok (.string ⟨vl.toArray⟩) (W.drewN q) := fun q => run_str (P := Try.prog) Try.underlying25 Try.underlying5 Try.underlying9 (c := e2) (hok0.2.1.drewN q)
            have k7 := h1.cell
            have kz := h1.frz
            have i1 : (0 : Int) ≤ (k : Int) := by omega
            have i2 : (k : Int) < (N : Int) := by omega
            have i3 : decide ((N : Int) ≤ (k : Int)) = false := decide_eq_false (by omega)
            have i4 : decide (N ≤ k) = false := decide_eq_false (by omega)
            have i5 : ¬ N ≤ k := by omega
            dsimp only at *
            clear hok hok0
            gi_wp2
            refine wpIn_region_quiet_round (by kernel_rfl) (by kernel_rfl) (by kernel_rfl) ?_
            repeat (go_big_quiet_step (fail))
            refine wpQuiet_nil ?_
            rintro _ ⟨nq, rfl⟩
            gi_wp2
            have hk1 : Bk ((W.drewN nq).setCell ⟨kb, 0, none⟩ (.int .i64 ((k : Int) + 1))) kb 3 #[.int .i64 ((k : Int) + 1)] := (h1.drewN nq).set_ 0 _
            have g := grownBy_set (W.drewN nq) ⟨kb, 0, none⟩ (.int .i64 ((k : Int) + 1))
            refine ⟨KeepsFrom.of_grownBy (row := some kb) ⟨g.os, g.tape, g.output, g.size, g.block⟩ (fun j e => by cases e; exact lk9), (belowN (Below.refl _ _) nq).setCell (p := ⟨kb, 0, none⟩) h6k _, ⟨⟨?_, ?_⟩, (belowN h3 nq).setCell (p := ⟨kb, 0, none⟩) h6k _⟩⟩
            · rw [List.length_append, List.length_singleton, ← Nat.add_assoc, ← Hk.out]
              exact hk1
            · exact (Below.heap_setCell _ _ _ _ (by dsimp only; omega)).trans h2
          · rintro D2 xs W hD2 hS ⟨⟨h1, h2⟩, h3⟩ hM
            have hxs : k0 + xs.length = N := by omega
            rw [hxs] at h1
            dsimp only
            have hbw : Below w.heap.size w W := hb06.trans (h3.mono hb06.size)
            have R8 := R6.below h3 R6.lt
            have P8 := P6.below h3 P6.lt
            have HPa := Lib.hid (c_Pair W (HI6.out.below h3))
            have hD2l : D2 < W.heap.size := (Array.getElem?_eq_some_iff.1 hM).1
            have hlW := h1.lt
            clear hxs hS
            go_wp2_with fail
            refine HPa.out.mono ?_
            rintro e w10 (⟨x, hx0, hx, u, rfl, m, rfl, hmok, hmhi, hmpl, hn1, hn2, hb10⟩ | ⟨hno, rfl, hb10⟩)
            · have hbA := hb10.alloc hb10.size (.cells #[.slice m.A1 m.n1 m.c1, .slice m.A2 m.n2 m.c2] 35)
              have hbB := (Below.refl w10.heap.size w10).alloc (Nat.le_refl _) (.cells #[.slice m.A1 m.n1 m.c1, .slice m.A2 m.n2 m.c2] 35)
              have G8 := Bk.new_ w10 35 #[.slice m.A1 m.n1 m.c1, .slice m.A2 m.n2 m.c2]
              have hN0 : 0 < N := by
                have h5 := (List.getElem?_eq_some_iff.1 hx).1
                rw [HX.out, ens_len, HLpl.out] at h5
                omega
              have hdN : decide (0 < N) = true := decide_eq_true hN0
              have K11 := h1.below hbA hlW
              have P11 := P8.below hbA P8.lt
              have R11 := R8.below hbA R8.lt
              have hm11 := hmok.below hbB (Nat.le_refl _)
              have hbw11 : Below w.heap.size w _ := hbw.trans (hbA.mono hbw.size)
              have hzA := hbA.size
              have hD11 := (hbA.block D2 hD2l).trans hM
              have hD12 := (hbA.block D (by omega)).trans h2
              have hzW11 := hbB.size
              obtain ⟨bb, oo, m0, rfl, hbB0, hmk, _, hmok0, hcell⟩ := hp.cell2 hN0
              obtain ⟨c0, _⟩ := hcell _ (hbw11.mono hB)
              rw [Nat.zero_mul, Nat.add_zero] at c0
              have hok0 := hmok0.below (hbw11.mono hB) (Nat.le_refl _)
              have heq : m.pl = m0.pl := by
                have h5 := ens_pr Lp ev
                have h6 : Lp[0]? = some (x.key, x.val) := by
                  rw [← h5, ← HX.out, List.getElem?_map, show (List.map Ex.en X)[0]? = some x from hx]; rfl
                have h7 : Lp[0]? = some m0.pl := by rw [HLp.out, List.getElem?_map, hmk]; rfl
                rw [hmpl]
                exact Option.some.inj (h6.symm.trans h7)
              have hrW : r < W.heap.size := R8.lt
              have hrq : r < w10.heap.size := by have := hb10.size; omega
              have hmh := hmhi
              clear hmk hmok0 hcell hx hmok hmhi hmpl hbB hn1 hn2 HPa
              obtain ⟨D1, n3, d1, key1, D3, n4, d2, vl⟩ := m
              obtain ⟨E1, n5, e1, key2, E2, n6, e2, vl'⟩ := m0
              simp only [Pr.pl, Prod.mk.injEq] at heq
              obtain ⟨rfl, rfl⟩ := heq
              dsimp only at *
              go_upto_region 24 with fail
              obtain ⟨W11, hW11⟩ : ∃ x, x = w10.alloc (.cells #[.slice D1 n3 d1, .slice D3 n4 d2] 35) := ⟨_, rfl⟩
              obtain ⟨q0, hq0⟩ : ∃ x, x = w10.heap.size := ⟨_, rfl⟩
              rw [← hW11] at K11 P11 R11 G8 hm11 hok0 hbw11 hzA hD11 hD12 hbA c0 hzW11 ⊢
              rw [← hq0] at G8 ⊢
              rw [← hq0] at hrq
              have hm12 : Pr.ok W11.drew W11.drew.heap.size ⟨D1, n3, d1, key1, D3, n4, d2, vl⟩ := hm11.more hzW11
              have hmh12 := hmh
              clear hW11 hq0 hb10 h1 h2 P8 R8
              have HK := Lib.hid (show W11.drew.cell? ⟨kb, 0, none⟩ = some (.int .i64 (N : Int)) ∧ W11.drew.cell? ⟨pl, 0, none⟩ = some (.slice (some ⟨bb, oo, none⟩) N c) ∧ W11.drew.cell? ⟨q0, 0, none⟩ = some (.slice D1 n3 d1) ∧ W11.drew.cell? ⟨bb, oo, none⟩ = some (.slice E1 n5 e1) ∧ (convert 25 9 (.slice D1 n3 d1)).run Try.prog W11.drew = .ok (.string ⟨key1.toArray⟩) W11.drew ∧ (convert 25 9 (.slice E1 n5 e1)).run Try.prog W11.drew = .ok (.string ⟨key1.toArray⟩) W11.drew from
                ⟨K11.drew.cell 0, P11.drew.cell 0, G8.drew.cell 0, c0, run_str (P := Try.prog) Try.underlying25 Try.underlying5 Try.underlying9 (c := d1) hm11.1.drew, run_str (P := Try.prog) Try.underlying25 Try.underlying5 Try.underlying9 (c := e1) hok0.1.drew⟩)
              have hbr := (Below.refl B W11.drew).setCell (p := ⟨r, 0, none⟩) (Nat.le_trans hB hwr) (.bool true)
              have hcr : ∀ b' o', b' ≠ r → (W11.drew.setCell ⟨r, 0, none⟩ (.bool true)).cell? ⟨b', o', none⟩ = W11.drew.cell? ⟨b', o', none⟩ := fun b' o' h => World.cell?_of_block (Below.heap_setCell _ _ _ _ h)
              have HK2 := Lib.hid (show (W11.drew.setCell ⟨r, 0, none⟩ (.bool true)).cell? ⟨kb, 0, none⟩ = some (.int .i64 (N : Int)) ∧ (W11.drew.setCell ⟨r, 0, none⟩ (.bool true)).cell? ⟨pl, 0, none⟩ = some (.slice (some ⟨bb, oo, none⟩) N c) ∧ (W11.drew.setCell ⟨r, 0, none⟩ (.bool true)).cell? ⟨q0, 0, none⟩ = some (.slice D1 n3 d1) ∧ (W11.drew.setCell ⟨r, 0, none⟩ (.bool true)).cell? ⟨bb, oo, none⟩ = some (.slice E1 n5 e1) ∧ (convert 25 9 (.slice D1 n3 d1)).run Try.prog (W11.drew.setCell ⟨r, 0, none⟩ (.bool true)) = .ok (.string ⟨key1.toArray⟩) (W11.drew.setCell ⟨r, 0, none⟩ (.bool true)) ∧ (convert 25 9 (.slice E1 n5 e1)).run Try.prog (W11.drew.setCell ⟨r, 0, none⟩ (.bool true)) = .ok (.string ⟨key1.toArray⟩) (W11.drew.setCell ⟨r, 0, none⟩ (.bool true)) from
                ⟨(hcr _ _ (by omega)).trans (K11.drew.cell 0), (hcr _ _ (by omega)).trans (P11.drew.cell 0), (hcr _ _ (by omega)).trans (G8.drew.cell 0), (hcr _ _ (by omega)).trans c0,
                  run_str (P := Try.prog) Try.underlying25 Try.underlying5 Try.underlying9 (c := d1) (hm12.setLow hmh12 (p := ⟨r, 0, none⟩) hrW _).1, run_str (P := Try.prog) Try.underlying25 Try.underlying5 Try.underlying9 (c := e1) (hok0.1.drew.below hbr (Nat.le_refl _))⟩)
              have rz := R11.drew.frz
              have rc := R11.drew.cell
              have i1 : (0 : Int) < (N : Int) := by omega
              go_region_held3 (fun W' => W'.cell? ⟨kb, 0, none⟩ = some (.int .i64 (N : Int)) ∧ W'.cell? ⟨pl, 0, none⟩ = some (.slice (some ⟨bb, oo, none⟩) N c) ∧ W'.cell? ⟨q0, 0, none⟩ = some (.slice D1 n3 d1) ∧ W'.cell? ⟨bb, oo, none⟩ = some (.slice E1 n5 e1) ∧ (convert 25 9 (.slice D1 n3 d1)).run Try.prog W' = .ok (.string ⟨key1.toArray⟩) W' ∧ (convert 25 9 (.slice E1 n5 e1)).run Try.prog W' = .ok (.string ⟨key1.toArray⟩) W')
                (first | exact HK.out | exact HK2.out) (fail)
              go_wp2
              have hrd : r ≠ D2 ∧ D2 ≠ r ∧ D ≠ r ∧ D ≠ D2 := by have := R6.lt; omega
              have e9 : ((W11.setCell ⟨r, 0, none⟩ (.bool true)).drew).cell? ⟨r, 0, none⟩ = some (.bool true) := (R11.set_ 0 (.bool true)).cell 0
              have hKa : ((W11.setCell ⟨r, 0, none⟩ (.bool true)).drew).heap[D2]? = some (.deferred (some [])) := (Below.heap_setCell W11 ⟨r, 0, none⟩ (.bool true) D2 hrd.2.1).trans hD11
              have hKb : ((W11.setCell ⟨r, 0, none⟩ (.bool true)).drew).heap[D]? = some (.deferred (some [])) := (Below.heap_setCell W11 ⟨r, 0, none⟩ (.bool true) D hrd.2.2.1).trans hD12
              obtain ⟨Wf, hWf⟩ : ∃ x, x = (W11.setCell ⟨r, 0, none⟩ (.bool true)).drew := ⟨_, rfl⟩
              have hbf : Below w.heap.size w Wf := by rw [hWf]; exact (hbw11.setCell (p := ⟨r, 0, none⟩) hwr (.bool true)).drew
              rw [← hWf] at e9 hKa hKb ⊢
              clear hWf
              have hKc := ((grownBy_putObj' Wf D2 (.deferred none)).block D (Array.getElem?_eq_some_iff.1 hKb).1 (fun e => hrd.2.2.2 (Option.some.inj e))).trans hKb
              refine ⟨by simp, .inl ⟨_, _, rfl, run_takeDeferred hKa, ?_⟩⟩
              refine ⟨by simp, .inl ⟨_, _, rfl, run_takeDeferred hKc, ?_⟩⟩
              have f3 := cell_kept (v := .bool true) e9 (grownBy_putObj' _ D2 (.deferred none)) (fun r' e => by cases e; exact ⟨_, hKa, rfl⟩)
              have f4 := cell_kept (v := .bool true) f3 (grownBy_putObj' _ D (.deferred none)) (fun r' e => by cases e; exact ⟨_, hKc, rfl⟩)
              refine ⟨.bool true, ?_, rfl, (hbf.trans (belowK_b (w := w) (Nat.le_refl _) _ D2 _ _ (by omega) hKa rfl rfl)).trans (belowK_b (w := w) (Nat.le_refl _) _ D _ _ (by omega) hKc rfl rfl)⟩
              simp [results, Try.results6, go_sem, f4]
            · have hbA := hb10.alloc hb10.size (.cells #[.slice none 0 0, .slice none 0 0] 35)
              have hN0 : ¬ 0 < N := by
                intro h0
                refine hno ⟨Int.le_refl _, ?_⟩
                rw [HX.out, ens_len, HLpl.out]
                omega
              have hdN : decide (0 < N) = false := decide_eq_false hN0
              have K11 := h1.below hbA hlW
              have P11 := P8.below hbA P8.lt
              have R11 := R8.below hbA R8.lt
              have hbw11 : Below w.heap.size w _ := hbw.trans (hbA.mono hbw.size)
              have hzA := hbA.size
              have hD11 := (hbA.block D2 hD2l).trans hM
              have hD12 := (hbA.block D (by omega)).trans h2
              have hrW : r < W.heap.size := R8.lt
              go_upto_region 24 with fail
              obtain ⟨W11, hW11⟩ : ∃ x, x = w10.alloc (.cells #[.slice none 0 0, .slice none 0 0] 35) := ⟨_, rfl⟩
              rw [← hW11] at K11 P11 R11 hbw11 hzA hD11 hD12 hbA ⊢
              clear hW11 hb10 h1 h2 P8 R8
              have hcr : ∀ b' o', b' ≠ r → (W11.drew.setCell ⟨r, 0, none⟩ (.bool true)).cell? ⟨b', o', none⟩ = W11.drew.cell? ⟨b', o', none⟩ := fun b' o' h => World.cell?_of_block (Below.heap_setCell _ _ _ _ h)
              have HK := Lib.hid (show W11.drew.cell? ⟨kb, 0, none⟩ = some (.int .i64 (N : Int)) ∧ W11.drew.cell? ⟨pl, 0, none⟩ = some (.slice A N c) from ⟨K11.drew.cell 0, P11.drew.cell 0⟩)
              have HK2 := Lib.hid (show (W11.drew.setCell ⟨r, 0, none⟩ (.bool true)).cell? ⟨kb, 0, none⟩ = some (.int .i64 (N : Int)) ∧ (W11.drew.setCell ⟨r, 0, none⟩ (.bool true)).cell? ⟨pl, 0, none⟩ = some (.slice A N c) from
                ⟨(hcr _ _ (by omega)).trans (K11.drew.cell 0), (hcr _ _ (by omega)).trans (P11.drew.cell 0)⟩)
              have rz := R11.drew.frz
              have rc := R11.drew.cell
              have hHeld : (fun W' : World => W'.cell? ⟨kb, 0, none⟩ = some (.int .i64 (N : Int)) ∧ W'.cell? ⟨pl, 0, none⟩ = some (.slice A N c)) _ := HK.out
              refine wp_region_noPanic ?_
              refine wp_region_held (S := fun W' : World => W'.cell? ⟨kb, 0, none⟩ = some (.int .i64 (N : Int)) ∧ W'.cell? ⟨pl, 0, none⟩ = some (.slice A N c)) (by kernel_rfl) ?_
              simp only [List.size_toArray, List.length_cons, List.length_nil, Nat.reduceAdd]
              refine heldTake (i := 0) (v := ?_) rfl (by kernel_rfl) (by kernel_rfl) (by kernel_rfl) (fun _ _ _ h => h) hHeld (by rfl) ?_ ?_
              rotate_left
              · (intro w hSw; (try dsimp only at hSw); go_simp; try with_reducible rfl)
              try simp only [Act.put, List.setIfInBounds_toArray, List.set_cons_zero, List.set_cons_succ]
              refine heldTake (i := 1) (v := ?_) rfl (by kernel_rfl) (by kernel_rfl) (by kernel_rfl) (fun _ _ _ h => h) hHeld (by rfl) ?_ ?_
              rotate_left
              · (intro w hSw; (try dsimp only at hSw); go_simp; try with_reducible rfl)
              try simp only [Act.put, List.setIfInBounds_toArray, List.set_cons_zero, List.set_cons_succ]
              refine heldTake (i := 2) (v := ?_) rfl (by kernel_rfl) (by kernel_rfl) (by kernel_rfl) (fun _ _ _ h => h) hHeld (by rfl) ?_ ?_
              rotate_left
              · (intro w hSw; (try dsimp only at hSw); go_simp; try with_reducible rfl)
              try simp only [Act.put, List.setIfInBounds_toArray, List.set_cons_zero, List.set_cons_succ]
              refine heldTake (i := 3) (v := ?_) rfl (by kernel_rfl) (by kernel_rfl) (by kernel_rfl) (fun _ _ _ h => h) hHeld (by rfl) ?_ ?_
              rotate_left
              · (intro w hSw; (try dsimp only at hSw); go_simp; try with_reducible rfl)
              try simp only [Act.put, List.setIfInBounds_toArray, List.set_cons_zero, List.set_cons_succ]
              refine heldTake (i := 4) (v := ?_) rfl (by kernel_rfl) (by kernel_rfl) (by kernel_rfl) (fun _ _ _ h => h) hHeld (by rfl) ?_ ?_
              rotate_left
              · (intro w hSw; (try dsimp only at hSw); go_simp; try with_reducible rfl)
              try simp only [Act.put, List.setIfInBounds_toArray, List.set_cons_zero, List.set_cons_succ]
              refine heldTake (i := 5) (v := ?_) rfl (by kernel_rfl) (by kernel_rfl) (by kernel_rfl) (fun _ _ _ h => h) hHeld (by rfl) ?_ ?_
              rotate_left
              · (intro w hSw; (try dsimp only at hSw); go_simp; try with_reducible rfl)
              try simp only [Act.put, List.setIfInBounds_toArray, List.set_cons_zero, List.set_cons_succ]
              refine heldTake (i := 6) (v := ?_) rfl (by kernel_rfl) (by kernel_rfl) (by kernel_rfl) (fun _ _ _ h => h) hHeld (by rfl) ?_ ?_
              rotate_left
              · (intro w hSw; (try dsimp only at hSw); go_simp; try with_reducible rfl)
              try simp only [Act.put, List.setIfInBounds_toArray, List.set_cons_zero, List.set_cons_succ]
              refine heldTake (i := 7) (v := ?_) rfl (by kernel_rfl) (by kernel_rfl) (by kernel_rfl) (fun _ _ _ h => h) hHeld (by rfl) ?_ ?_
              rotate_left
              · (intro w hSw; (try dsimp only at hSw); go_simp; try with_reducible rfl)
              try simp only [Act.put, List.setIfInBounds_toArray, List.set_cons_zero, List.set_cons_succ]
              refine heldTake (i := 8) (v := ?_) rfl (by kernel_rfl) (by kernel_rfl) (by kernel_rfl) (fun _ _ _ h => h) hHeld (by rfl) ?_ ?_
              rotate_left
              · (intro w hSw; (try dsimp only at hSw); go_simp; try with_reducible rfl)
              try simp only [Act.put, List.setIfInBounds_toArray, List.set_cons_zero, List.set_cons_succ]
              refine heldTake (i := 9) (v := ?_) rfl (by kernel_rfl) (by kernel_rfl) (by kernel_rfl) (fun _ _ _ h => h) hHeld (by rfl) ?_ ?_
              rotate_left
              · (intro w hSw; (try dsimp only at hSw); go_simp; try with_reducible rfl)
              try simp only [Act.put, List.setIfInBounds_toArray, List.set_cons_zero, List.set_cons_succ]
              refine heldTake (i := 10) (v := ?_) rfl (by kernel_rfl) (by kernel_rfl) (by kernel_rfl) (fun _ _ _ h => h) hHeld (by rfl) ?_ ?_
              rotate_left
              · (intro w hSw; (try dsimp only at hSw); go_simp; try with_reducible rfl)
              try simp only [Act.put, List.setIfInBounds_toArray, List.set_cons_zero, List.set_cons_succ]
              refine heldTake (i := 11) (v := ?_) rfl (by kernel_rfl) (by kernel_rfl) (by kernel_rfl) (fun _ _ _ h => h) hHeld (by rfl) ?_ ?_
              rotate_left
              · (intro w hSw; (try dsimp only at hSw); go_simp; try with_reducible rfl)
              try simp only [Act.put, List.setIfInBounds_toArray, List.set_cons_zero, List.set_cons_succ]
              refine heldTake (i := 12) (v := ?_) rfl (by kernel_rfl) (by kernel_rfl) (by kernel_rfl) (fun _ _ _ h => h) hHeld (by rfl) ?_ ?_
              rotate_left
              · (intro w hSw; (try dsimp only at hSw); go_simp; try with_reducible rfl)
              try simp only [Act.put, List.setIfInBounds_toArray, List.set_cons_zero, List.set_cons_succ]
              refine heldPass (i := 13) rfl (by kernel_rfl) (by kernel_rfl) (by kernel_rfl) (fun _ _ _ h => h) hHeld (by rfl) ?_
              try simp only [Act.put, List.setIfInBounds_toArray, List.set_cons_zero, List.set_cons_succ]
              refine heldPass (i := 14) rfl (by kernel_rfl) (by kernel_rfl) (by kernel_rfl) (fun _ _ _ h => h) hHeld (by rfl) ?_
              try simp only [Act.put, List.setIfInBounds_toArray, List.set_cons_zero, List.set_cons_succ]
              refine heldPass (i := 15) rfl (by kernel_rfl) (by kernel_rfl) (by kernel_rfl) (fun _ _ _ h => h) hHeld (by rfl) ?_
              try simp only [Act.put, List.setIfInBounds_toArray, List.set_cons_zero, List.set_cons_succ]
              refine heldPass (i := 16) rfl (by kernel_rfl) (by kernel_rfl) (by kernel_rfl) (fun _ _ _ h => h) hHeld (by rfl) ?_
              try simp only [Act.put, List.setIfInBounds_toArray, List.set_cons_zero, List.set_cons_succ]
              refine heldPass (i := 17) rfl (by kernel_rfl) (by kernel_rfl) (by kernel_rfl) (fun _ _ _ h => h) hHeld (by rfl) ?_
              try simp only [Act.put, List.setIfInBounds_toArray, List.set_cons_zero, List.set_cons_succ]
              refine heldPass (i := 18) rfl (by kernel_rfl) (by kernel_rfl) (by kernel_rfl) (fun _ _ _ h => h) hHeld (by rfl) ?_
              try simp only [Act.put, List.setIfInBounds_toArray, List.set_cons_zero, List.set_cons_succ]
              refine heldPass (i := 19) rfl (by kernel_rfl) (by kernel_rfl) (by kernel_rfl) (fun _ _ _ h => h) hHeld (by rfl) ?_
              try simp only [Act.put, List.setIfInBounds_toArray, List.set_cons_zero, List.set_cons_succ]
              refine heldPass (i := 20) rfl (by kernel_rfl) (by kernel_rfl) (by kernel_rfl) (fun _ _ _ h => h) hHeld (by rfl) ?_
              try simp only [Act.put, List.setIfInBounds_toArray, List.set_cons_zero, List.set_cons_succ]
              refine heldPass (i := 21) rfl (by kernel_rfl) (by kernel_rfl) (by kernel_rfl) (fun _ _ _ h => h) hHeld (by rfl) ?_
              try simp only [Act.put, List.setIfInBounds_toArray, List.set_cons_zero, List.set_cons_succ]
              refine heldTake (i := 22) (v := ?_) rfl (by kernel_rfl) (by kernel_rfl) (by kernel_rfl) (fun _ _ _ h => h) hHeld (by rfl) ?_ ?_
              rotate_left
              · (intro w hSw; (try dsimp only at hSw); go_simp; try with_reducible rfl)
              try simp only [Act.put, List.setIfInBounds_toArray, List.set_cons_zero, List.set_cons_succ]
              refine heldTake (i := 23) (v := ?_) rfl (by kernel_rfl) (by kernel_rfl) (by kernel_rfl) (fun _ _ _ h => h) hHeld (by rfl) ?_ ?_
              rotate_left
              · (intro w hSw; (try dsimp only at hSw); go_simp; try with_reducible rfl)
              try simp only [Act.put, List.setIfInBounds_toArray, List.set_cons_zero, List.set_cons_succ]
              refine heldStep (i := 24) rfl (by kernel_rfl) (fun K hK => ?_)
              go_simp
              skip
              refine hK.out _ _ (HK2.out) (fun hHeld => ?_)
              clear hK K
              try simp only [Act.put, List.setIfInBounds_toArray, List.set_cons_zero, List.set_cons_succ]
              refine wpAnyH_done (by kernel_rfl) ?_ _
              refine NoPanic.normal ?_
              go_wp2
              have hrd : r ≠ D2 ∧ D2 ≠ r ∧ D ≠ r ∧ D ≠ D2 := by have := R6.lt; omega
              have e9 : ((W11.setCell ⟨r, 0, none⟩ (.bool true)).drew).cell? ⟨r, 0, none⟩ = some (.bool true) := (R11.set_ 0 (.bool true)).cell 0
              have hKa : ((W11.setCell ⟨r, 0, none⟩ (.bool true)).drew).heap[D2]? = some (.deferred (some [])) := (Below.heap_setCell W11 ⟨r, 0, none⟩ (.bool true) D2 hrd.2.1).trans hD11
              have hKb : ((W11.setCell ⟨r, 0, none⟩ (.bool true)).drew).heap[D]? = some (.deferred (some [])) := (Below.heap_setCell W11 ⟨r, 0, none⟩ (.bool true) D hrd.2.2.1).trans hD12
              obtain ⟨Wf, hWf⟩ : ∃ x, x = (W11.setCell ⟨r, 0, none⟩ (.bool true)).drew := ⟨_, rfl⟩
              have hbf : Below w.heap.size w Wf := by rw [hWf]; exact (hbw11.setCell (p := ⟨r, 0, none⟩) hwr (.bool true)).drew
              rw [← hWf] at e9 hKa hKb ⊢
              clear hWf
              have hKc := ((grownBy_putObj' Wf D2 (.deferred none)).block D (Array.getElem?_eq_some_iff.1 hKb).1 (fun e => hrd.2.2.2 (Option.some.inj e))).trans hKb
              refine ⟨by simp, .inl ⟨_, _, rfl, run_takeDeferred hKa, ?_⟩⟩
              refine ⟨by simp, .inl ⟨_, _, rfl, run_takeDeferred hKc, ?_⟩⟩
              have f3 := cell_kept (v := .bool true) e9 (grownBy_putObj' _ D2 (.deferred none)) (fun r' e => by cases e; exact ⟨_, hKa, rfl⟩)
              have f4 := cell_kept (v := .bool true) f3 (grownBy_putObj' _ D (.deferred none)) (fun r' e => by cases e; exact ⟨_, hKc, rfl⟩)
              refine ⟨.bool true, ?_, rfl, (hbf.trans (belowK_b (w := w) (Nat.le_refl _) _ D2 _ _ (by omega) hKa rfl rfl)).trans (belowK_b (w := w) (Nat.le_refl _) _ D _ _ (by omega) hKc rfl rfl)⟩
              simp [results, Try.results6, go_sem, f4]
          · intro D c' pre W _ _ h
            exact h.elim
    · have hsd : decide ((1000 : Int) < (n2 : Int)) = true := decide_eq_true (by omega)
      go_wp2_with (first | (go_at_call 9; refine HF.out.mono ?_; rintro e w2 ⟨rfl, hb2⟩; have hb02 : Below w.heap.size w w2 := hb01.trans (hb2.mono hb01.size); have R2 := R1.below hb2 R1.lt; have q2 := R2.cell; have z2 := R2.frz; have e2 := (R2.set_ 0 (.bool true)).cell 0)
        )
      refine ⟨.bool true, ?_, rfl, hb02.setCell (p := ⟨r, 0, none⟩) hwr _⟩
      simp [results, Try.results6, go_sem, e2]
  · rw [decide_eq_false hfew] at HF
    go_wp2_with (first | (go_at_call 9; refine HF.out.mono ?_; rintro e w2 ⟨rfl, hb2⟩; have hb02 : Below w.heap.size w w2 := hb01.trans (hb2.mono hb01.size); have R2 := R1.below hb2 R1.lt; have q2 := R2.cell; have z2 := R2.frz; have e2 := (R2.set_ 0 (.bool true)).cell 0)
        )
    refine ⟨.bool true, ?_, rfl, hb02.setCell (p := ⟨r, 0, none⟩) hwr _⟩
    simp [results, Try.results6, go_sem, e2]
end Go.Proofs.Ytjcifmbbdofjiaa
