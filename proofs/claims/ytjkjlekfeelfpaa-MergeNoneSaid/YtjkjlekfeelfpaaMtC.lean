/- Layer 23: an iterator that nobody made has nothing (MergeNone). -/
import Derived.Test.YtjkjlekfeelfpaaMtA
namespace Go.Proofs.Ytjkjlekfeelfpaa
open Go.RowKit Go.Lec Go.Op
/-- None, or one with nothing in it. -/
def Nobody (w : World) (v : Value) : Prop := v = .pointer none ∨ ∃ b, v = .pointer (some ⟨b, 0, none⟩) ∧ Bk w b 38 #[.int .i64 0, .slice none 0 0, .int .i64 0, .int .i64 0]
theorem Nobody.below {w w' : World} {v : Value} (h : Nobody w v) (hb : Below w.heap.size w w') : Nobody w' v := h.imp id fun ⟨b, e, hk⟩ => ⟨b, e, hk.below hb hk.lt⟩
set_option maxRecDepth 100000 in
theorem c_isNo (w : World) {v : Value} (h : Nobody w v) :
    Calls Try.prog 36 #[v] w fun e w' => e = .returned (.bool false) ∧ w' = w := by
  rcases h with rfl | ⟨b, rfl, hb⟩
  · go_enter Try.func36, Try.ntmps36
    go_wp2
    go_ret
    exact ⟨rfl, rfl⟩
  · have q := hb.cell 0
    go_enter Try.func36, Try.ntmps36
    go_wp2
    go_ret
    exact ⟨rfl, rfl⟩
set_option maxRecDepth 100000 in
theorem no_First (w : World) {v : Value} (h : Nobody w v) : Calls Try.prog 18 #[v] w (BoolP w false) := by
  have HC := Lib.hid (c_isNo w h)
  clear h
  go_enter Try.func18, Try.ntmps18
  go_wp2_with (first | (go_at_call 36; (refine HC.out.mono ?_); rintro e w1 ⟨rfl, rfl⟩))
  go_ret
  exact ⟨rfl, Below.refl _ _⟩
set_option maxRecDepth 100000 in
theorem no_Next (w : World) {v : Value} (h : Nobody w v) : Calls Try.prog 19 #[v] w (BoolP w false) := by
  have HC := Lib.hid (c_isNo w h)
  clear h
  go_enter Try.func19, Try.ntmps19
  go_wp2_with (first | (go_at_call 36; (refine HC.out.mono ?_); rintro e w1 ⟨rfl, rfl⟩))
  go_ret
  exact ⟨rfl, Below.refl _ _⟩
set_option maxRecDepth 100000 in
theorem no_Seek (w : World) {v : Value} {A : Option Addr} {n c : Nat} (h : Nobody w v) : Calls Try.prog 20 #[v, .slice A n c] w (BoolP w false) := by
  have hb0 := (Below.refl w.heap.size w).alloc (Nat.le_refl _) (.cells #[.slice A n c] 34)
  have HC := Lib.hid (c_isNo _ (h.below hb0))
  have Hb := Lib.hid hb0
  clear h hb0
  go_enter Try.func20, Try.ntmps20
  go_wp2_with (first | (go_at_call 36; (refine HC.out.mono ?_); rintro e w1 ⟨rfl, rfl⟩))
  go_ret
  exact ⟨rfl, Hb.out⟩
set_option maxRecDepth 100000 in
theorem no_Pair (w : World) {v : Value} (h : Nobody w v) : Calls Try.prog 17 #[v] w (NoPair w) := by
  have hb0 := (Below.refl w.heap.size w).alloc (Nat.le_refl _) (.cells #[.slice none 0 0, .slice none 0 0] 42)
  have N := Bk.new_ w 42 #[.slice none 0 0, .slice none 0 0]
  obtain ⟨W, hW⟩ : ∃ W, W = w.alloc (.cells #[.slice none 0 0, .slice none 0 0] 42) := ⟨_, rfl⟩
  rw [← hW] at N hb0
  have HC := Lib.hid (c_isNo W (h.below hb0))
  have x0 := N.cell 0
  have x1 := N.cell 1
  have y0 := N.frz 0
  have y1 := N.frz 1
  have Hb := Lib.hid hb0
  have HN := Lib.hid N
  clear h hb0 N
  go_enter Try.func17, Try.ntmps17
  go_wp2_with fail
  rw [← hW]
  clear hW
  refine HC.out.mono ?_
  rintro e w1 ⟨rfl, rfl⟩
  go_wp2
  have N2 := (HN.out.set_ 0 (.slice none 0 0)).set_ 1 (.slice none 0 0)
  have g0 := N2.cell 0
  have g1 := N2.cell 1
  exact bodyPost_ret (v := .tuple #[.agg #[.slice none 0 0, .slice none 0 0], .bool false]) (by simp [results, Try.results17, go_sem, g0, g1]) rfl ⟨rfl, (Hb.out.setCell (by dsimp only; omega) _).setCell (by dsimp only; omega) _⟩
theorem makes_nil {X : It} (h : X.Hs = []) : Makes X [] := by
  have hK : lsK X.K = [] := by unfold lsK It.K; rw [h]; rfl
  exact ⟨by rw [hK]; exact ⟨List.Pairwise.nil, fun p => by simp [firstK]⟩, by rw [hK]; intro l hl; cases hl⟩
set_option maxRecDepth 100000 in
set_option maxHeartbeats 3200000 in
theorem w_MergeNone (w : World) {B nk ck : Nat} {Ak : Option Addr} {key : List UInt8} (hk : Rd w B Ak nk (bcs key)) (hB : B ≤ w.heap.size) :
    Calls Try.prog 4 #[.slice Ak nk ck] w (BoolP w true) := by
  have HA := c_awake w
  unfold BoolP at HA
  have HA := Lib.hid HA
  have HK := Lib.hid (fun (V : World) (hV : Below w.heap.size w V) => (hk.below hV hB : Rd V B Ak nk (bcs key)))
  have Hlt := Lib.hid (show 0 < nk → ∀ a, Ak = some a → a.block < w.heap.size from fun hn a ha => by
    obtain ⟨b, o, e, hb, _⟩ := hk.2 hn
    rw [ha] at e; cases e; dsimp only; omega)
  clear hk
  go_enter Try.func4, Try.ntmps4
  go_wp2_with fail
  refine HA.out.mono ?_
  rintro e w1 ⟨rfl, hb1⟩
  clear HA
  have HN := c_New (w1.alloc (.cells #[.int .i64 0, .slice none 0 0, .int .i64 0, .int .i64 0] 38)) (D := fun _ => False) (B := 0) (n := 0) (c := 0) (A := none) (Ss := []) Rd.nil_ (Nat.zero_le _) (srcs0 _) (by omega) (fun _ h => h.elim)
  unfold NewP at HN
  have HN := Lib.hid HN
  have N1 := Bk.new_ w1 38 #[.int .i64 0, .slice none 0 0, .int .i64 0, .int .i64 0]
  have hb2 := (Below.refl w1.heap.size w1).alloc (Nat.le_refl _) (.cells #[.int .i64 0, .slice none 0 0, .int .i64 0, .int .i64 0] 38)
  have HN1 := Lib.hid N1
  have Hb1 := Lib.hid hb1
  have Hb2 := Lib.hid hb2
  clear N1 hb1 hb2
  go_wp2_with fail
  refine HN.out.mono ?_
  rintro e w3 ⟨X, D3, rfl, hI3, hX3, hb3, hg3, hib3, _⟩
  have hHs : X.Hs = [] := by
    have := congrArg List.length hX3
    simp at this
    exact this
  have hDl : ∀ b, D3 b → b < w3.heap.size := fun b hb => (hg3.new_ b hb).elim (fun h => h.elim) (fun h => h.2)
  have hb4 := (Below.refl w3.heap.size w3).alloc (Nat.le_refl _) (.cells #[.pointer none, .pointer (some ⟨w1.heap.size, 0, none⟩), .pointer (some ⟨X.ib, 0, none⟩)] 35)
  have N4 := Bk.new_ w3 35 #[.pointer none, .pointer (some ⟨w1.heap.size, 0, none⟩), .pointer (some ⟨X.ib, 0, none⟩)]
  obtain ⟨w4, hw4⟩ : ∃ W, W = w3.alloc (.cells #[.pointer none, .pointer (some ⟨w1.heap.size, 0, none⟩), .pointer (some ⟨X.ib, 0, none⟩)] 35) := ⟨_, rfl⟩
  have hb14 : Below w1.heap.size w1 w4 := by rw [hw4]; exact (Hb2.out.trans (hb3.mono Hb2.out.size)).trans (hb4.mono (by have := Hb2.out.size; have := hb3.size; omega))
  obtain ⟨rb, hrb⟩ : ∃ rb, rb = w3.heap.size := ⟨_, rfl⟩
  have hz4 : w4.heap.size = rb + 1 := by rw [hw4, hrb]; simp
  rw [← hw4] at hb4 N4
  rw [← hrb] at N4
  have HI4 := Lib.hid (hI3.below hb4)
  have HHs := Lib.hid hHs
  have HD4 := Lib.hid (show ∀ b, D3 b → b < w4.heap.size from fun b hb => Nat.lt_of_lt_of_le (hDl b hb) hb4.size)
  have HZ4 := Lib.hid (show Bk w4 w1.heap.size 38 #[.int .i64 0, .slice none 0 0, .int .i64 0, .int .i64 0] from (HN1.out.below hb3 HN1.out.lt).below hb4 (by have := HN1.out.lt; have := hb3.size; omega))
  have HN4 := Lib.hid N4
  have Hctl := Lib.hid (show ∀ b ∈ X.ctl, w.heap.size ≤ b from fun b hb => by
    have h1 := Hb1.out.size
    have h2 := Hb2.out.size
    rcases ctl_mem.1 hb with rfl | ⟨h, hh, _⟩
    · omega
    · rw [hHs] at hh; cases hh)
  have Hib := Lib.hid hib3
  have Hb14 := Lib.hid hb14
  have Hz4 := Lib.hid hz4
  clear hI3 hX3 hb3 hg3 hDl hb4 N4 hHs HN HN1 Hb2 hib3 hb14 hz4
  go_wp2_with fail
  rw [← hw4, ← hrb]
  clear hw4 hrb
  go_loopw [16] (fun v16 wr => ∃ k : Nat, k ≤ 3 ∧ v16 = .int .i64 (k : Int) ∧ Below w.heap.size w wr ∧ (k ≤ 2 → Below w4.heap.size w4 wr)) (fun v16 _ => 3 - (intOf v16).toNat)
  case atStart => exact ⟨0, by omega, rfl, Hb1.out.trans (Hb14.out.mono Hb1.out.size), fun _ => Below.refl _ _⟩
  case round =>
    obtain ⟨k, hk3, rfl, hbr, hb4r⟩ := hrel
    rcases Nat.lt_or_ge k 3 with hlt | hge
    · have hb4 := hb4r (by omega)
      have hN := HN4.out.below hb4 HN4.out.lt
      have c0 := hN.cell 0
      have c1 := hN.cell 1
      have c2 := hN.cell 2
      have Hbr := Lib.hid hbr
      have Hb4 := Lib.hid hb4
      clear hbr hb4r hb4 hN
      rcases k with _ | _ | _ | k
      · have hNb : Nobody wr (.pointer none) := .inl rfl
        have eV : (.pointer none : Value) = .pointer none := rfl
        have hP := no_Pair wr hNb
        unfold NoPair at hP
        have hP := Lib.hid hP
        have HNb := Lib.hid hNb
        clear hNb
        go_wp2_with fail
        refine hP.out.mono ?_
        rintro e w5 ⟨rfl, hb5⟩
        have hb6 := (Below.refl w5.heap.size w5).alloc (Nat.le_refl _) (.cells #[.slice none 0 0, .slice none 0 0] 42)
        have hn6 := (HNb.out.below hb5).below hb6
        have hF := no_First _ hn6
        unfold BoolP at hF
        have hF := Lib.hid hF
        have Hn6 := Lib.hid hn6
        have Hb6 := Lib.hid (hb5.trans (hb6.mono hb5.size))
        clear hb5 hb6 hn6 hP
        go_wp2_with fail
        refine hF.out.mono ?_
        rintro e w7 ⟨rfl, hb7⟩
        have hn7 := Hn6.out.below hb7
        have hNx := no_Next _ hn7
        unfold BoolP at hNx
        have hNx := Lib.hid hNx
        have Hn7 := Lib.hid hn7
        have Hb7 := Lib.hid (Hb6.out.trans (hb7.mono Hb6.out.size))
        clear hb7 hn7 hF
        go_wp2_with fail
        refine hNx.out.mono ?_
        rintro e w8 ⟨rfl, hb8⟩
        have hSe := no_Seek (A := Ak) (n := nk) (c := ck) _ (Hn7.out.below hb8)
        unfold BoolP at hSe
        have hSe := Lib.hid hSe
        have Hb8 := Lib.hid (Hb7.out.trans (hb8.mono Hb7.out.size))
        clear hb8 hNx
        go_wp2_with fail
        refine hSe.out.mono ?_
        rintro e w9 ⟨rfl, hb9⟩
        have Hb9 := Lib.hid (Hb8.out.trans (hb9.mono Hb8.out.size))
        clear hSe hb9
        go_wp2
        exact ⟨⟨1, by omega, by go_num, Hbr.out.trans (Hb9.out.mono Hbr.out.size), fun _ => Hb4.out.trans (Hb9.out.mono Hb4.out.size)⟩, by simp [intOf]⟩
      · have hNb : Nobody wr (.pointer (some ⟨w1.heap.size, 0, none⟩)) := .inr ⟨_, rfl, HZ4.out.below Hb4.out HZ4.out.lt⟩
        have hP := no_Pair wr hNb
        unfold NoPair at hP
        have hP := Lib.hid hP
        have HNb := Lib.hid hNb
        clear hNb
        go_wp2_with fail
        refine hP.out.mono ?_
        rintro e w5 ⟨rfl, hb5⟩
        have hb6 := (Below.refl w5.heap.size w5).alloc (Nat.le_refl _) (.cells #[.slice none 0 0, .slice none 0 0] 42)
        have hn6 := (HNb.out.below hb5).below hb6
        have hF := no_First _ hn6
        unfold BoolP at hF
        have hF := Lib.hid hF
        have Hn6 := Lib.hid hn6
        have Hb6 := Lib.hid (hb5.trans (hb6.mono hb5.size))
        clear hb5 hb6 hn6 hP
        go_wp2_with fail
        refine hF.out.mono ?_
        rintro e w7 ⟨rfl, hb7⟩
        have hn7 := Hn6.out.below hb7
        have hNx := no_Next _ hn7
        unfold BoolP at hNx
        have hNx := Lib.hid hNx
        have Hn7 := Lib.hid hn7
        have Hb7 := Lib.hid (Hb6.out.trans (hb7.mono Hb6.out.size))
        clear hb7 hn7 hF
        go_wp2_with fail
        refine hNx.out.mono ?_
        rintro e w8 ⟨rfl, hb8⟩
        have hSe := no_Seek (A := Ak) (n := nk) (c := ck) _ (Hn7.out.below hb8)
        unfold BoolP at hSe
        have hSe := Lib.hid hSe
        have Hb8 := Lib.hid (Hb7.out.trans (hb8.mono Hb7.out.size))
        clear hb8 hNx
        go_wp2_with fail
        refine hSe.out.mono ?_
        rintro e w9 ⟨rfl, hb9⟩
        have Hb9 := Lib.hid (Hb8.out.trans (hb9.mono Hb8.out.size))
        clear hSe hb9
        go_wp2
        exact ⟨⟨2, by omega, by go_num, Hbr.out.trans (Hb9.out.mono Hbr.out.size), fun _ => Hb4.out.trans (Hb9.out.mono Hb4.out.size)⟩, by simp [intOf]⟩
      · have hI := HI4.out.below Hb4.out
        have hP := c_IPairN wr hI (by decide) (by decide)
        unfold NoPair at hP
        have hP := Lib.hid hP
        have HIr := Lib.hid hI
        clear hI
        go_wp2_with fail
        refine hP.out.mono ?_
        rintro e w5 ⟨rfl, hb5⟩
        have hb6 := (Below.refl w5.heap.size w5).alloc (Nat.le_refl _) (.cells #[.slice none 0 0, .slice none 0 0] 42)
        have hI6 := (HIr.out.below hb5).below hb6
        have hF := i_First (all := []) hI6 (makes_nil HHs.out) (fun b hb => by have := HD4.out b hb; have := Hb4.out.size; have := hb5.size; rw [World.size_alloc]; omega) (by decide)
        unfold NowP at hF
        have hF := Lib.hid hF
        have Hb6 := Lib.hid (Hbr.out.trans ((hb5.trans (hb6.mono hb5.size)).mono Hbr.out.size))
        clear hb5 hb6 hI6 hP
        go_wp2_with fail
        refine hF.out.mono ?_
        rintro e w7 ⟨rfl, D7, X7, s7, hs7, hst7, hI7, hg7, hk7⟩
        have hNx := i_NextEnd hI7 (by simp)
        rw [hs7.ib] at hNx
        have hNx := Lib.hid hNx
        have Hb7 := Lib.hid (Hb6.out.trans (hk7.below Hctl.out Hb6.out.size))
        have hSe := i_Seek (all := []) (key := key) (Ak := Ak) (nk := nk) (ck := ck) hI7.it hI7.ms hI7.lt (by rw [HHs.out] at hst7; simp at hst7; omega) (HK.out w7 Hb7.out) (Nat.le_trans hB Hb7.out.size) (fun hn a ha hm => by rw [hs7.ctl] at hm; have := Hctl.out _ hm; have := Hlt.out hn a ha; omega)
        unfold NowP at hSe
        rw [hs7.ib, hs7.ctl] at hSe
        have hSe := Lib.hid hSe
        clear hF hI7 hg7 hk7 hst7 hs7
        go_wp2_with fail
        refine hNx.out.mono ?_
        rintro e w8 ⟨rfl, rfl⟩
        go_wp2_with fail
        refine hSe.out.mono ?_
        rintro e w9 ⟨rfl, D9, X9, s9, _, _, _, _, hk9⟩
        have Hb9 := Lib.hid (Hb7.out.trans (hk9.below Hctl.out Hb7.out.size))
        clear hSe hk9 hNx
        go_wp2
        exact ⟨⟨3, by omega, by go_num, Hb9.out, fun h => absurd h (by omega)⟩, by simp [intOf]⟩
      · exact absurd hlt (by omega)
    · obtain rfl : k = 3 := by omega
      have HAll := c_mAll wr wr (D := fun _ => False) (B := 0) (n := 0) (c := 0) (A := none) (Ss := []) (all := []) Rd.nil_ (Nat.zero_le _) (srcs0 _) (by omega) (fun _ h => h.elim) (Below.refl _ _) (fun _ h => by cases h) ⟨List.Pairwise.nil, fun p => by simp [srcL, firstK]⟩ (fun l hl => by cases hl) (by decide)
      unfold MAllP at HAll
      have HAll := Lib.hid HAll
      have Hbr := Lib.hid hbr
      clear hb4r hbr
      go_wp2_with fail
      refine HAll.out.mono ?_
      rintro e w5 ⟨L, A5, c5, rfl, _, hL, hb5⟩
      obtain rfl : L = [] := by simpa using hL
      simp only [List.length_nil]
      go_wp2
      go_ret
      exact ⟨rfl, Hbr.out.trans (hb5.mono Hbr.out.size)⟩
end Go.Proofs.Ytjkjlekfeelfpaa
