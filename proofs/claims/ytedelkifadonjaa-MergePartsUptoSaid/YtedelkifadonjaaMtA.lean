/- Layer 23: the law's own: few, awake. -/
import Derived.Test.YtedelkifadonjaaMsZ
import Derived.Test.YtedelkifadonjaaMsR
import Derived.Test.YtedelkifadonjaaSeK
namespace Go.Lec
/-- How much a pair, a list, lists take. -/
def szP (p : PairB) : Nat := p.1.length + p.2.length + 1
def szL (l : List PairB) : Nat := (l.map szP).sum
def totM (Ls : List (List PairB)) : Nat := Ls.length + (Ls.map szL).sum
theorem sum_take_succ (l : List Nat) (k : Nat) (h : k < l.length) : (l.take (k + 1)).sum = (l.take k).sum + l[k] := by
  rw [List.take_succ_eq_append_getElem h, List.sum_append]; simp
theorem sum_take_le (l : List Nat) (k : Nat) : (l.take k).sum ≤ l.sum := by
  have := congrArg List.sum (List.take_append_drop k l)
  rw [List.sum_append] at this
  omega
end Go.Lec
namespace Go.Proofs.Ytedelkifadonjaa
open Go.RowKit Go.Lec Go.Op
set_option maxRecDepth 100000 in
set_option maxHeartbeats 1600000 in
theorem c_fewM (w : World) {B n c : Nat} {A : Option Addr} {Ls : List (Sl Pr)} (hr : Els (encSl encPr) w B A n Ls) (hB : B ≤ w.heap.size) (hn : n ≤ 1099511627776) (hns : ∀ s ∈ Ls, s.n ≤ 1099511627776) (ht : totM (Ls.map Sl.pls) ≤ 4611686018427387904) :
    Calls Try.prog 7 #[.slice A n c] w (BoolP w (decide (totM (Ls.map Sl.pls) ≤ 5000))) := by
  unfold BoolP
  have hlen := hr.2.1
  obtain ⟨Z, hZ⟩ : ∃ Z : List Nat, Z = (Ls.map Sl.pls).map szL := ⟨_, rfl⟩
  have hT : totM (Ls.map Sl.pls) = n + Z.sum := by unfold totM; rw [hZ, List.length_map, hlen]
  have hZl : Z.length = n := by rw [hZ, List.length_map, List.length_map, hlen]
  rw [hT] at ht ⊢
  have HZ := Lib.hid hZ
  have HZl := Lib.hid hZl
  have Hr := Lib.hid hr
  have Hns := Lib.hid hns
  clear hns
  obtain ⟨T, hTT⟩ : ∃ T, T = Z.sum := ⟨_, rfl⟩
  rw [← hTT] at ht ⊢
  have HT := Lib.hid hTT
  clear hr hlen hT hZ hZl hTT
  go_enter Try.func7, Try.ntmps7
  go_wp2
  go_loopw [3, 12] (fun v3 v12 wr => ∃ (k t : Nat), v3 = .int .i64 ((n + t : Nat) : Int) ∧ v12 = .int .i64 (k : Int) ∧ k ≤ n ∧ Hid (t = (Z.take k).sum) ∧ t ≤ T ∧ Below w.heap.size w wr) (fun _ v12 _ => n - (intOf v12).toNat)
  case atStart => exact ⟨0, 0, by go_num, rfl, Nat.zero_le _, Lib.hid rfl, Nat.zero_le _, Below.refl _ _⟩
  case round =>
    obtain ⟨k, t, rfl, rfl, hk, Ht, htT, hbw⟩ := hrel
    by_cases hlt : k < n
    · obtain ⟨b0, o0, s, rfl, hb0, hsk, _, hsok, hscell⟩ := Hr.out.at hlt
      have c0 : wr.cell? ⟨b0, o0 + k, none⟩ = some (.slice s.A s.n s.c) := by
        have := hscell wr (hbw.mono hB) 0 _ rfl
        rw [show o0 + k * (encSl encPr).k + 0 = o0 + k by show o0 + k * 1 + 0 = _; omega] at this
        exact this
      have hp := prs_of_els ((encSl_ok (by decide)).1 hsok).1
      have hkz : k < Z.length := by rw [HZl.out]; exact hlt
      have hzk : Z[k] = szL s.pls := by
        have h1 : Z[k]? = some (szL s.pls) := by rw [HZ.out, List.getElem?_map, List.getElem?_map, hsk]; rfl
        exact (List.getElem?_eq_some_iff.1 h1).2
      obtain ⟨Y, hY⟩ : ∃ Y : List Nat, Y = s.pls.map szP := ⟨_, rfl⟩
      have hYl : Y.length = s.n := by rw [hY, List.length_map]; unfold Sl.pls; rw [List.length_map]; exact hp.len
      have hstep : (Z.take (k + 1)).sum = (Z.take k).sum + Y.sum := by rw [sum_take_succ Z k hkz, hzk, hY]; rfl
      have hle : t + Y.sum ≤ T := by
        have := sum_take_le Z (k + 1)
        rw [hstep, ← Ht.out, ← HT.out] at this
        exact this
      obtain ⟨U, hU⟩ : ∃ U, U = Y.sum := ⟨_, rfl⟩
      rw [← hU] at hle
      have HU := Lib.hid hU
      have HY := Lib.hid hY
      have HYl := Lib.hid hYl
      have Hstep := Lib.hid hstep
      have Hp := Lib.hid hp
      have hn1 := Hns.out s (List.mem_of_getElem? hsk)
      obtain ⟨A, n1, c1, L1⟩ := s
      dsimp only at HYl Hp c0 hn1
      clear hU hY hYl hstep hzk hkz hp hsok hscell hsk
      go_wp2
      go_loopw [3, 18] (fun v3 v18 wr => ∃ (j u : Nat), v3 = .int .i64 ((n + t + u : Nat) : Int) ∧ v18 = .int .i64 (j : Int) ∧ j ≤ n1 ∧ Hid (u = (Y.take j).sum) ∧ u ≤ U ∧ Below w.heap.size w wr) (fun _ v18 _ => n1 - (intOf v18).toNat)
      case atStart => exact ⟨0, 0, by go_num, rfl, Nat.zero_le _, Lib.hid rfl, Nat.zero_le _, hbw⟩
      case round =>
        clear hbw c0
        obtain ⟨j, u, rfl, rfl, hj, Hu, huU, hbw⟩ := hrel
        by_cases hjlt : j < n1
        · obtain ⟨b, o, m, rfl, hbB, hmk, _, hmok, hcell⟩ := Hp.out.cell2 hjlt
          obtain ⟨h0, h1⟩ := hcell wr (hbw.mono hB)
          have hjy : j < Y.length := by rw [HYl.out]; exact hjlt
          have hyj : Y[j] = m.n1 + m.n2 + 1 := by
            have h1 : Y[j]? = some (szP m.pl) := by rw [HY.out, List.getElem?_map]; unfold Sl.pls; rw [List.getElem?_map, hmk]; rfl
            rw [(List.getElem?_eq_some_iff.1 h1).2]
            have e1 := hmok.1.1
            have e2 := hmok.2.1.1
            rw [bcs_length] at e1 e2
            unfold szP Pr.pl
            dsimp only
            omega
          have hst2 : (Y.take (j + 1)).sum = (Y.take j).sum + (m.n1 + m.n2 + 1) := by rw [sum_take_succ Y j hjy, hyj]
          have hle2 : u + (m.n1 + m.n2 + 1) ≤ U := by
            have := sum_take_le Y (j + 1)
            rw [hst2, ← Hu.out, ← HU.out] at this
            exact this
          have Hst2 := Lib.hid (show u + (m.n1 + m.n2 + 1) = (Y.take (j + 1)).sum by rw [hst2, ← Hu.out])
          have N := Bk.new_ wr 56 #[.slice m.A1 m.n1 m.c1, .slice m.A2 m.n2 m.c2]
          have x0 := N.cell 0
          have x1 := N.cell 1
          have Hb := Lib.hid (hbw.alloc hbw.size (.cells #[.slice m.A1 m.n1 m.c1, .slice m.A2 m.n2 m.c2] 56))
          clear hst2 hyj hjy hmok hmk hcell N hbw
          go_wp2
          refine ⟨⟨j + 1, u + (m.n1 + m.n2 + 1), ?_, by go_num, by omega, Hst2, hle2, Hb.out⟩, by simp [intOf]; omega⟩
          first | go_num | (congr 1; omega)
        · obtain rfl : j = n1 := by omega
          have HuU := Lib.hid (show u = U by rw [Hu.out, HU.out, List.take_of_length_le (by rw [HYl.out]; exact Nat.le_refl _)])
          clear Hu
          go_wp2
          refine ⟨⟨k + 1, t + u, ?_, by go_num, by omega, Lib.hid (by rw [Hstep.out, ← Ht.out, HuU.out, HU.out]), by have := HuU.out; omega, hbw⟩, by simp [intOf]; omega⟩
          first | go_num | (congr 1; omega)
    · obtain rfl : k = n := by omega
      have HtT := Lib.hid (show t = T by rw [Ht.out, HT.out, List.take_of_length_le (by rw [HZl.out]; exact Nat.le_refl _)])
      clear Ht
      go_wp2
      go_ret
      have := HtT.out
      subst this
      exact ⟨by first | rfl | (congr 2; simp; omega), hbw⟩
end Go.Proofs.Ytedelkifadonjaa
/- Layer 23: the law's awake. -/
namespace Go.Proofs.Ytedelkifadonjaa
open Go.RowKit Go.Lec Go.Op
theorem rd_bzM {w : World} {b n : Nat} {t : TypeId} {z : Nat × Nat} {cs : Array Value} {xs : List Value} (h : w.heap[b]? = some (.cells cs t z)) (hx : cs.toList = xs) (hn : xs.length = n) : Rd w w.heap.size (some ⟨b, 0, none⟩) n xs :=
  ⟨hn, fun _ => ⟨b, 0, rfl, (Array.getElem?_eq_some_iff.1 h).1, fun i u hu => by rw [Nat.zero_add, cell_of_row w b i cs t z h]; rw [← hx] at hu; simpa using hu⟩⟩
theorem rdK_bkM {w : World} {b n k : Nat} {t : TypeId} {cs : Array Value} {xs : List Value} (h : Bk w b t cs) (hx : cs.toList = xs) (hn : xs.length = n * k) : RdK w w.heap.size k (some ⟨b, 0, none⟩) n xs :=
  ⟨hn, fun _ => ⟨b, 0, rfl, h.lt, fun i u hu => by rw [Nat.zero_add, h.cell]; rw [← hx] at hu; simpa using hu⟩⟩
theorem heap_moreM {w : World} {b : Nat} {x : Obj} (h : w.heap[b]? = some x) (o : Obj) : (w.alloc o).heap[b]? = some x := (Below.heap_alloc w o b (Array.getElem?_eq_some_iff.1 h).1).trans h
/-- Two pairs of one byte each, as they are laid. -/
def lit2 (w : World) (s : Nat) (a b c d : Int) : World :=
  ((((w.alloc (.cells #[.int .u8 a] 5 (1, 2))).alloc (.cells #[.int .u8 b] 5 (1, 2))).alloc (.cells #[.int .u8 c] 5 (1, 2))).alloc (.cells #[.int .u8 d] 5 (1, 2))).alloc
    (.cells #[.slice (some ⟨s, 0, none⟩) 1 1, .slice (some ⟨s + 1, 0, none⟩) 1 1, .slice (some ⟨s + 1 + 1, 0, none⟩) 1 1, .slice (some ⟨s + 1 + 1 + 1, 0, none⟩) 1 1] 56)
def pr1 (s : Nat) (a b : UInt8) : Pr := ⟨some ⟨s, 0, none⟩, 1, 1, [a], some ⟨s + 1, 0, none⟩, 1, 1, [b]⟩
theorem lit2_prs (w : World) (s : Nat) (hs : s = w.heap.size) (a b c d : UInt8) : Prs (lit2 w s a.toNat b.toNat c.toNat d.toNat) (lit2 w s a.toNat b.toNat c.toNat d.toNat).heap.size (some ⟨s + 1 + 1 + 1 + 1, 0, none⟩) 2 [pr1 s a b, pr1 (s + 1 + 1) c d] ∧ Below s w (lit2 w s a.toNat b.toNat c.toNat d.toNat) ∧ (lit2 w s a.toNat b.toNat c.toNat d.toNat).heap.size = s + 1 + 1 + 1 + 1 + 1 := by
  unfold lit2
  have B0 := heap_moreM (heap_moreM (heap_moreM (heap_alloc_new w (.cells #[.int .u8 (a.toNat : Int)] 5 (1, 2))) (.cells #[.int .u8 (b.toNat : Int)] 5 (1, 2))) (.cells #[.int .u8 (c.toNat : Int)] 5 (1, 2))) (.cells #[.int .u8 (d.toNat : Int)] 5 (1, 2))
  have B1 := heap_moreM (heap_moreM (heap_alloc_new (w.alloc (.cells #[.int .u8 (a.toNat : Int)] 5 (1, 2))) (.cells #[.int .u8 (b.toNat : Int)] 5 (1, 2))) (.cells #[.int .u8 (c.toNat : Int)] 5 (1, 2))) (.cells #[.int .u8 (d.toNat : Int)] 5 (1, 2))
  have B2 := heap_moreM (heap_alloc_new ((w.alloc (.cells #[.int .u8 (a.toNat : Int)] 5 (1, 2))).alloc (.cells #[.int .u8 (b.toNat : Int)] 5 (1, 2))) (.cells #[.int .u8 (c.toNat : Int)] 5 (1, 2))) (.cells #[.int .u8 (d.toNat : Int)] 5 (1, 2))
  have B3 := heap_alloc_new (((w.alloc (.cells #[.int .u8 (a.toNat : Int)] 5 (1, 2))).alloc (.cells #[.int .u8 (b.toNat : Int)] 5 (1, 2))).alloc (.cells #[.int .u8 (c.toNat : Int)] 5 (1, 2))) (.cells #[.int .u8 (d.toNat : Int)] 5 (1, 2))
  have hb := ((((Below.refl w.heap.size w).alloc (Nat.le_refl _) (.cells #[.int .u8 (a.toNat : Int)] 5 (1, 2))).alloc (by simp) (.cells #[.int .u8 (b.toNat : Int)] 5 (1, 2))).alloc (by simp; omega) (.cells #[.int .u8 (c.toNat : Int)] 5 (1, 2))).alloc (by simp; omega) (.cells #[.int .u8 (d.toNat : Int)] 5 (1, 2))
  have hz : ((((w.alloc (.cells #[.int .u8 (a.toNat : Int)] 5 (1, 2))).alloc (.cells #[.int .u8 (b.toNat : Int)] 5 (1, 2))).alloc (.cells #[.int .u8 (c.toNat : Int)] 5 (1, 2))).alloc (.cells #[.int .u8 (d.toNat : Int)] 5 (1, 2))).heap.size = s + 1 + 1 + 1 + 1 := by rw [World.size_alloc, World.size_alloc, World.size_alloc, World.size_alloc, hs]
  rw [World.size_alloc] at B1
  rw [World.size_alloc, World.size_alloc] at B2
  rw [World.size_alloc, World.size_alloc, World.size_alloc] at B3
  rw [← hs] at B0 B1 B2 B3 hb
  obtain ⟨W4, hW4⟩ : ∃ W, W = (((w.alloc (.cells #[.int .u8 (a.toNat : Int)] 5 (1, 2))).alloc (.cells #[.int .u8 (b.toNat : Int)] 5 (1, 2))).alloc (.cells #[.int .u8 (c.toNat : Int)] 5 (1, 2))).alloc (.cells #[.int .u8 (d.toNat : Int)] 5 (1, 2)) := ⟨_, rfl⟩
  rw [← hW4] at B0 B1 B2 B3 hb hz ⊢
  have B4 := Bk.new_ W4 56 #[.slice (some ⟨s, 0, none⟩) 1 1, .slice (some ⟨s + 1, 0, none⟩) 1 1, .slice (some ⟨s + 1 + 1, 0, none⟩) 1 1, .slice (some ⟨s + 1 + 1 + 1, 0, none⟩) 1 1]
  rw [hz] at B4
  refine ⟨⟨rdK_bkM B4 rfl rfl, ?_⟩, hb.alloc (by omega) _, by rw [World.size_alloc, hz]⟩
  intro m hm
  simp only [List.mem_cons, List.not_mem_nil, or_false] at hm
  rcases hm with rfl | rfl
  · exact ⟨rd_bzM (heap_moreM B0 _) rfl rfl, rd_bzM (heap_moreM B1 _) rfl rfl, Nat.le_refl _, Nat.le_refl _, (by show 1 ≤ _; omega), (by show 1 ≤ _; omega)⟩
  · exact ⟨rd_bzM (heap_moreM B2 _) rfl rfl, rd_bzM (heap_moreM B3 _) rfl rfl, Nat.le_refl _, Nat.le_refl _, (by show 1 ≤ _; omega), (by show 1 ≤ _; omega)⟩
theorem LsM.lim {lo sb : Nat} {w : World} {s : Sl Pr} {a : Int} (h : LsM (lo ≤ ·) w sb s a) : LsM (fun b => lo ≤ b ∧ b < w.heap.size) w sb s a := ⟨h.bk, h.ok, h.lie.and h.ok.lt, h.n⟩
theorem srcs0 (w : World) : Srcs (fun _ => False) w [] := ⟨(fun _ h => by cases h), (fun _ _ _ _ h => by cases h)⟩
theorem srcs1 {W w1 : World} {s1 : Sl Pr} (h1 : LsM (W.heap.size + 1 ≤ ·) w1 W.heap.size s1 (-1)) : Srcs (fun b => W.heap.size + 1 ≤ b ∧ b < w1.heap.size) w1 [some (W.heap.size, s1)] :=
  (srcs0 w1).snoc (fun _ h => h.elim) (fun _ h => by cases h) (some (W.heap.size, s1)) fun x hx => by
    cases hx
    exact ⟨h1.lim, fun h => by dsimp only at h; omega, fun _ h => by cases h⟩
theorem srcs2 {W w1 w2 : World} {s1 s2 : Sl Pr} (h1 : LsM (W.heap.size + 1 ≤ ·) w1 W.heap.size s1 (-1)) (h2 : LsM (w1.heap.size + 1 ≤ ·) w2 w1.heap.size s2 (-1)) (hb : Below w1.heap.size w1 w2) :
    Srcs (fun b => (W.heap.size + 1 ≤ b ∧ b < w1.heap.size) ∨ (w1.heap.size + 1 ≤ b ∧ b < w2.heap.size)) w2 [some (W.heap.size, s1), some (w1.heap.size, s2)] := by
  have hlt := h1.bk.lt
  refine ((srcs1 h1).below hb).snoc (fun _ h => .inl h) (fun x hx h => ?_) (some (w1.heap.size, s2)) fun x hx => ?_
  · rw [List.mem_singleton] at hx
    cases hx
    dsimp only at h
    omega
  · cases hx
    refine ⟨h2.lim.imp fun _ h => .inr h, fun h => by dsimp only at h; omega, fun y hy => ?_⟩
    rw [List.mem_singleton] at hy
    cases hy
    dsimp only
    omega
def exA : List PairB := [([97], [49]), ([99], [49])]
def exBb : List PairB := [([97], [50]), ([98], [50])]
theorem ex_all : allL (([allL exA, allL exBb] : List (List PairB)).flatten) = [([97], [49]), ([98], [50]), ([99], [49])] := by decide
set_option maxRecDepth 40000 in
set_option maxHeartbeats 3200000 in
theorem c_awake (w : World) : Calls Try.prog 6 #[] w (BoolP w true) := by
  obtain ⟨s, hs⟩ : ∃ s, s = w.heap.size := ⟨_, rfl⟩
  obtain ⟨a1, a2, a3⟩ := lit2_prs w s hs 97 49 99 49
  obtain ⟨b1, b2, b3⟩ := lit2_prs (lit2 w s (97 : UInt8).toNat (49 : UInt8).toNat (99 : UInt8).toNat (49 : UInt8).toNat) (s + 1 + 1 + 1 + 1 + 1) a3.symm 97 50 98 50
  have kc : ∀ (w : World) (b : Nat) (C : Array Value) (n c : Nat), w.heap.size = b → (convert 23 23 (.slice (some ⟨b, 0, none⟩) n c)).run Try.prog (w.alloc (.cells C 5)) = .ok (.slice (some ⟨b, 0, none⟩) n c) (w.alloc (.cells C 5 (C.size, C.size + 1))) := by
    rintro w b C n c rfl
    exact Lib.run_convert_bytes_const (P := Try.prog) w 23 5 C n c Try.underlying23 Try.underlying5
  obtain ⟨W, hW⟩ : ∃ W, W = lit2 (lit2 w s (97 : UInt8).toNat (49 : UInt8).toNat (99 : UInt8).toNat (49 : UInt8).toNat) (s + 1 + 1 + 1 + 1 + 1) (97 : UInt8).toNat (50 : UInt8).toNat (98 : UInt8).toNat (50 : UInt8).toNat := ⟨_, rfl⟩
  rw [← hW] at b1 b2 b3
  have a4 : Prs W W.heap.size (some ⟨s + 1 + 1 + 1 + 1, 0, none⟩) 2 [pr1 s 97 49, pr1 (s + 1 + 1) 99 49] := (a1.below b2 (by omega)).more (by omega)
  have hbW : Below w.heap.size w W := by rw [← hs]; exact a2.trans (b2.mono (by omega))
  have HW := Lib.hid hW
  have Hs := Lib.hid hs
  have HA := Lib.hid (fun (V : World) (hV : Below W.heap.size W V) => c_List V (c := 2) (a4.below hV (Nat.le_refl _)) hV.size (by omega))
  have HB := Lib.hid (fun (V : World) (hV : Below W.heap.size W V) => c_List V (c := 2) (b1.below hV (Nat.le_refl _)) hV.size (by omega))
  unfold ListP at HA HB
  have HbW := Lib.hid hbW
  clear a1 a2 a3 b1 b2 b3 a4 hW hs hbW
  go_enter Try.func6, Try.ntmps6
  go_wp2_with fail
  rw [← Hs.out]
  have hWW := HW.out
  unfold lit2 at hWW
  simp only [show (((97 : UInt8).toNat : Nat) : Int) = 97 from rfl, show (((49 : UInt8).toNat : Nat) : Int) = 49 from rfl, show (((99 : UInt8).toNat : Nat) : Int) = 99 from rfl, show (((50 : UInt8).toNat : Nat) : Int) = 50 from rfl, show (((98 : UInt8).toNat : Nat) : Int) = 98 from rfl] at hWW
  rw [← hWW]
  clear hWW
  refine (HA.out W (Below.refl _ _)).mono ?_
  rintro e w1 ⟨s1, rfl, hl1, ha1, hb1, hz1⟩
  go_wp2_with fail
  refine (HB.out w1 hb1).mono ?_
  rintro e w2 ⟨s2, rfl, hl2, ha2, hb2, hz2⟩
  go_wp2_with fail
  have hS2 := srcs2 hl1 hl2 hb2
  have hb3 := (Below.refl w2.heap.size w2).alloc (Nat.le_refl _) (.cells #[.iface 85 (.pointer (some ⟨W.heap.size, 0, none⟩)), .iface 85 (.pointer (some ⟨w1.heap.size, 0, none⟩))] 59)
  have hlW := hl1.bk.lt
  have hlw := hl2.bk.lt
  have hD2 : ∀ b, ((W.heap.size + 1 ≤ b ∧ b < w1.heap.size) ∨ (w1.heap.size + 1 ≤ b ∧ b < w2.heap.size)) → b < w2.heap.size := fun b hb => by have := hb2.size; omega
  have h02 : Below W.heap.size W w2 := hb1.trans (hb2.mono hb1.size)
  have HAll := c_mAll W (w2.alloc (.cells #[.iface 85 (.pointer (some ⟨W.heap.size, 0, none⟩)), .iface 85 (.pointer (some ⟨w1.heap.size, 0, none⟩))] 59)) (c := 2) (all := [([97], [49]), ([98], [50]), ([99], [49])])
    (Ss := [some (W.heap.size, s1), some (w1.heap.size, s2)]) (n := 2) (A := some ⟨w2.heap.size, 0, none⟩) (rd_bzM (heap_alloc_new w2 _) rfl rfl) (Nat.le_refl _) (hS2.below hb3) (by omega) (fun b hb => by rw [World.size_alloc]; have := hD2 b hb; omega)
    (h02.trans (hb3.mono h02.size)) (fun k hk => by
      simp only [List.mem_cons, List.not_mem_nil, or_false, Option.some.injEq] at hk
      rcases hk with rfl | rfl
      · exact Nat.le_refl _
      · exact hb1.size)
    (by rw [← ex_all, show srcL [some (W.heap.size, s1), some (w1.heap.size, s2)] = [allL exA, allL exBb] by unfold srcL; simp only [List.filterMap_cons, List.filterMap_nil, id_eq, List.map_cons, List.map_nil, ha1, ha2]; rfl]; exact allL_all _)
    (fun l hl => by
      unfold srcL at hl
      simp only [List.filterMap_cons, List.filterMap_nil, id_eq, List.map_cons, List.map_nil, ha1, ha2, List.mem_cons, List.not_mem_nil, or_false] at hl
      rcases hl with rfl | rfl <;> exact (allL_all _).srt) (by decide)
  unfold MAllP at HAll
  have HAll := Lib.hid HAll
  clear hS2 hb3 hD2 h02 hl1 hl2 hb1 hb2 ha1 ha2 hz1 hz2 hlW hlw
  refine HAll.out.mono ?_
  rintro e w4 ⟨L, A4, c4, rfl, hE4, hL4, hb4⟩
  have hlen : L.length = 3 := by have := congrArg List.length hL4; rw [List.length_map] at this; exact this
  rw [hlen] at hE4 ⊢
  obtain ⟨b, o, m0, rfl, hbl, hm0, _, hmo0, hc0⟩ := hE4.at (k := 0) (by omega)
  obtain ⟨b', o', m1, e1, hbl', hm1, _, hmo1, hc1⟩ := hE4.at (k := 1) (by omega)
  cases e1
  have q0 : w4.cell? ⟨b, o + 0 * 2 + 1, none⟩ = some (.slice m0.A2 m0.n2 m0.c2) := hc0 w4 (Below.refl _ _) 1 _ rfl
  have q1 : w4.cell? ⟨b, o + 1 * 2, none⟩ = some (.slice m1.A1 m1.n1 m1.c1) := hc1 w4 (Below.refl _ _) 0 _ rfl
  simp only [Nat.zero_mul, Nat.add_zero, Nat.one_mul] at q0 q1
  have p0 : m0.pl = ([97], [49]) := by
    have h := congrArg (fun l : List PairB => l[0]?) hL4
    simp only [List.getElem?_map, hm0] at h
    simpa using h
  have p1 : m1.pl = ([98], [50]) := by
    have h := congrArg (fun l : List PairB => l[1]?) hL4
    simp only [List.getElem?_map, hm1] at h
    simpa using h
  have r0 := run_str (P := Try.prog) Try.underlying23 Try.underlying5 Try.underlying9 (c := m0.c2) (pr_ok hmo0).2.1
  have r1 := run_str (P := Try.prog) Try.underlying23 Try.underlying5 Try.underlying9 (c := m1.c1) (pr_ok hmo1).1
  rw [show m0.vl = [49] from congrArg Prod.snd p0] at r0
  rw [show m1.key = [98] from congrArg Prod.fst p1] at r1
  clear hE4 hm0 hmo0 hc0 hm1 hmo1 hc1 p0 p1 HAll hL4 HB
  have Hb4 := Lib.hid hb4
  clear hb4
  go_wp2_with fail
  refine (HA.out w4 Hb4.out).mono ?_
  rintro e w5 ⟨s5, rfl, hl5, ha5, hb5, hz5⟩
  clear q0 q1 r0 r1
  go_wp2_with fail
  have hb6 := (Below.refl w5.heap.size w5).alloc (Nat.le_refl _) (.cells #[.iface 85 (.pointer (some ⟨w4.heap.size, 0, none⟩))] 59)
  have HN := c_New (w5.alloc (.cells #[.iface 85 (.pointer (some ⟨w4.heap.size, 0, none⟩))] 59)) (c := 1) (n := 1) (A := some ⟨w5.heap.size, 0, none⟩) (Ss := [some (w4.heap.size, s5)]) (rd_bzM (heap_alloc_new w5 _) rfl rfl) (Nat.le_refl _) ((srcs1 hl5).below hb6) (by omega) (fun b hb => by rw [World.size_alloc]; have := hb.2; omega)
  unfold NewP at HN
  have HN := Lib.hid HN
  have Hb5 := Lib.hid (Hb4.out.trans ((hb5.trans (hb6.mono hb5.size)).mono Hb4.out.size))
  clear hb6 hl5 ha5 hb5
  refine HN.out.mono ?_
  rintro e w7 ⟨X, D7, rfl, _, _, hb7, _, _, _⟩
  go_wp2
  go_ret
  exact ⟨rfl, (HbW.out.trans (Hb5.out.mono HbW.out.size)).trans (hb7.mono (by have := HbW.out.size; have := Hb5.out.size; omega))⟩
end Go.Proofs.Ytedelkifadonjaa
