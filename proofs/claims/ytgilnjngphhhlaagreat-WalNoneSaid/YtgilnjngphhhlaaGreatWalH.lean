/- Layer 17: the frames at the front of bytes, told one by one: the iterator. -/
import Derived.Test.YtgilnjngphhhlaaGreatWalF
import Derived.WalkMore
import Derived.Test.YtgilnjngphhhlaaGreatHeldT
namespace Go.Lec
open Go.RowKit
/-- A frame that is told: its kind, its payload, its end, where the payload lies. -/
structure Pc (w : World) (n₁ : Nat) where
  k : UInt8
  p : List UInt8
  e : Nat
  A : Option Addr
  c : Nat
  rd : Rd w n₁ A p.length (bcs p)
  cap : p.length ≤ c
  small : p.length ≤ 65536
  ends : e ≤ 1000000
  kind : 1 ≤ k.toNat ∧ k.toNat ≤ 4
def Pc.pl {w : World} {n₁ : Nat} (x : Pc w n₁) : UInt8 × List UInt8 × Nat := (x.k, x.p, x.e)
def Pc.val {w : World} {n₁ : Nat} (x : Pc w n₁) : Value := .agg #[.int .u8 (x.k.toNat : Int), .slice x.A x.p.length x.c, .int .i64 (x.e : Int)]
end Go.Lec
namespace Go.Proofs.YtgilnjngphhhlaaGreat
open Go.RowKit Go.Lec Go.Shelf
attribute [local go_sem] Oper.semAt_some

/-- What a round keeps for the iterator: what lay below, its own box, tables. -/
structure Kp (n₁ Bs : Nat) (W W' : World) : Prop where
  below : Below n₁ W W'
  size : W.heap.size ≤ W'.heap.size
  box : ∀ o, W.heap[Bs]? = some o → W'.heap[Bs]? = some o
  tab : ∀ k cs, Bk W k 128 cs → Bk W' k 128 cs
theorem Kp.refl (n₁ Bs : Nat) (W : World) : Kp n₁ Bs W W := ⟨Below.refl _ _, Nat.le_refl _, fun _ h => h, fun _ _ h => h⟩
theorem Kp.trans {n₁ Bs : Nat} {A B C : World} (h : Kp n₁ Bs A B) (k : Kp n₁ Bs B C) : Kp n₁ Bs A C :=
  ⟨h.below.trans k.below, Nat.le_trans h.size k.size, fun o e => k.box o (h.box o e), fun i cs e => k.tab i cs (h.tab i cs e)⟩
theorem TabM.kp {n₁ Bs b : Nat} {W W' : World} (h : TabM W b) (k : Kp n₁ Bs W W') : TabM W' b := by obtain ⟨cs, hB, ht⟩ := h; exact ⟨cs, k.tab _ _ hB, ht⟩

theorem c_parts (w : World) (A : Option Addr) (n c : Nat) : Calls Tryz.prog 37 #[.slice A n c] w fun e w' => e = .returned (.func (.func 53) #[] #[.pointer (some ⟨w.heap.size, 0, none⟩)]) ∧ w' = w.alloc (.cells #[.slice A n c] 22) := by
  have hmf : ∀ (fn : Fn) (first cap : Array Value) (w : World), (Instr.makeFunc fn first cap).run Tryz.prog w = .ok (.func fn first cap) w := fun _ _ _ _ => rfl
  go_enter Tryz.func37, Tryz.ntmps37
  go_wp2
  go_ret
  exact ⟨rfl, rfl⟩

set_option maxRecDepth 100000 in
set_option maxHeartbeats 4000000 in
theorem parts1_in (n : Nat) (hn : 1 ≤ n) (l Bs n₁ : Nat) {N c : Nat} {A : Option Addr} {L : List UInt8} (w₀ : World) (hr : Rd w₀ n₁ A N (bcs L)) (hn₁ : n₁ ≤ w₀.heap.size) (hNc : N ≤ c) (hN : N ≤ 1000000) (J Jx : List (Pc w₀ n₁) → World → Prop) (W : World) (hW : Below w₀.heap.size w₀ W) (hJa : AbidesFrom W.heap.size J)
    (hY : ∀ pre (x : Pc w₀ n₁) W1, J pre W1 → pre.length < N → YieldAt Fence.wide (n - 1) Tryz.prog l #[x.val] W1 fun e W' =>
      (e = .returned (.bool true) ∧ J (pre ++ [x]) W' ∧ Kp n₁ Bs W1 W') ∨ (e = .returned (.bool false) ∧ Jx (pre ++ [x]) W'))
    (hBs : Bk W Bs 22 #[.slice A N c]) (h0 : J [] W) :
    CallsIn Fence.wide n Tryz.prog 53 #[.func (.yield l) #[] #[], .pointer (some ⟨Bs, 0, none⟩)] W fun e W' => (∃ v, e = .returned v) ∧
      ((∃ ys : List (Pc w₀ n₁), ys.map Pc.pl = pieces L 0 ∧ J ys W') ∨ (∃ pre : List (Pc w₀ n₁), pre.map Pc.pl <+: pieces L 0 ∧ Jx pre W')) := by
  have hln := hr.1
  rw [bcs_length] at hln
  have Hln := Lib.hid hln; clear hln
  have hrW := hr.below hW hn₁
  have hnW : n₁ ≤ W.heap.size := by have := hW.size; omega
  have hBl := hBs.lt
  have HN := Lib.hid (c_New W)
  refine callsIn_of_wp Tryz.func53 rfl trivial ?_ rfl
  simp only [Tryz.ntmps53, List.size_toArray, List.length_cons, List.length_nil, Nat.reduceAdd, Nat.reduceSub, Array.replicate_succ, Array.replicate_zero, List.push_toArray, List.append_toArray, List.nil_append, List.cons_append]
  refine wpIn_wide.2 ?_
  go_step3
  go_wp2_with (go_at_call 35; refine HN.out.mono ?_; rintro e w1 ⟨rfl, hT1, hb1, hs1⟩)
  go_step3
  go_wp2
  have hJ1 := hJa [] W w1 none h0 (grown_of_below hb1) (fun r e => by cases e)
  go_loopw [4] (fun i wr => ∃ (s : Nat) (pre : List (Pc w₀ n₁)), i = .int .i64 (s : Int) ∧ pre.map Pc.pl ++ pieces L s = pieces L 0 ∧ pre.length ≤ s ∧ s ≤ N ∧ J pre wr ∧ Below n₁ W wr ∧ Bk wr Bs 22 #[.slice A N c] ∧ W.heap.size < wr.heap.size ∧
      (TabM wr W.heap.size ∨ (pre = [] ∧ Tab wr W.heap.size ∧ Below W.heap.size W wr))) (fun i _ => N - (intOf i).toNat)
  case atStart => exact ⟨0, [], rfl, rfl, Nat.zero_le _, Nat.zero_le _, hJ1, hb1.mono hnW, hBs.below hb1 hBl, by omega, .inr ⟨rfl, hT1, hb1⟩⟩
  case round =>
    obtain ⟨s, pre, rfl, hps, hpl, hsN, hJ, hbr, hBr, hsz, hT⟩ := hrel
    have HT := Lib.hid hT
    have HJ := Lib.hid hJ
    have HP := Lib.hid hps
    have H0 := Lib.hid h0
    have HR0 := Lib.hid hr
    have HW := Lib.hid hW
    clear hJ1 hb1 hs1 hT1 HN h0 hBs hT hJ hps hr hW
    have qs : wr.cell? ⟨Bs, 0, none⟩ = some (.slice A N c) := hBr.cell 0
    obtain ⟨q, hq⟩ : ∃ q, q = 512 - s % 512 := ⟨_, rfl⟩
    have hqi : (512 - (s : Int) % 512) = (q : Int) := by omega
    have HQ := Lib.hid hq
    have hq1 : 0 < q := by omega
    have hq2 : q ≤ 512 := by omega
    clear hq
    by_cases hlt : s < N
    · obtain ⟨b, o, rfl, hbn, hcell⟩ := (hrW.below hbr (Nat.le_refl _)).byte hlt
      by_cases h7 : q < 7
      · have h7o : 512 - s % 512 < 7 := by rw [← HQ.out]; exact h7
        have H7 := Lib.hid h7o
        clear h7o
        have hsl : ((s + q : Nat) : Int) = (s : Int) + q := by omega
        have hq0 : 0 < q := by omega
        go_wp2
        go_loop [6] (fun i => ∃ j : Nat, j ≤ q ∧ i = .int .i64 ((s + j : Nat) : Int) ∧ s + j ≤ N ∧ Hid (∀ t, t < j → L.getD (s + t) 0 = 0)) (fun i => s + q - (intOf i).toNat)
        case atStart => exact ⟨0, Nat.zero_le _, rfl, by omega, Lib.hid (fun t ht => absurd ht (Nat.not_lt_zero _))⟩
        case round =>
          obtain ⟨j, hj, rfl, hjN, hz⟩ := hrel
          by_cases hjq : j < q
          · by_cases hjn : s + j < N
            · have hjL : s + j < L.length := by rw [Hln.out]; exact hjn
              have hd := hcell (s + j) hjL
              clear hcell
              have hgd : L.getD (s + j) 0 = L[s + j] := by simp [List.getD_eq_getElem?_getD, hjL]
              obtain ⟨x, hx⟩ : ∃ x, x = L[s + j] := ⟨_, rfl⟩
              rw [← hx] at hd hgd
              clear hx
              by_cases hx0 : x = 0
              · subst hx0
                have HG := Lib.hid hgd
                clear hgd
                go_wp2
                refine ⟨⟨j + 1, by omega, by omega, by omega, Lib.hid (fun t ht => ?_)⟩, by simp only [intOf]; omega⟩
                by_cases htj : t = j
                · subst htj; exact HG.out
                · exact hz.out t (by omega)
              · have hxz : ((x.toNat : Int) != 0) = true := by
                  have : x.toNat ≠ 0 := fun h => hx0 (UInt8.toNat_inj.1 h)
                  simp; omega
                have HG := Lib.hid hgd
                clear hgd
                have hno : pieces L s = [] := pieces_padno (by rw [Hln.out]; exact hlt) H7.out (fun h => hx0 (by rw [← HG.out]; exact h.2 j (by rw [← HQ.out]; exact hjq)))
                have HNO := Lib.hid hno
                clear hno hx0
                go_wp2
                try simp only [Exit.noGoto]
                go_end0
                exact ⟨⟨_, rfl⟩, .inl ⟨pre, by rw [← HP.out, HNO.out, List.append_nil], HJ.out⟩⟩
            · have hno : pieces L s = [] := pieces_padno (by rw [Hln.out]; exact hlt) H7.out (fun h => by have := h.1; have := Hln.out; have := HQ.out; omega)
              have HNO := Lib.hid hno
              clear hno
              go_wp2
              try simp only [Exit.noGoto]
              go_end0
              exact ⟨⟨_, rfl⟩, .inl ⟨pre, by rw [← HP.out, HNO.out, List.append_nil], HJ.out⟩⟩
          · obtain rfl : j = q := by omega
            have hok : padOk L s := ⟨by rw [← HQ.out, Hln.out]; exact hjN, fun t ht => hz.out t (by rw [HQ.out]; exact ht)⟩
            have hpp := pieces_pad (by rw [Hln.out]; exact hlt) H7.out hok
            rw [← HQ.out] at hpp
            have HPP := Lib.hid hpp
            clear hpp hok
            go_wp2
            exact ⟨⟨s + j, pre, by go_num, by rw [← HPP.out]; exact HP.out, by omega, hjN, HJ.out, hbr, hBr, hsz, HT.out⟩, by simp only [intOf]; omega⟩
      · by_cases hhd : N < s + 7
        · have hno : pieces L s = [] := pieces_headno (by omega) (fun h => by have := h.1; have := Hln.out; omega)
          have hni : ¬ (7 : Int) ≤ (N : Int) - (s : Int) := by omega
          have HNO := Lib.hid hno
          clear hno
          go_wp2
          try simp only [Exit.noGoto]
          go_end0
          exact ⟨⟨_, rfl⟩, .inl ⟨pre, by rw [← HP.out, HNO.out, List.append_nil], HJ.out⟩⟩
        · obtain ⟨x4, hx4⟩ : ∃ x, x = byteAt L (s + 4) := ⟨_, rfl⟩
          obtain ⟨x5, hx5⟩ : ∃ x, x = byteAt L (s + 5) := ⟨_, rfl⟩
          have hl4 := byteAt_lt L (s + 4)
          have hl5 := byteAt_lt L (s + 5)
          have hd4 := hcell (s + 4) (by rw [Hln.out]; omega)
          have hd5 := hcell (s + 5) (by rw [Hln.out]; omega)
          rw [← byteAt_get, ← hx4] at hd4
          rw [← byteAt_get, ← hx5] at hd5
          rw [← hx4] at hl4
          rw [← hx5] at hl5
          have hm : lenAt L s = x4 + 256 * x5 := by rw [lenAt, ← hx4, ← hx5]
          obtain ⟨m, hmm⟩ : ∃ m, m = lenAt L s := ⟨_, rfl⟩
          rw [← hmm] at hm
          have HM := Lib.hid hmm
          clear hmm hx4 hx5 hcell
          have hor := or_256 x4 x5 hl4 hl5
          rw [← hm] at hor
          have HM2 := Lib.hid hm
          clear hm
          by_cases hbd : m + 7 ≤ q ∧ s + 7 + m ≤ N
          · obtain ⟨hb1', hb2'⟩ := hbd
            obtain ⟨AB, hcutB, hrB⟩ := run_cut2I wslb HR0.out hNc (s + 6) (s + 7 + m) (by omega) (by omega) .i64 .i64 ((s : Int) + 6) ((s : Int) + 7 + m) (by omega) (by omega)
            obtain ⟨A4, hcut4, hr4⟩ := run_cut2I wslb (hrW.below hbr (Nat.le_refl _)) hNc s (s + 4) (by omega) (by omega) .i64 .i64 (s : Int) ((s : Int) + 4) rfl (by omega)
            rw [show s + 7 + m - (s + 6) = m + 1 by omega] at hcutB hrB
            rw [show s + 4 - s = 4 by omega] at hcut4 hr4
            go_wp2
            go_quiet (fail)
            go_wp2
            have hbl := body_cut (b := L) (s := s) (by rw [← HM.out, Hln.out]; exact hb2')
            rw [← HM.out] at hbl
            have hrB0 : Rd w₀ n₁ AB (m + 1) (bcs (kindAt L s :: payAt L s)) := by
              rw [← hbl]
              rw [show bcs ((L.take (s + 7 + m)).drop (s + 6)) = ((bcs L).take (s + 7 + m)).drop (s + 6) by simp [bcs]]
              exact hrB
            have hrB2 := (hrB0.below HW.out hn₁).below hbr (Nat.le_refl _)
            have HB0 := Lib.hid hrB0
            clear hrB0
            have hr42 : Rd wr n₁ A4 4 (bcs ((L.drop s).take 4)) := by
              have e : (L.drop s).take 4 = (L.take (s + 4)).drop s := by rw [List.drop_take, show s + 4 - s = 4 by omega]
              rw [e, show bcs ((L.take (s + 4)).drop s) = ((bcs L).take (s + 4)).drop s by simp [bcs]]
              exact hr4
            obtain ⟨b', o', rfl, hbn', hkc⟩ := hrB2.byte (k := 0) (by omega)
            have hkc0 : wr.cell? ⟨b', o', none⟩ = some (.int .u8 ((kindAt L s).toNat : Int)) := hkc 0 (by simp)
            clear hkc hrB hr4 hbl hd4 hd5 hor hl4 hl5
            have hTab : Tab wr W.heap.size := by rcases HT.out with h | ⟨_, h, _⟩; exact h.tab; exact h
            obtain ⟨wq, hwq⟩ : ∃ wq, wq = wr.drewN nq := ⟨_, rfl⟩
            rw [← hwq]
            have hKd : Kb [W.heap.size] wr wq.drew := by rw [hwq]; exact ((Kb.refl _ _).drewN _).drew
            have hTd : Tab wq.drew W.heap.size := by rw [hwq]; exact hTab
            have hrd : Rd wq.drew n₁ (some ⟨b', o', none⟩) (m + 1) (bcs (kindAt L s :: payAt L s)) := by rw [hwq]; exact hrB2
            have hr4d : Rd wq.drew n₁ A4 4 (bcs ((L.drop s).take 4)) := by rw [hwq]; exact hr42
            have hqd : wq.drew.cell? ⟨Bs, 0, none⟩ = some (.slice (some ⟨b, o, none⟩) N c) := by rw [hwq]; exact qs
            have hkd0 : wq.drew.cell? ⟨b', o', none⟩ = some (.int .u8 ((kindAt L s).toNat : Int)) := by rw [hwq]; exact hkc0
            have hszd : W.heap.size < wq.drew.heap.size := by rw [hwq]; exact hsz
            have ha4 : Apart A4 W.heap.size := by
              obtain ⟨b4, o4, e4, hb4, _⟩ := hr42.2 (by omega)
              intro a ha
              rw [e4] at ha
              cases ha
              dsimp only
              omega
            obtain ⟨kd, hkd⟩ : ∃ kd, kd = kindAt L s := ⟨_, rfl⟩
            obtain ⟨py, hpy⟩ : ∃ py, py = payAt L s := ⟨_, rfl⟩
            obtain ⟨X, hX⟩ : ∃ X, X = crcOf (kd :: py) := ⟨_, rfl⟩
            obtain ⟨M, hMx⟩ : ∃ M, M = maskOf X := ⟨_, rfl⟩
            obtain ⟨R, hR⟩ : ∃ R, R = decide (le 4 M.toNat = (L.drop s).take 4) := ⟨_, rfl⟩
            have hMl := M.isLt
            rw [← hkd] at hkd0
            rw [← hkd, ← hpy] at hrd
            have HSum := Lib.hid (c_Sum wq.drew W.heap.size (c := c - (s + 6)) hTd hrd (by omega) (fun a ha => by cases ha; dsimp only; omega) (by omega))
            rw [← hX] at HSum
            have HMask := Lib.hid (fun w => c_Mask w X)
            rw [← hMx] at HMask
            have HNum : ∀ W, Calls Tryz.prog 50 #[.int .u32 (M.toNat : Int), .int .i64 4] W (RetB W (le 4 M.toNat)) := fun W => c_number W M.toNat 4 (by omega) (by omega)
            have HNum := Lib.hid HNum
            have HEq := Lib.hid (fun (w : World) (A' : Option Addr) (c' : Nat) (h1 : Rd w w.heap.size A' 4 (bcs (le 4 M.toNat))) (h2 : Rd w n₁ A4 4 (bcs ((L.drop s).take 4))) (h3 : n₁ ≤ w.heap.size) => c_Equal w (c := c') (c' := c - s) h1 (Nat.le_refl _) h2 h3 (by omega))
            simp only [← hR] at HEq
            have HC := Lib.hid (fun (wc : World) (hk : Kb [W.heap.size] wq.drew wc) => (⟨(hk.cell (p := ⟨Bs, 0, none⟩) (by dsimp only; omega) (by dsimp only; simp; omega)).trans hqd, (hk.cell (p := ⟨b', o', none⟩) (by dsimp only; omega) (by dsimp only; simp; omega)).trans hkd0⟩ :
              wc.cell? ⟨Bs, 0, none⟩ = some (.slice (some ⟨b, o, none⟩) N c) ∧ wc.cell? ⟨b', o', none⟩ = some (.int .u8 (kd.toNat : Int))))
            have HJg : ∀ w2 w4 : World, (TabM wq.drew W.heap.size → Below wq.drew.heap.size wq.drew w2) → Below w2.heap.size w2 w4 → Kb [W.heap.size] wq.drew w2 → Kb [W.heap.size] wq.drew w4 → J pre w4 := by
              intro w2 w4 hNo hb24 hK2 hK4
              have hK4r : Kb [W.heap.size] wr w4 := hKd.trans hK4 (fun x hx => .inl hx)
              rcases HT.out with h | ⟨rfl, _, h⟩
              · have hq : TabM wq.drew W.heap.size := by rw [hwq]; exact h
                have hJq : J pre wq.drew := by
                  rw [hwq]
                  exact hJa _ wr _ none HJ.out (grown_of_below (belowN (Below.refl _ _) _).drew) (fun r e => by cases e)
                exact hJa _ _ w4 none hJq (grown_of_below ((hNo hq).trans (hb24.mono hK2.size))) (fun r e => by cases e)
              · exact hJa _ W w4 none H0.out (grown_of_below (h.trans (hK4r.below (fun x hx => by rw [List.mem_singleton.1 hx]; exact Nat.le_refl _) (by omega)))) (fun r e => by cases e)
            have HJG := Lib.hid HJg
            clear HJg
            have Hwq := Lib.hid hwq
            have HX := Lib.hid hX
            have HMx := Lib.hid hMx
            have HR := Lib.hid hR
            have HKD := Lib.hid hkd
            have HPY := Lib.hid hpy
            have HTn := Lib.hid hTab
            clear hwq hX hMx hR hkd hpy hTab hkc0 qs hrd hTd hrB2 hr42 hkd0 hqd
            by_cases hE : R = true ∧ 1 ≤ kd.toNat ∧ kd.toNat ≤ 4
            · obtain ⟨rfl, hk1, hk4⟩ := hE
              have hw4 : IntKind.i64.wrap ((s : Int) + 4) = (s : Int) + 4 := IntWalk.i64_in _ (by omega)
              have hk1d : decide ((kd.toNat : Int) < 1) = false := decide_eq_false (by omega)
              have hk4d : decide ((4 : Int) < (kd.toNat : Int)) = false := decide_eq_false (by omega)
              go_region_held3 (fun W => W.cell? ⟨Bs, 0, none⟩ = some (.slice (some ⟨b, o, none⟩) N c) ∧ W.cell? ⟨b', o', none⟩ = some (.int .u8 (kd.toNat : Int)))
                (first | (exact HC.out _ (Kb.refl _ _)) | (exact HC.out _ hK2) | (exact HC.out _ hK3) | (exact HC.out _ hK4))
                (first | (go_at_call 52; refine HSum.out.mono ?_; rintro e w2 ⟨rfl, hK2, hT2, hM2, hNo⟩) | (go_at_call 51; refine (HMask.out _).mono ?_; rintro e w2' ⟨rfl, rfl⟩) | (go_at_call 50; refine (HNum.out _).mono ?_; rintro e w3 ⟨v3, rfl, ho3, hb3⟩; obtain ⟨A3, c3, rfl, hc3⟩ := ho3.shapeN (n := 4) (by rw [bcs_length, le_length]); have hK3 := hK2.then_ hb3 hK2.size) | (go_at_call 54; refine (HEq.out _ _ _ ho3.rd (hr4d.kb1 hK3 (by omega) ha4) (by have := hK3.size; omega)).mono ?_; rintro e w4 ⟨rfl, hb4⟩; have hK4 := hK3.then_ hb4 hK3.size))
              have hM4 : TabM w4 W.heap.size := ((hM2 (by omega)).below hb3 (by have := hK2.size; omega)).below hb4 (by have := hK3.size; omega)
              have hK4r : Kb [W.heap.size] wr w4 := hKd.trans hK4 (fun x hx => .inl hx)
              have hB4 : Bk w4 Bs 22 #[.slice (some ⟨b, o, none⟩) N c] := hBr.kb hK4r (by simp; omega)
              have hbr4 : Below n₁ W w4 := hbr.trans (hK4r.below (fun x hx => by rw [List.mem_singleton.1 hx]; exact hnW) (by omega))
              have hJ4 : J pre w4.drew := hJa _ w4 _ none (HJG.out w2' w4 hNo (hb3.trans (hb4.mono hb3.size)) hK2 hK4) (grown_of_below (Below.refl _ _).drew) (fun r e => by cases e)
              have hpm : py.length = m := by rw [HPY.out, payAt_length (by rw [← HM.out, Hln.out]; exact hb2'), ← HM.out]
              have hrB0 := HB0.out
              rw [← HKD.out, ← HPY.out] at hrB0
              obtain ⟨AP, hcutP, hrP⟩ := run_cutI wslb hrB0 (c := c - (s + 6)) (by omega) 1 (by omega) .i64 1 rfl
              rw [show m + 1 - 1 = m by omega] at hcutP hrP
              have hrP2 : Rd w₀ n₁ AP py.length (bcs py) := by rw [hpm]; exact hrP
              obtain ⟨E, hE⟩ : ∃ E : Nat, (s : Int) + (7 + (m : Int)) = (E : Int) := ⟨s + (7 + m), by omega⟩
              have hEn : E = s + 7 + m := by omega
              obtain ⟨xx, hpx, hxv⟩ : ∃ x : Pc w₀ n₁, x.pl = (kd, py, E) ∧ x.val = .agg #[.int .u8 (kd.toNat : Int), .slice AP m (c - (s + 6) - 1), .int .i64 (E : Int)] :=
                ⟨⟨kd, py, E, AP, c - (s + 6) - 1, hrP2, by omega, by omega, by omega, hk1, hk4⟩, rfl, by simp only [Pc.val, hpm]⟩
              obtain ⟨fn, tmps, assign, body, hy, hR⟩ := hY pre xx w4.drew hJ4 (by omega)
              rw [hxv] at hy
              have HPX := Lib.hid hpx
              have HEn := Lib.hid hEn
              have Hpm := Lib.hid hpm
              have HJ4 := Lib.hid hJ4
              clear hpx hxv hEn hpm hJ4 hrB0 hrP hrP2 hY HSum HMask HNum HEq HC hM2 hNo hK2 hK3 hK4 hT2 hb3 hb4 ho3 hk1d hk4d hr4d hKd
              go_wp2
              refine (wpIn_wide (n := n)).1 ?_
              have hmix : Tryz.prog.follows .mixedOrders = true := by kernel_rfl
              gi_region_with_o ((refine hR.mono ?_); rintro e W3 hz; obtain ⟨z, rfl, hzz⟩ : ∃ z, e = .returned (.bool z) ∧ ((z = true ∧ J (pre ++ [xx]) W3 ∧ Kp n₁ Bs w4.drew W3) ∨ (z = false ∧ Jx (pre ++ [xx]) W3)) := (by rcases hz with ⟨rfl, h⟩ | ⟨rfl, h⟩; exact ⟨true, rfl, .inl ⟨rfl, h⟩⟩; exact ⟨false, rfl, .inr ⟨rfl, h⟩⟩))
              have hok : headOk L s := ⟨by rw [Hln.out]; omega, by rw [← HM.out, ← HQ.out]; omega, by rw [← HM.out, Hln.out]; exact hb2', by
                rw [← HKD.out, ← HPY.out, ← HX.out, ← HMx.out]; exact (of_decide_eq_true HR.out.symm).symm, by rw [← HKD.out]; exact hk1, by rw [← HKD.out]; exact hk4⟩
              have hph := pieces_head (by rw [Hln.out]; exact hlt) (by rw [← HQ.out]; exact h7) hok
              rw [← HM.out, ← HKD.out, ← HPY.out, ← HEn.out] at hph
              have HPH := Lib.hid hph
              clear hph hok
              rcases hzz with ⟨rfl, hJ3, hk3⟩ | ⟨rfl, hJx3⟩
              · clear hz
                go_simp
                go_wp2
                have HE := HEn.out
                go_roundw
                case rel => exact ⟨E, pre ++ [xx], rfl, by rw [List.map_append, List.map_singleton, HPX.out, List.append_assoc, ← HP.out, HPH.out]; rfl, by rw [List.length_append, List.length_singleton]; omega, by omega, hJ3, hbr4.drew.trans hk3.below, hk3.box _ hB4, by have := hk3.size; have : wr.heap.size ≤ w4.heap.size := hK4r.size; have : w4.drew.heap.size = w4.heap.size := rfl; omega, .inl (TabM.kp (W := w4.drew) hM4 hk3)⟩
                case measure => simp only [intOf]; omega
              · clear hz
                go_simp
                go_wp2
                try rw [Exit.noGoto_ret]
                refine bodyPost_ret (results_none rfl _ _ _) rfl ?_
                exact ⟨⟨_, rfl⟩, .inr ⟨pre ++ [xx], ⟨pieces L E, by rw [List.map_append, List.map_singleton, HPX.out, List.append_assoc, ← HP.out, HPH.out]; rfl⟩, hJx3⟩⟩
            · have hno : pieces L s = [] := pieces_headno (by rw [← HQ.out]; exact h7) (fun h => hE ⟨by rw [HR.out]; exact decide_eq_true (by rw [HMx.out, HX.out, HKD.out, HPY.out]; exact h.2.2.2.1.symm), by rw [HKD.out]; exact h.2.2.2.2.1, by rw [HKD.out]; exact h.2.2.2.2.2⟩)
              have HNO := Lib.hid hno
              clear hno
              have hw4 : IntKind.i64.wrap ((s : Int) + 4) = (s : Int) + 4 := IntWalk.i64_in _ (by omega)
              by_cases hRt : R = true
              · subst hRt
                by_cases hk1 : 1 ≤ kd.toNat
                · have hk4 : ¬ kd.toNat ≤ 4 := fun h => hE ⟨rfl, hk1, h⟩
                  have hk1d : decide ((kd.toNat : Int) < 1) = false := decide_eq_false (by omega)
                  have hk4d : decide ((4 : Int) < (kd.toNat : Int)) = true := decide_eq_true (by omega)
                  clear hE
                  go_region_held3 (fun W => W.cell? ⟨Bs, 0, none⟩ = some (.slice (some ⟨b, o, none⟩) N c) ∧ W.cell? ⟨b', o', none⟩ = some (.int .u8 (kd.toNat : Int)))
                    (first | (exact HC.out _ (Kb.refl _ _)) | (exact HC.out _ hK2) | (exact HC.out _ hK3) | (exact HC.out _ hK4))
                    (first | (go_at_call 52; refine HSum.out.mono ?_; rintro e w2 ⟨rfl, hK2, hT2, hM2, hNo⟩) | (go_at_call 51; refine (HMask.out _).mono ?_; rintro e w2' ⟨rfl, rfl⟩) | (go_at_call 50; refine (HNum.out _).mono ?_; rintro e w3 ⟨v3, rfl, ho3, hb3⟩; obtain ⟨A3, c3, rfl, hc3⟩ := ho3.shapeN (n := 4) (by rw [bcs_length, le_length]); have hK3 := hK2.then_ hb3 hK2.size) | (go_at_call 54; refine (HEq.out _ _ _ ho3.rd (hr4d.kb1 hK3 (by omega) ha4) (by have := hK3.size; omega)).mono ?_; rintro e w4 ⟨rfl, hb4⟩; have hK4 := hK3.then_ hb4 hK3.size))
                  go_wp2
                  try simp only [Exit.noGoto]
                  go_end0
                  exact ⟨⟨_, rfl⟩, .inl ⟨pre, by rw [← HP.out, HNO.out, List.append_nil], HJG.out w2' w4 hNo (hb3.trans (hb4.mono hb3.size)) hK2 hK4⟩⟩
                · have hk1d : decide ((kd.toNat : Int) < 1) = true := decide_eq_true (by omega)
                  clear hE
                  have hHeld : (fun W : World => W.cell? ⟨Bs, 0, none⟩ = some (.slice (some ⟨b, o, none⟩) N c) ∧ W.cell? ⟨b', o', none⟩ = some (.int .u8 (kd.toNat : Int))) _ := HC.out _ (Kb.refl _ _)
                  refine wp_region_held (S := fun W : World => W.cell? ⟨Bs, 0, none⟩ = some (.slice (some ⟨b, o, none⟩) N c) ∧ W.cell? ⟨b', o', none⟩ = some (.int .u8 (kd.toNat : Int))) (by kernel_rfl) ?_
                  simp only [List.size_toArray, List.length_cons, List.length_nil, Nat.reduceAdd]
                  refine heldTake (i := 0) (v := ?_) rfl (by kernel_rfl) (by kernel_rfl) (by kernel_rfl) (fun _ _ _ h => h) hHeld (by rfl) ?_ ?_
                  rotate_left
                  · (intro w hSw; (try dsimp only at hSw); go_simp; try with_reducible rfl)
                  try simp only [Act.put, List.setIfInBounds_toArray, List.set_cons_zero, List.set_cons_succ]
                  refine heldTake (i := 1) (v := ?_) rfl (by kernel_rfl) (by kernel_rfl) (by kernel_rfl) (fun _ _ _ h => h) hHeld (by rfl) ?_ ?_
                  rotate_left
                  · (intro w hSw; (try dsimp only at hSw); go_simp; try with_reducible rfl)
                  try simp only [Act.put, List.setIfInBounds_toArray, List.set_cons_zero, List.set_cons_succ]
                  refine heldTake (i := 5) (v := ?_) rfl (by kernel_rfl) (by kernel_rfl) (by kernel_rfl) (fun _ _ _ h => h) hHeld (by rfl) ?_ ?_
                  rotate_left
                  · (intro w hSw; (try dsimp only at hSw); go_simp; try with_reducible rfl)
                  try simp only [Act.put, List.setIfInBounds_toArray, List.set_cons_zero, List.set_cons_succ]
                  refine heldTake (i := 6) (v := ?_) rfl (by kernel_rfl) (by kernel_rfl) (by kernel_rfl) (fun _ _ _ h => h) hHeld (by rfl) ?_ ?_
                  rotate_left
                  · (intro w hSw; (try dsimp only at hSw); go_simp; try with_reducible rfl)
                  try simp only [Act.put, List.setIfInBounds_toArray, List.set_cons_zero, List.set_cons_succ]
                  refine heldTake (i := 7) (v := ?_) rfl (by kernel_rfl) (by kernel_rfl) (by kernel_rfl) (fun _ _ _ h => h) hHeld (by rfl) ?_ ?_
                  rotate_left
                  · (intro w hSw; (try dsimp only at hSw); go_simp; try with_reducible rfl)
                  try simp only [Act.put, List.setIfInBounds_toArray, List.set_cons_zero, List.set_cons_succ]
                  refine heldTake (i := 8) (v := ?_) rfl (by kernel_rfl) (by kernel_rfl) (by kernel_rfl) (fun _ _ _ h => h) hHeld (by rfl) ?_ ?_
                  rotate_left
                  · (intro w hSw; (try dsimp only at hSw); go_simp; try with_reducible rfl)
                  try simp only [Act.put, List.setIfInBounds_toArray, List.set_cons_zero, List.set_cons_succ]
                  refine heldTake (i := 9) (v := ?_) rfl (by kernel_rfl) (by kernel_rfl) (by kernel_rfl) (fun _ _ _ h => h) hHeld (by rfl) ?_ ?_
                  rotate_left
                  · (intro w hSw; (try dsimp only at hSw); go_simp; try with_reducible rfl)
                  try simp only [Act.put, List.setIfInBounds_toArray, List.set_cons_zero, List.set_cons_succ]
                  refine heldStep (i := 2) rfl (by kernel_rfl) (fun K hK => ?_)
                  go_simp
                  refine HSum.out.mono ?_; rintro e w2 ⟨rfl, hK2, hT2, hM2, hNo⟩
                  refine hK.out _ _ (HC.out _ hK2) (fun hHeld => ?_)
                  clear hK K
                  try simp only [Act.put, List.setIfInBounds_toArray, List.set_cons_zero, List.set_cons_succ]
                  refine heldStep (i := 3) rfl (by kernel_rfl) (fun K hK => ?_)
                  go_simp
                  refine (HMask.out _).mono ?_; rintro e w2' ⟨rfl, rfl⟩
                  refine hK.out _ _ (HC.out _ hK2) (fun hHeld => ?_)
                  clear hK K
                  try simp only [Act.put, List.setIfInBounds_toArray, List.set_cons_zero, List.set_cons_succ]
                  refine heldStep (i := 4) rfl (by kernel_rfl) (fun K hK => ?_)
                  go_simp
                  refine (HNum.out _).mono ?_; rintro e w3 ⟨v3, rfl, ho3, hb3⟩; obtain ⟨A3, c3, rfl, hc3⟩ := ho3.shapeN (n := 4) (by rw [bcs_length, le_length]); have hK3 := hK2.then_ hb3 hK2.size
                  refine hK.out _ _ (HC.out _ hK3) (fun hHeld => ?_)
                  clear hK K
                  try simp only [Act.put, List.setIfInBounds_toArray, List.set_cons_zero, List.set_cons_succ]
                  refine heldStep (i := 10) rfl (by kernel_rfl) (fun K hK => ?_)
                  go_simp
                  refine (HEq.out _ _ _ ho3.rd (hr4d.kb1 hK3 (by omega) ha4) (by have := hK3.size; omega)).mono ?_; rintro e w4 ⟨rfl, hb4⟩; have hK4 := hK3.then_ hb4 hK3.size
                  refine hK.out _ _ (HC.out _ hK4) (fun hHeld => ?_)
                  clear hK K
                  try simp only [Act.put, List.setIfInBounds_toArray, List.set_cons_zero, List.set_cons_succ]
                  refine heldTake (i := 11) (v := ?_) rfl (by kernel_rfl) (by kernel_rfl) (by kernel_rfl) (fun _ _ _ h => h) hHeld (by rfl) ?_ ?_
                  rotate_left
                  · (intro w hSw; (try dsimp only at hSw); go_simp; try with_reducible rfl)
                  try simp only [Act.put, List.setIfInBounds_toArray, List.set_cons_zero, List.set_cons_succ]
                  refine heldTake (i := 12) (v := ?_) rfl (by kernel_rfl) (by kernel_rfl) (by kernel_rfl) (fun _ _ _ h => h) hHeld (by rfl) ?_ ?_
                  rotate_left
                  · (intro w hSw; (try dsimp only at hSw); go_simp; try with_reducible rfl)
                  try simp only [Act.put, List.setIfInBounds_toArray, List.set_cons_zero, List.set_cons_succ]
                  refine heldTake (i := 13) (v := ?_) rfl (by kernel_rfl) (by kernel_rfl) (by kernel_rfl) (fun _ _ _ h => h) hHeld (by rfl) ?_ ?_
                  rotate_left
                  · (intro w hSw; (try dsimp only at hSw); go_simp; try with_reducible rfl)
                  try simp only [Act.put, List.setIfInBounds_toArray, List.set_cons_zero, List.set_cons_succ]
                  refine heldTake (i := 14) (v := ?_) rfl (by kernel_rfl) (by kernel_rfl) (by kernel_rfl) (fun _ _ _ h => h) hHeld (by rfl) ?_ ?_
                  rotate_left
                  · (intro w hSw; (try dsimp only at hSw); go_simp; try with_reducible rfl)
                  try simp only [Act.put, List.setIfInBounds_toArray, List.set_cons_zero, List.set_cons_succ]
                  refine heldTake (i := 15) (v := ?_) rfl (by kernel_rfl) (by kernel_rfl) (by kernel_rfl) (fun _ _ _ h => h) hHeld (by rfl) ?_ ?_
                  rotate_left
                  · (intro w hSw; (try dsimp only at hSw); go_simp; try with_reducible rfl)
                  try simp only [Act.put, List.setIfInBounds_toArray, List.set_cons_zero, List.set_cons_succ]
                  refine heldTake (i := 16) (v := ?_) rfl (by kernel_rfl) (by kernel_rfl) (by kernel_rfl) (fun _ _ _ h => h) hHeld (by rfl) ?_ ?_
                  rotate_left
                  · (intro w hSw; (try dsimp only at hSw); go_simp; try with_reducible rfl)
                  try simp only [Act.put, List.setIfInBounds_toArray, List.set_cons_zero, List.set_cons_succ]
                  refine heldTake (i := 17) (v := ?_) rfl (by kernel_rfl) (by kernel_rfl) (by kernel_rfl) (fun _ _ _ h => h) hHeld (by rfl) ?_ ?_
                  rotate_left
                  · (intro w hSw; (try dsimp only at hSw); go_simp; try with_reducible rfl)
                  try simp only [Act.put, List.setIfInBounds_toArray, List.set_cons_zero, List.set_cons_succ]
                  refine heldTake (i := 18) (v := ?_) rfl (by kernel_rfl) (by kernel_rfl) (by kernel_rfl) (fun _ _ _ h => h) hHeld (by rfl) ?_ ?_
                  rotate_left
                  · (intro w hSw; (try dsimp only at hSw); go_simp; try with_reducible rfl)
                  try simp only [Act.put, List.setIfInBounds_toArray, List.set_cons_zero, List.set_cons_succ]
                  refine heldPass (i := 19) rfl (by kernel_rfl) (by kernel_rfl) (by kernel_rfl) (fun _ _ _ h => h) hHeld (by rfl) ?_
                  try simp only [Act.put, List.setIfInBounds_toArray, List.set_cons_zero, List.set_cons_succ]
                  refine heldPass (i := 20) rfl (by kernel_rfl) (by kernel_rfl) (by kernel_rfl) (fun _ _ _ h => h) hHeld (by rfl) ?_
                  try simp only [Act.put, List.setIfInBounds_toArray, List.set_cons_zero, List.set_cons_succ]
                  refine heldPass (i := 21) rfl (by kernel_rfl) (by kernel_rfl) (by kernel_rfl) (fun _ _ _ h => h) hHeld (by rfl) ?_
                  try simp only [Act.put, List.setIfInBounds_toArray, List.set_cons_zero, List.set_cons_succ]
                  refine heldPass (i := 22) rfl (by kernel_rfl) (by kernel_rfl) (by kernel_rfl) (fun _ _ _ h => h) hHeld (by rfl) ?_
                  try simp only [Act.put, List.setIfInBounds_toArray, List.set_cons_zero, List.set_cons_succ]
                  refine heldTake (i := 23) (v := ?_) rfl (by kernel_rfl) (by kernel_rfl) (by kernel_rfl) (fun _ _ _ h => h) hHeld (by rfl) ?_ ?_
                  rotate_left
                  · (intro w hSw; (try dsimp only at hSw); go_simp; try with_reducible rfl)
                  try simp only [Act.put, List.setIfInBounds_toArray, List.set_cons_zero, List.set_cons_succ]
                  refine wpAnyH_done (by kernel_rfl) ?_ _
                  go_wp2
                  try simp only [Exit.noGoto]
                  go_end0
                  exact ⟨⟨_, rfl⟩, .inl ⟨pre, by rw [← HP.out, HNO.out, List.append_nil], HJG.out w2' w4 hNo (hb3.trans (hb4.mono hb3.size)) hK2 hK4⟩⟩
              · obtain rfl : R = false := by cases R; rfl; exact absurd rfl hRt
                clear hE hRt
                have hHeld : (fun W : World => W.cell? ⟨Bs, 0, none⟩ = some (.slice (some ⟨b, o, none⟩) N c) ∧ W.cell? ⟨b', o', none⟩ = some (.int .u8 (kd.toNat : Int))) _ := HC.out _ (Kb.refl _ _)
                refine wp_region_held (S := fun W : World => W.cell? ⟨Bs, 0, none⟩ = some (.slice (some ⟨b, o, none⟩) N c) ∧ W.cell? ⟨b', o', none⟩ = some (.int .u8 (kd.toNat : Int))) (by kernel_rfl) ?_
                simp only [List.size_toArray, List.length_cons, List.length_nil, Nat.reduceAdd]
                refine heldTake (i := 0) (v := ?_) rfl (by kernel_rfl) (by kernel_rfl) (by kernel_rfl) (fun _ _ _ h => h) hHeld (by rfl) ?_ ?_
                rotate_left
                · (intro w hSw; (try dsimp only at hSw); go_simp; try with_reducible rfl)
                try simp only [Act.put, List.setIfInBounds_toArray, List.set_cons_zero, List.set_cons_succ]
                refine heldTake (i := 1) (v := ?_) rfl (by kernel_rfl) (by kernel_rfl) (by kernel_rfl) (fun _ _ _ h => h) hHeld (by rfl) ?_ ?_
                rotate_left
                · (intro w hSw; (try dsimp only at hSw); go_simp; try with_reducible rfl)
                try simp only [Act.put, List.setIfInBounds_toArray, List.set_cons_zero, List.set_cons_succ]
                refine heldTake (i := 5) (v := ?_) rfl (by kernel_rfl) (by kernel_rfl) (by kernel_rfl) (fun _ _ _ h => h) hHeld (by rfl) ?_ ?_
                rotate_left
                · (intro w hSw; (try dsimp only at hSw); go_simp; try with_reducible rfl)
                try simp only [Act.put, List.setIfInBounds_toArray, List.set_cons_zero, List.set_cons_succ]
                refine heldTake (i := 6) (v := ?_) rfl (by kernel_rfl) (by kernel_rfl) (by kernel_rfl) (fun _ _ _ h => h) hHeld (by rfl) ?_ ?_
                rotate_left
                · (intro w hSw; (try dsimp only at hSw); go_simp; try with_reducible rfl)
                try simp only [Act.put, List.setIfInBounds_toArray, List.set_cons_zero, List.set_cons_succ]
                refine heldTake (i := 7) (v := ?_) rfl (by kernel_rfl) (by kernel_rfl) (by kernel_rfl) (fun _ _ _ h => h) hHeld (by rfl) ?_ ?_
                rotate_left
                · (intro w hSw; (try dsimp only at hSw); go_simp; try with_reducible rfl)
                try simp only [Act.put, List.setIfInBounds_toArray, List.set_cons_zero, List.set_cons_succ]
                refine heldTake (i := 8) (v := ?_) rfl (by kernel_rfl) (by kernel_rfl) (by kernel_rfl) (fun _ _ _ h => h) hHeld (by rfl) ?_ ?_
                rotate_left
                · (intro w hSw; (try dsimp only at hSw); go_simp; try with_reducible rfl)
                try simp only [Act.put, List.setIfInBounds_toArray, List.set_cons_zero, List.set_cons_succ]
                refine heldTake (i := 9) (v := ?_) rfl (by kernel_rfl) (by kernel_rfl) (by kernel_rfl) (fun _ _ _ h => h) hHeld (by rfl) ?_ ?_
                rotate_left
                · (intro w hSw; (try dsimp only at hSw); go_simp; try with_reducible rfl)
                try simp only [Act.put, List.setIfInBounds_toArray, List.set_cons_zero, List.set_cons_succ]
                refine heldStep (i := 2) rfl (by kernel_rfl) (fun K hK => ?_)
                go_simp
                refine HSum.out.mono ?_; rintro e w2 ⟨rfl, hK2, hT2, hM2, hNo⟩
                refine hK.out _ _ (HC.out _ hK2) (fun hHeld => ?_)
                clear hK K
                try simp only [Act.put, List.setIfInBounds_toArray, List.set_cons_zero, List.set_cons_succ]
                refine heldStep (i := 3) rfl (by kernel_rfl) (fun K hK => ?_)
                go_simp
                refine (HMask.out _).mono ?_; rintro e w2' ⟨rfl, rfl⟩
                refine hK.out _ _ (HC.out _ hK2) (fun hHeld => ?_)
                clear hK K
                try simp only [Act.put, List.setIfInBounds_toArray, List.set_cons_zero, List.set_cons_succ]
                refine heldStep (i := 4) rfl (by kernel_rfl) (fun K hK => ?_)
                go_simp
                refine (HNum.out _).mono ?_; rintro e w3 ⟨v3, rfl, ho3, hb3⟩; obtain ⟨A3, c3, rfl, hc3⟩ := ho3.shapeN (n := 4) (by rw [bcs_length, le_length]); have hK3 := hK2.then_ hb3 hK2.size
                refine hK.out _ _ (HC.out _ hK3) (fun hHeld => ?_)
                clear hK K
                try simp only [Act.put, List.setIfInBounds_toArray, List.set_cons_zero, List.set_cons_succ]
                refine heldStep (i := 10) rfl (by kernel_rfl) (fun K hK => ?_)
                go_simp
                refine (HEq.out _ _ _ ho3.rd (hr4d.kb1 hK3 (by omega) ha4) (by have := hK3.size; omega)).mono ?_; rintro e w4 ⟨rfl, hb4⟩; have hK4 := hK3.then_ hb4 hK3.size
                refine hK.out _ _ (HC.out _ hK4) (fun hHeld => ?_)
                clear hK K
                try simp only [Act.put, List.setIfInBounds_toArray, List.set_cons_zero, List.set_cons_succ]
                refine heldTake (i := 11) (v := ?_) rfl (by kernel_rfl) (by kernel_rfl) (by kernel_rfl) (fun _ _ _ h => h) hHeld (by rfl) ?_ ?_
                rotate_left
                · (intro w hSw; (try dsimp only at hSw); go_simp; try with_reducible rfl)
                try simp only [Act.put, List.setIfInBounds_toArray, List.set_cons_zero, List.set_cons_succ]
                refine heldTake (i := 12) (v := ?_) rfl (by kernel_rfl) (by kernel_rfl) (by kernel_rfl) (fun _ _ _ h => h) hHeld (by rfl) ?_ ?_
                rotate_left
                · (intro w hSw; (try dsimp only at hSw); go_simp; try with_reducible rfl)
                try simp only [Act.put, List.setIfInBounds_toArray, List.set_cons_zero, List.set_cons_succ]
                refine heldPass (i := 13) rfl (by kernel_rfl) (by kernel_rfl) (by kernel_rfl) (fun _ _ _ h => h) hHeld (by rfl) ?_
                try simp only [Act.put, List.setIfInBounds_toArray, List.set_cons_zero, List.set_cons_succ]
                refine heldPass (i := 14) rfl (by kernel_rfl) (by kernel_rfl) (by kernel_rfl) (fun _ _ _ h => h) hHeld (by rfl) ?_
                try simp only [Act.put, List.setIfInBounds_toArray, List.set_cons_zero, List.set_cons_succ]
                refine heldPass (i := 15) rfl (by kernel_rfl) (by kernel_rfl) (by kernel_rfl) (fun _ _ _ h => h) hHeld (by rfl) ?_
                try simp only [Act.put, List.setIfInBounds_toArray, List.set_cons_zero, List.set_cons_succ]
                refine heldPass (i := 16) rfl (by kernel_rfl) (by kernel_rfl) (by kernel_rfl) (fun _ _ _ h => h) hHeld (by rfl) ?_
                try simp only [Act.put, List.setIfInBounds_toArray, List.set_cons_zero, List.set_cons_succ]
                refine heldTake (i := 17) (v := ?_) rfl (by kernel_rfl) (by kernel_rfl) (by kernel_rfl) (fun _ _ _ h => h) hHeld (by rfl) ?_ ?_
                rotate_left
                · (intro w hSw; (try dsimp only at hSw); go_simp; try with_reducible rfl)
                try simp only [Act.put, List.setIfInBounds_toArray, List.set_cons_zero, List.set_cons_succ]
                refine heldTake (i := 18) (v := ?_) rfl (by kernel_rfl) (by kernel_rfl) (by kernel_rfl) (fun _ _ _ h => h) hHeld (by rfl) ?_ ?_
                rotate_left
                · (intro w hSw; (try dsimp only at hSw); go_simp; try with_reducible rfl)
                try simp only [Act.put, List.setIfInBounds_toArray, List.set_cons_zero, List.set_cons_succ]
                refine heldPass (i := 19) rfl (by kernel_rfl) (by kernel_rfl) (by kernel_rfl) (fun _ _ _ h => h) hHeld (by rfl) ?_
                try simp only [Act.put, List.setIfInBounds_toArray, List.set_cons_zero, List.set_cons_succ]
                refine heldPass (i := 20) rfl (by kernel_rfl) (by kernel_rfl) (by kernel_rfl) (fun _ _ _ h => h) hHeld (by rfl) ?_
                try simp only [Act.put, List.setIfInBounds_toArray, List.set_cons_zero, List.set_cons_succ]
                refine heldPass (i := 21) rfl (by kernel_rfl) (by kernel_rfl) (by kernel_rfl) (fun _ _ _ h => h) hHeld (by rfl) ?_
                try simp only [Act.put, List.setIfInBounds_toArray, List.set_cons_zero, List.set_cons_succ]
                refine heldPass (i := 22) rfl (by kernel_rfl) (by kernel_rfl) (by kernel_rfl) (fun _ _ _ h => h) hHeld (by rfl) ?_
                try simp only [Act.put, List.setIfInBounds_toArray, List.set_cons_zero, List.set_cons_succ]
                refine heldTake (i := 23) (v := ?_) rfl (by kernel_rfl) (by kernel_rfl) (by kernel_rfl) (fun _ _ _ h => h) hHeld (by rfl) ?_ ?_
                rotate_left
                · (intro w hSw; (try dsimp only at hSw); go_simp; try with_reducible rfl)
                try simp only [Act.put, List.setIfInBounds_toArray, List.set_cons_zero, List.set_cons_succ]
                refine wpAnyH_done (by kernel_rfl) ?_ _
                go_wp2
                try simp only [Exit.noGoto]
                go_end0
                exact ⟨⟨_, rfl⟩, .inl ⟨pre, by rw [← HP.out, HNO.out, List.append_nil], HJG.out w2' w4 hNo (hb3.trans (hb4.mono hb3.size)) hK2 hK4⟩⟩
          · have hno : pieces L s = [] := pieces_headno (by rw [← HQ.out]; exact h7) (fun h => hbd ⟨by have := h.2.1; rw [← HM.out, ← HQ.out] at this; omega, by have := h.2.2.1; rw [← HM.out, Hln.out] at this; exact this⟩)
            have HNO := Lib.hid hno
            clear hno
            go_wp2
            go_quiet (fail)
            by_cases hg : m + 7 ≤ q
            · have hg2 : ¬ (m : Int) ≤ (N : Int) - s - 7 := by omega
              have hg3 : ¬ (q : Int) - 7 < m := by omega
              go_wp2
              try simp only [Exit.noGoto]
              go_end0
              exact ⟨⟨_, rfl⟩, .inl ⟨pre, by rw [← HP.out, HNO.out, List.append_nil], hJa _ wr _ none HJ.out (grown_of_below (belowN (Below.refl _ _) _)) (fun r e => by cases e)⟩⟩
            · have hg3 : (q : Int) - 7 < m := by omega
              go_wp2
              try simp only [Exit.noGoto]
              go_end0
              exact ⟨⟨_, rfl⟩, .inl ⟨pre, by rw [← HP.out, HNO.out, List.append_nil], hJa _ wr _ none HJ.out (grown_of_below (belowN (Below.refl _ _) _)) (fun r e => by cases e)⟩⟩
    · have he : pieces L s = [] := pieces_end (by rw [Hln.out]; omega)
      go_wp2
      simp only [Exit.noGoto]
      go_end0
      exact ⟨⟨_, rfl⟩, .inl ⟨pre, by rw [← HP.out, he, List.append_nil], HJ.out⟩⟩
end Go.Proofs.YtgilnjngphhhlaaGreat
