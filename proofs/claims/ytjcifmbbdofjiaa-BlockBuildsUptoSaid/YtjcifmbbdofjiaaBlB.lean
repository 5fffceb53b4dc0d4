/- Layer 20: a block is read: the walk of read. -/
import Derived.Test.YtjcifmbbdofjiaaBlA
import Derived.Test.YtjcifmbbdofjiaaBlR
import Derived.Deep.CutRange
namespace Go.Proofs.Ytjcifmbbdofjiaa
open Go.RowKit Go.Lec Go.Op
theorem infoIn : (Try.prog.info? 3).map (fun i => (i.zero, i.size, i.bytes)) = some (some (.int .i64 0), 1, 8) := by kernel_rfl
theorem sln : SlT Try.prog 40 3 (.int .i64 0) 8 := ⟨Try.underlying40, info_parts infoIn, rfl⟩
theorem infoEx : (Try.prog.info? 74).map (fun i => (i.zero, i.size, i.bytes)) = some (some (.agg #[.int .i64 0, .slice none 0 0, .slice none 0 0, .int .i64 0, .int .i64 0]), 5, 72) := by kernel_rfl
theorem sle : SlK Try.prog 63 74 (.agg #[.int .i64 0, .slice none 0 0, .slice none 0 0, .int .i64 0, .int .i64 0]) 72 5 := ⟨Try.underlying63, info_parts infoEx, rfl, by decide⟩
theorem rdV_ok {l : List UInt8} {v : Value} {k : Nat} (h : rdV l = .ok (v, k)) : ∃ x : Nat, rdU l = .ok (x, k) ∧ v = .int .u64 (x : Int) := by
  unfold rdV at h
  cases e : rdU l with
  | error err => rw [e] at h; cases h
  | ok p =>
    rw [e] at h
    simp only [Except.map, Except.ok.injEq, Prod.mk.injEq] at h
    exact ⟨p.1, by rw [← h.2], h.1.symm⟩
theorem rdV_err {l : List UInt8} {err : Int} (h : rdV l = .error err) : rdU l = .error err := by
  unfold rdV at h
  cases e : rdU l with
  | error err => rw [e] at h; cases h; rfl
  | ok p => rw [e] at h; cases h
def lenOf : Value → Nat
  | .slice _ n _ => n
  | _ => 0
/-- What a reading of entries holds. -/
structure RdIn (w W : World) (T : TypeId) (R : Nat) (v : Value) (X : List Ex) (AL : Option Addr) (nL : Nat) (last : List UInt8) : Prop where
  g : Gth encEx (fun b => w.heap.size ≤ b ∧ b ≠ R) w W T X v
  hi : ∀ g, v.ownBlock = some g → R < g
  rd : Rd W W.heap.size AL nL (bcs last)
  far : 0 < nL → ∀ a, AL = some a → a.block ≠ R ∧ some a.block ≠ v.ownBlock
theorem _root_.Go.Proofs.Ytjcifmbbdofjiaa.Rdr.gb {W W' : World} {R B : Nat} {A : Option Addr} {n c : Nat} {l : List UInt8} {at_ : Nat} {e : Int} {x : Option Nat} (h : Rdr W R B A n c l at_ e) (hg : W.grownBy W' x) (hx : ∀ g, x = some g → R < g) : Rdr W' R B A n c l at_ e :=
  ⟨h.bk.grownX hg (fun e => by have := hx R e.symm; omega), h.rd.grown hg (Nat.le_trans h.low (Nat.le_of_lt h.bk.lt)) (fun g e => by have := hx g e; have := h.low; omega), h.cap, h.low, h.in_⟩
/-- What read answers, or throws. -/
def RdPost (w : World) (b : List UInt8) (e : Ending) (w' : World) : Prop :=
  (∃ (l : List En) (ps : List Nat) (A n c : _) (Ap np cp : _) (X : List Ex), unB b = .ok (l, ps) ∧ e = .returned (.tuple #[.slice A n c, .slice Ap np cp]) ∧ Gth encEx (w.heap.size ≤ ·) w w' 74 X (.slice A n c) ∧ X.map Ex.en = l ∧ Lec.Own w' w.heap.size 3 (.slice Ap np cp) (ncs ps)) ∨
  (∃ err, unB b = .error err ∧ e = .panicked [{ v := blFailVal err, recovered := false }] ∧ Below w.heap.size w w')


set_option maxRecDepth 40000 in
set_option maxHeartbeats 3200000 in
theorem c_read (w : World) {B n c : Nat} {A : Option Addr} {b : List UInt8} (hr : Rd w B A n (bcs b)) (hc : n ≤ c) (hB : B ≤ w.heap.size) (hn : n ≤ 1099511627776) :
    Calls Try.prog 56 #[.slice A n c] w (RdPost w b) := by
  have hln := hr.1
  rw [bcs_length] at hln
  have Hln := Lib.hid hln
  clear hln
  by_cases h1 : 1048576 < n
  · have Hf := Lib.hid (show unB b = .error 2 from by unfold unB; rw [if_pos (by rw [Hln.out]; exact h1)])
    go_enter Try.func56, Try.ntmps56
    go_wp2_with (first | (go_at_call 47; refine (c_blMust_no _ _ _ ?_).mono ?_; (first | rfl | (simp; done) | (simp; omega) | (simp [*]; done)); rintro e w' ⟨rfl, rfl⟩))
    exact ⟨rfl, .inr ⟨2, Hf.out, rfl, Below.refl _ _⟩⟩
  by_cases h2 : n < 4
  · have Hf := Lib.hid (show unB b = .error 201 from by unfold unB; rw [if_neg (by rw [Hln.out]; exact h1), if_pos (by rw [Hln.out]; exact h2)])
    go_enter Try.func56, Try.ntmps56
    go_wp2_with (first | (go_at_call 47; refine (c_blMust_ok _ _ _ ?_).mono ?_; (first | rfl | (simp; done) | (simp; omega) | (simp [*]; done)); rintro e w' ⟨rfl, rfl⟩) | (go_at_call 47; refine (c_blMust_no _ _ _ ?_).mono ?_; (first | rfl | (simp; done) | (simp; omega) | (simp [*]; done)); rintro e w' ⟨rfl, rfl⟩))
    exact ⟨rfl, .inr ⟨201, Hf.out, rfl, Below.refl _ _⟩⟩
  have hcap : n ≤ c := hc
  obtain ⟨m, hm⟩ : ∃ m, m = manyOf b := ⟨_, rfl⟩
  obtain ⟨A1, hcut1, hr1⟩ := run_cutI (P := Try.prog) slb hr hcap (n - 4) (by omega) .i64 ((n : Int) - 4) (by omega)
  rw [← bcs_drop] at hr1
  have hRF := c_ReadFixed w (c := c - (n - 4)) hr1 hB (by omega) (by omega)
  rw [show n - (n - 4) = 4 from by omega, show unle ((b.drop (n - 4)).take 4) = m from by rw [hm, manyOf, Hln.out]] at hRF
  rw [show n - (n - 4) = 4 from by omega] at hcut1
  have HRF := Lib.hid hRF
  have hm32 : m < 4294967296 := by
    rw [hm, manyOf]
    have h3 := unle_lt ((b.drop (b.length - 4)).take 4)
    have h4 : (256 : Nat) ^ ((b.drop (b.length - 4)).take 4).length ≤ 256 ^ 4 := Nat.pow_le_pow_right (by decide) (by rw [List.length_take]; omega)
    omega
  have Hm := Lib.hid hm
  clear hm hRF hr1
  by_cases h3 : (n - 4) / 4 < m
  · have Hf := Lib.hid (show unB b = .error 201 from by unfold unB; rw [if_neg (by rw [Hln.out]; exact h1), if_neg (by rw [Hln.out]; exact h2), if_pos (by rw [Hln.out, ← Hm.out]; exact h3)])
    have h3' : ¬ (m : Int) ≤ ((n : Int) - 4) / 4 := by omega
    go_enter Try.func56, Try.ntmps56
    go_wp2_with (first | (go_at_call 47; refine (c_blMust_ok _ _ _ ?_).mono ?_; (first | rfl | (simp; done) | (simp; omega) | (simp [*]; done)); rintro e w' ⟨rfl, rfl⟩) | (go_at_call 65; refine HRF.out.mono ?_; rintro e w1 ⟨rfl, hb1⟩) | (go_at_call 47; refine (c_blMust_no _ _ _ ?_).mono ?_; (first | rfl | (simp; done) | (simp; omega) | (simp [*]; done)); rintro e w' ⟨rfl, rfl⟩))
    exact ⟨rfl, .inr ⟨201, Hf.out, rfl, hb1⟩⟩
  have h3' : (m : Int) ≤ ((n : Int) - 4) / 4 := by omega
  obtain ⟨E, hE⟩ : ∃ E, E = n - 4 - 4 * m := ⟨_, rfl⟩
  have Hu := Lib.hid (show unB b = (match rdAll (b.take E) with | none => .error 201 | some l => .ok (l, placesAt b E m)) from by
    unfold unB
    rw [if_neg (by rw [Hln.out]; exact h1), if_neg (by rw [Hln.out]; exact h2), if_neg (by rw [Hln.out, ← Hm.out]; exact h3), Hln.out, ← Hm.out, ← hE]
    cases rdAll (b.take E) <;> rfl)
  have hE1 : (n : Int) - 4 - 4 * (m : Int) = (E : Int) := by omega
  have hE2 : E + 4 * m + 4 = n := by omega
  clear hE h3
  go_enter Try.func56, Try.ntmps56
  go_upto_region 5 with (first | (go_at_call 47; refine (c_blMust_ok _ _ _ ?_).mono ?_; (first | rfl | (simp; done) | (simp; omega) | (simp [*]; done)); rintro e w' ⟨rfl, rfl⟩) | (go_at_call 65; refine HRF.out.mono ?_; rintro e w1 ⟨rfl, hb1⟩))
  clear hcut1 HRF h3'
  have hsz1 := hb1.size
  obtain ⟨P, hP⟩ : ∃ P, P = placesAt b E m := ⟨_, rfl⟩
  have hPl : P.length = m := by rw [hP]; simp [placesAt]
  rw [← hP] at Hu
  have HP := Lib.hid hP
  clear hP
  go_wp2
  go_loopw [8, 57] (fun v i wr => ∃ k : Nat, k ≤ m ∧ i = .int .i64 k ∧ Lec.Own wr w.heap.size 3 v (ncs (P.take k)) ∧ Below w.heap.size w wr) (fun _ i _ => m - (intOf i).toNat)
  case atStart => exact ⟨0, Nat.zero_le _, rfl, Lec.Own.nil_ _ _ _, hb1⟩
  case round =>
    obtain ⟨k, hk, rfl, ho, hb⟩ := hrel
    by_cases hlt : k < m
    · obtain ⟨Av, cv, rfl, hcv⟩ := ho.shapeN (n := k) (by rw [ncs_length, List.length_take, hPl]; omega)
      obtain ⟨A2, hcut2, hr2⟩ := run_cutI (P := Try.prog) slb hr hcap (E + 4 * k) (by omega) .i64 ((E : Int) + 4 * (k : Int)) (by omega)
      rw [← bcs_drop] at hr2
      obtain ⟨y, hy⟩ : ∃ y, y = unle ((b.drop (E + 4 * k)).take 4) := ⟨_, rfl⟩
      have hRF := c_ReadFixed wr (c := c - (E + 4 * k)) (hr2.below hb hB) (Nat.le_trans hB hb.size) (by omega) (by omega)
      rw [← hy] at hRF
      have HRF := Lib.hid hRF
      have hy32 : y < 4294967296 := by
        rw [hy]
        have h3 := unle_lt ((b.drop (E + 4 * k)).take 4)
        have h4 : (256 : Nat) ^ ((b.drop (E + 4 * k)).take 4).length ≤ 256 ^ 4 := Nat.pow_le_pow_right (by decide) (by rw [List.length_take]; omega)
        omega
      have HT := Lib.hid (show P.take (k + 1) = P.take k ++ [y] from by
        have hk' : k < P.length := by rw [hPl]; exact hlt
        rw [List.take_succ_eq_append_getElem hk']
        congr 2
        simp only [HP.out, placesAt, List.getElem_map, List.getElem_range]
        exact hy.symm)
      clear hRF hr2 hy
      go_wp2_with (first | (go_at_call 65; refine HRF.out.mono ?_; rintro e w3 ⟨rfl, hb3⟩; have ho3 := ho.below hb3 (Nat.le_refl _); have hb4 := hb.trans (hb3.mono hb.size)) | (at_builtin; (refine wpList_app_lit rfl _ _ rfl sln (by decide) rfl ho3 hb4 hb4.size [.int .i64 (y : Int)] rfl (by intro u hu; rw [List.mem_singleton.1 hu]; rfl) (by simp only [ncs_length, List.length_take, List.length_singleton]; omega) ?_); intro v5 w5 ho5 hb5 hs5))
      go_roundw
      case rel => exact ⟨k + 1, by omega, by go_num, by rw [HT.out, ncs_snoc]; exact ho5, hb5⟩
      case measure => simp [intOf]; omega
    · obtain rfl : k = m := by omega
      rw [List.take_of_length_le (by rw [hPl]; exact Nat.le_refl _)] at ho
      obtain ⟨Av, cv, rfl, hcv⟩ := ho.shapeN (n := k) (by rw [ncs_length, hPl])
      clear hPl HP
      have hEn : E ≤ n := by omega
      have hE64 : E ≤ 1048576 := by omega
      have hcutE : ∀ W, (Instr.slice 25 (.slice A n c) none (some (.int .i64 (E : Int))) none).run Try.prog W = .ok (.slice A E c) W := fun W => run_cutH slb A n c E (by omega) .i64 _ rfl W
      have hrE : Rd wr B A E (bcs (b.take E)) := by rw [bcs_take]; exact (hr.take_ hEn).below hb hB
      have hEl : (b.take E).length = E := by rw [List.length_take, Hln.out]; omega
      go_upto_region 14 with (first | (go_at_call 66; refine (c_RNew wr (c := c) hrE (Nat.le_trans hB hb.size) (by omega)).mono ?_; rintro e w2 ⟨R, BR, AR, cR, rfl, hRge, hR, hb2⟩))
      obtain ⟨bb, hbb⟩ : ∃ bb, bb = b.take E := ⟨_, rfl⟩
      rw [← hbb] at hR Hu hEl
      rw [hEl] at hR
      have HEl := Lib.hid hEl
      obtain ⟨RA, hRA⟩ : ∃ RA, RA = rdAll bb := ⟨_, rfl⟩
      rw [← hRA] at Hu
      have HRA := Lib.hid hRA
      have hbo := ho
      have hRl := hR.bk.lt
      have hsz2 := hb2.size
      clear hbb hEl hRA hr hcutE hrE hb1 hsz1 hm32 Hm hE1 hE2 hk hlt ho Hln hn h1 h2 hc hcap
      obtain ⟨W0, hW0⟩ : ∃ x, x = wr := ⟨_, rfl⟩
      subst hW0
      go_upto_region 16 with fail
      have hwr : RdIn W0 w2 74 R (.slice none 0 0) [] none 0 [] := ⟨Gth.nil _ _ _ _ hb2, (fun g e => by cases e), Rd.nil_, (fun h => absurd h (by decide))⟩
      go_loopw [14, 15] (fun v la W => ∃ (s : Nat) (X : List Ex) (AL : Option Addr) (nL cL : Nat) (last : List UInt8) (f : Nat), la = .slice AL nL cL ∧ nL ≤ cL ∧ RdIn W0 W 74 R v X AL nL last ∧ Rdr W R BR AR E cR bb s 0 ∧ Hid (RA = rdEs f bb s last (X.map Ex.en)) ∧ E + 1 ≤ f + s ∧ X.length ≤ s ∧ nL ≤ s) (fun v _ _ => E - lenOf v)
      case atStart => exact ⟨0, [], none, 0, 0, [], E + 1, rfl, Nat.le_refl _, hwr, hR, Lib.hid (by rw [HRA.out, rdAll, HEl.out]; rfl), by omega, Nat.zero_le _, Nat.zero_le _⟩
      case round =>
        clear hR hwr
        obtain ⟨s, X, AL, nL, cL, last, f, rfl, hcL, hI, hR, HRs, hfs, hXs, hnLs⟩ := hrel
        obtain ⟨As, cs, rfl, hcs⟩ := hI.g.own.shape
        by_cases hlt : s < E
        · have hb3 := (Below.refl wr.heap.size wr).alloc (Nat.le_refl _) (.cells #[.int .i64 (s : Int), .slice none 0 0, .slice none 0 0, .int .i64 0, .int .i64 0] 74)
          have HX := Bk.new_ wr 74 #[.int .i64 (s : Int), .slice none 0 0, .slice none 0 0, .int .i64 0, .int .i64 0]
          have hR3 := hR.below hb3 hR.bk.lt
          have hRl3 := hR.bk.lt
          obtain ⟨G, hG⟩ : ∃ G, G = wr.heap.size := ⟨_, rfl⟩
          go_upto_region 18 with (first | (go_at_call 67; refine (c_RAt _ hR).mono ?_; rintro e w' ⟨rfl, rfl⟩))
          obtain ⟨W3, hW3⟩ : ∃ W, W = wr.alloc (.cells #[.int .i64 (s : Int), .slice none 0 0, .slice none 0 0, .int .i64 0, .int .i64 0] 74) := ⟨_, rfl⟩
          have hg3 : wr.grownBy W3 (some R) := by rw [hW3]; exact gb_alloc (gb_refl _ _) _
          have hz3 : W3.heap.size = G + 1 := by rw [hW3, hG, World.size_alloc]
          rw [← hW3] at HX hR3 hb3 ⊢
          rw [← hG] at HX ⊢
          have HG := Lib.hid hG
          have Hz3 := Lib.hid hz3
          clear hW3 hG hz3
          go_cut [17, 18, 19] from 88 to 93 (fun a b c wx => (∃ h r v t : Nat, Hid (rd3 bb s = some (h, r, v, t)) ∧ a = .int .u64 (h : Int) ∧ b = .int .u64 (r : Int) ∧ c = .int .u64 (v : Int) ∧ Rdr wx R BR AR E cR bb t 0 ∧ Kb [R] W3 wx) ∨ (∃ (x y z : Int) (t : Nat) (err : Int), Hid (rd3 bb s = none) ∧ a = .int .u64 x ∧ b = .int .u64 y ∧ c = .int .u64 z ∧ err ≠ 0 ∧ Rdr wx R BR AR E cR bb t err ∧ Kb [R] W3 wx))
          case first =>
            clear HRs hI hfs hXs Hu HRA hbo hb hb2 hb3 HX hR hg3 HEl hEn hlt hcs hcL
            go_wp2_with fail
            refine (c_Uint1 W3 hR3 (by omega)).mono ?_
            rintro e w4 (⟨v1, k1, e1, rfl, hR4, hk4⟩ | ⟨err, e1, rfl, hR4, hk4⟩)
            · obtain ⟨x1, u1, rfl⟩ := rdV_ok e1
              have U1 := Lib.hid u1
              clear e1 u1
              go_wp2_with fail
              refine (c_Uint1 w4 hR4 (by omega)).mono ?_
              rintro e w5 (⟨v2, k2, e2, rfl, hR5, hk5⟩ | ⟨err, e2, rfl, hR5, hk5⟩)
              · obtain ⟨x2, u2, rfl⟩ := rdV_ok e2
                have U2 := Lib.hid u2
                have hk5' := hk4.trans hk5 (fun b hb => .inl hb)
                clear e2 u2
                go_wp2_with fail
                refine (c_Uint1 w5 hR5 (by omega)).mono ?_
                rintro e w6 (⟨v3, k3, e3, rfl, hR6, hk6⟩ | ⟨err, e3, rfl, hR6, hk6⟩)
                · obtain ⟨x3, u3, rfl⟩ := rdV_ok e3
                  have U3 := Lib.hid (show rd3 bb s = some (x1, x2, x3, s + k1 + k2 + k3) from by unfold rd3; rw [U1.out]; dsimp only; rw [U2.out]; dsimp only; rw [u3])
                  clear e3 u3
                  go_wp2
                  go_meet
                  case rel => exact .inl ⟨x1, x2, x3, _, U3, rfl, rfl, rfl, hR6, hk5'.trans hk6 (fun b hb => .inl hb)⟩
                · have he := rdU_err (rdV_err e3)
                  have U3 := Lib.hid (show rd3 bb s = none from by unfold rd3; rw [U1.out]; dsimp only; rw [U2.out]; dsimp only; rw [rdV_err e3])
                  have hne : err ≠ 0 := by omega
                  clear e3 he
                  go_wp2
                  go_meet
                  case rel => exact .inr ⟨x1, x2, 0, _, err, U3, rfl, rfl, rfl, hne, hR6, hk5'.trans hk6 (fun b hb => .inl hb)⟩
              · have he := rdU_err (rdV_err e2)
                have U3 := Lib.hid (show rd3 bb s = none from by unfold rd3; rw [U1.out]; dsimp only; rw [rdV_err e2])
                have hne : err ≠ 0 := by omega
                have hk5' := hk4.trans hk5 (fun b hb => .inl hb)
                clear e2 he
                go_wp2_with fail
                refine (c_Uint_bad w5 hR5 hne).mono ?_
                rintro e w6 ⟨rfl, hb6⟩
                go_wp2
                go_meet
                case rel => exact .inr ⟨x1, 0, 0, _, err, U3, rfl, rfl, rfl, hne, hR5.below hb6 hR5.bk.lt, hk5'.trans (Kb.of_below hb6) (fun b hb => .inl hb)⟩
            · have he := rdU_err (rdV_err e1)
              have U3 := Lib.hid (show rd3 bb s = none from by unfold rd3; rw [rdV_err e1])
              have hne : err ≠ 0 := by omega
              clear e1 he
              go_wp2_with fail
              refine (c_Uint_bad w4 hR4 hne).mono ?_
              rintro e w5 ⟨rfl, hb5⟩
              have hR5 := hR4.below hb5 hR4.bk.lt
              go_wp2_with fail
              refine (c_Uint_bad w5 hR5 hne).mono ?_
              rintro e w6 ⟨rfl, hb6⟩
              go_wp2
              go_meet
              case rel => exact .inr ⟨0, 0, 0, _, err, U3, rfl, rfl, rfl, hne, hR5.below hb6 hR5.bk.lt, (hk4.trans (Kb.of_below hb5) (fun b hb => .inl hb)).trans (Kb.of_below hb6) (fun b hb => .inl hb)⟩
          case rest =>
            have hrn : rdEs f bb s last (X.map Ex.en) = match rdE bb s last (X.map Ex.en).isEmpty with | none => none | some (e, t) => rdEs (f - 1) bb t e.key (X.map Ex.en ++ [e]) := by
              obtain ⟨f', rfl⟩ : ∃ f', f = f' + 1 := ⟨f - 1, by omega⟩
              rw [rdEs, if_pos (by rw [HEl.out]; exact hlt)]
              rfl
            have HRN := Lib.hid hrn
            have hIe : (X.map Ex.en).isEmpty = decide (X.length = 0) := by cases X <;> simp
            have HIe := Lib.hid hIe
            have HbF : Hid (∀ W' : World, wr.grownBy W' (some R) → Below w.heap.size w W') := Lib.hid (fun W' hg => by
              have h1 := hb.trans (hI.g.below.mono hb.size)
              exact below_gb h1 hg (by have := h1.size; omega) (by have := hb.size; omega))
            clear hrn hIe hR hR3 hbo hb3
            rcases hcut with ⟨h, r, v, t, H3, rfl, rfl, rfl, hR4, hk4⟩ | ⟨x, y, z, t, err, H3, rfl, rfl, rfl, hne, hR4, hk4⟩
            · obtain ⟨ht1, ht2⟩ := rd3_le H3.out (by rw [HEl.out]; omega)
              rw [HEl.out] at ht2
              have hll := hI.rd.1
              rw [bcs_length] at hll
              have Hll := Lib.hid hll
              have hg4 := gb_kb hg3 hk4 (fun b hb => .inl (by simpa using hb))
              have hX4 := HX.kb hk4 (by have := HG.out; simp; omega)
              have HF : Hid (RA = none → unB b = .error 201) := Lib.hid (fun e1 => by rw [Hu.out, e1])
              have hnL : (nL : Int) ≤ 1048576 := by omega
              have hMust : ∀ (z : Bool) (W : World), z = true → Calls Try.prog 47 #[.bool z, .int .i64 201] W fun e w' => e = .returned (.tuple #[]) ∧ W = w' := fun z W h => c_blMust_ok z 201 W h
              clear hll hMust HX hg3 hb hb2
              by_cases g1 : h ≤ nL
              · by_cases g2 : r ≤ 1048576
                · by_cases g3 : v ≤ 1048576
                  · have hHR : rdE bb s last (X.map Ex.en).isEmpty = if r + v ≤ E - t then (if decide (X.length = 0) || bytesLess last (last.take h ++ (bb.drop t).take r) then some (⟨s, last.take h ++ (bb.drop t).take r, (bb.drop (t + r)).take v, h, com last (last.take h ++ (bb.drop t).take r)⟩, t + r + v) else none) else none := by
                      rw [rdE, H3.out]
                      simp only []
                      rw [if_pos (by rw [Hll.out]; exact ⟨g1, g2, g3⟩), HEl.out, HIe.out]
                    have HHR := Lib.hid hHR
                    have d1 : (decide ((h : Int) ≤ (nL : Int))) = true := decide_eq_true (by omega)
                    have d2 : (decide ((r : Int) ≤ 1048576)) = true := decide_eq_true (by omega)
                    have d3 : (decide ((v : Int) ≤ 1048576)) = true := decide_eq_true (by omega)
                    have hdl : (bb.drop t).length = E - t := by rw [List.length_drop, HEl.out]
                    have Hdl := Lib.hid hdl
                    clear hHR hdl
                    by_cases hfit : r + v ≤ E - t
                    · rw [if_pos hfit] at HHR
                      go_upto_region 20 with (first | (go_at_call 69; refine (c_RErr _ hR4).mono ?_; rintro e w' ⟨rfl, rfl⟩) | (go_at_call 47; refine (c_blMust_ok _ _ _ ?_).mono ?_; (first | rfl | (simp; done) | (simp; omega) | (simp [*]; done)); rintro e w' ⟨rfl, rfl⟩))
                      go_wp2_with fail
                      refine (c_RTake wc (m := r) hR4 (by omega) (by omega)).mono ?_
                      rintro e w5 (⟨_, v5, rfl, hR5, ho5, hk5⟩ | ⟨h0, _⟩)
                      rotate_left
                      · rw [Hdl.out] at h0
                        omega
                      obtain ⟨A5, c5, rfl, hc5⟩ := ho5.shapeN (n := r) (by rw [bcs_length, List.length_take, Hdl.out]; omega)
                      go_wp2_with fail
                      refine (c_RTake w5 (m := v) hR5 (by omega) (by omega)).mono ?_
                      rintro e w6 (⟨_, v6, rfl, hR6, ho6, hk6⟩ | ⟨h0, _⟩)
                      rotate_left
                      · rw [List.length_drop, HEl.out] at h0
                        omega
                      obtain ⟨A6, c6, rfl, hc6⟩ := ho6.shapeN (n := v) (by rw [bcs_length, List.length_take, List.length_drop, HEl.out]; omega)
                      have hz4 := hg4.size
                      have hz5 := hk5.size
                      have hz6 := hk6.size
                      have hR4l := hR4.bk.lt
                      have hr5 := (Lec.Own.rd ho5).kbR hk6 (Nat.le_refl _) (fun _ a ha => by have := ho5.ge a ha; simp; omega)
                      have hr6 := Lec.Own.rd ho6
                      have hX6 := (hX4.kb hk5 (by have := HG.out; simp; omega)).kb hk6 (by have := HG.out; simp; omega)
                      have hg6 := gb_kb (gb_kb hg4 hk5 (fun b hb => .inl (by simpa using hb))) hk6 (fun b hb => .inl (by simpa using hb))
                      have hge5 : ∀ a, A5 = some a → wc.heap.size ≤ a.block := fun a ha => ho5.ge a ha
                      have hge6 : ∀ a, A6 = some a → w5.heap.size ≤ a.block := fun a ha => ho6.ge a ha
                      clear ho5 ho6 hX4 hg4 hR5 hk5 hk6 hR4
                      go_upto_region 22 with (first | (go_at_call 69; refine (c_RErr _ hR6).mono ?_; rintro e w' ⟨rfl, rfl⟩) | (go_at_call 47; refine (c_blMust_ok _ _ _ ?_).mono ?_; (first | rfl | (simp; done) | (simp; omega) | (simp [*]; done)); rintro e w' ⟨rfl, rfl⟩))
                      have xc6 := hX6.cell
                      have xz6 := hX6.frz
                      have hGc : G < wc.heap.size := by have := hk4.size; have := Hz3.out; omega
                      go_upto_region 23 with fail
                      have hX7 := hX6.set_ 3 (.int .i64 (h : Int))
                      have hg7 := gb_set hg6 (p := ⟨G, 3, none⟩) (by have := HG.out; dsimp only; omega) (.int .i64 (h : Int))
                      have hr57 := hr5.setFar (p := ⟨G, 3, none⟩) (fun _ a ha => by have := hge5 a ha; dsimp only; omega) (.int .i64 (h : Int))
                      have hr67 := hr6.setFar (p := ⟨G, 3, none⟩) (fun _ a ha => by have := hge6 a ha; dsimp only; omega) (.int .i64 (h : Int))
                      have hz7 : (w6.setCell ⟨G, 3, none⟩ (.int .i64 (h : Int))).heap.size = w6.heap.size := by simp
                      obtain ⟨W7, hW7⟩ : ∃ W, W = w6.setCell ⟨G, 3, none⟩ (.int .i64 (h : Int)) := ⟨_, rfl⟩
                      rw [← hW7] at hX7 hg7 hr57 hr67 hz7 ⊢
                      have hL7 : Rd W7 wr.heap.size AL nL (bcs last) := hI.rd.grownX (Nat.le_refl _) (fun h0 a ha e => (hI.far h0 a ha).1 (Option.some.inj e)) hg7
                      have hrL := hL7.take_ g1
                      rw [← bcs_take] at hrL
                      have hcutL := fun W => run_cutH (P := Try.prog) slb AL nL cL h (by omega) .u64 (h : Int) rfl W
                      have Hz7 := Lib.hid hz7
                      have hg7s := hg7.size
                      have HW7 := Lib.hid hW7
                      clear hW7 hX6 hg6 hr5 hr6 xc6 xz6 hz7
                      go_wp2_with fail
                      refine (c_Clone W7 (c := cL) hrL hg7s (by omega)).mono ?_
                      rintro e w8 ⟨v8, rfl, ho8, hb8⟩
                      obtain ⟨A8, c8, rfl, hc8⟩ := ho8.shapeN (n := h) (by rw [bcs_length, List.length_take, Hll.out]; omega)
                      have hr58 := hr57.below hb8 (by have := Hz7.out; omega)
                      have hlen9 : (bcs (last.take h) ++ bcs ((bb.drop t).take r)).length = h + r := by
                        simp only [List.length_append, bcs_length, List.length_take, Hll.out, Hdl.out]; omega
                      have Hlen9 := Lib.hid hlen9
                      have hl8 : (bcs (last.take h)).length = h := by rw [bcs_length, List.length_take, Hll.out]; omega
                      have Hl8 := Lib.hid hl8
                      clear hlen9 hcutL hrL hl8
                      go_wp2_with (first | (at_builtin; (refine wpList_app_slB rfl _ _ rfl slb rfl ho8 hb8 hb8.size rfl hr58 bcs_one (by rw [Hl8.out]; omega) (by rw [Hl8.out]; unfold maxLen; omega) ?_); intro v9 w9 ho9 hb9 hs9; obtain ⟨A9, c9, rfl, hc9⟩ := ho9.shapeN (n := h + r) Hlen9.out; have hX9 := hX7.below hb9 (by have := hX7.lt; omega); have xc9 := hX9.cell; have xz9 := hX9.frz))
                      obtain ⟨K, hK⟩ : ∃ K, K = last.take h ++ (bb.drop t).take r := ⟨_, rfl⟩
                      obtain ⟨V, hV⟩ : ∃ V, V = (bb.drop (t + r)).take v := ⟨_, rfl⟩
                      rw [← hK, ← hV] at HHR
                      have hKl : K.length = h + r := by rw [hK]; simp only [List.length_append, List.length_take, Hll.out, Hdl.out]; omega
                      have HKl := Lib.hid hKl
                      rw [← bcs_append, ← hK] at ho9
                      rw [← hV] at hr67
                      have hRG : R < G := by have := HG.out; omega
                      have hGw : wr.heap.size ≤ G := by have := HG.out; omega
                      have hge9 : ∀ a, A9 = some a → W7.heap.size ≤ a.block := fun a ha => ho9.ge a ha
                      have hz7 := Hz7.out
                      have hX10 := (hX9.set_ 1 (.slice A9 (h + r) c9)).set_ 2 (.slice A6 v c6)
                      have hg10 := gb_set (gb_set (gb_below hg7 hb9 hg7s) (p := ⟨G, 1, none⟩) hGw (.slice A9 (h + r) c9)) (p := ⟨G, 2, none⟩) hGw (.slice A6 v c6)
                      have hk10 := ((Lec.Own.rd ho9).setFar (p := ⟨G, 1, none⟩) (fun _ a ha => by have := hge9 a ha; dsimp only; omega) (.slice A9 (h + r) c9)).setFar (p := ⟨G, 2, none⟩) (fun _ a ha => by have := hge9 a ha; dsimp only; omega) (.slice A6 v c6)
                      have hv10 := ((hr67.below hb9 (by omega)).setFar (p := ⟨G, 1, none⟩) (fun _ a ha => by have := hge6 a ha; dsimp only; omega) (.slice A9 (h + r) c9)).setFar (p := ⟨G, 2, none⟩) (fun _ a ha => by have := hge6 a ha; dsimp only; omega) (.slice A6 v c6)
                      have hR10 := (hR6.below ((((Below.refl G w6).setCell (p := ⟨G, 3, none⟩) (Nat.le_refl _) (.int .i64 (h : Int))))) hRG)
                      rw [← HW7.out] at hR10
                      replace hR10 := ((hR10.below hb9 (by omega)).below ((Below.refl G w9).setCell (p := ⟨G, 1, none⟩) (Nat.le_refl _) (.slice A9 (h + r) c9)) hRG).below ((Below.refl G _).setCell (p := ⟨G, 2, none⟩) (Nat.le_refl _) (.slice A6 v c6)) hRG
                      have hz10 : ((w9.setCell ⟨G, 1, none⟩ (.slice A9 (h + r) c9)).setCell ⟨G, 2, none⟩ (.slice A6 v c6)).heap.size = w9.heap.size := by simp
                      obtain ⟨W10, hW10⟩ : ∃ W, W = (w9.setCell ⟨G, 1, none⟩ (.slice A9 (h + r) c9)).setCell ⟨G, 2, none⟩ (.slice A6 v c6) := ⟨_, rfl⟩
                      rw [← hW10] at hX10 hg10 hk10 hv10 hR10 hz10 ⊢
                      have hL10 : Rd W10 wr.heap.size AL nL (bcs last) := hI.rd.grownX (Nat.le_refl _) (fun h0 a ha e => (hI.far h0 a ha).1 (Option.some.inj e)) hg10
                      have HK := Lib.hid hK
                      have Hz10 := Lib.hid hz10
                      have hg10s := hg10.size
                      clear hW10 hX9 xc9 xz9 hr67 hr57 hr58 ho8 hb8 hX7 ho9 hK hV hz7 hz10 hKl
                      refine (c_common W10 (c := cL) (c' := c9) hL10 hg10s hk10 (by have := Hz10.out; omega) (by omega) (by omega)).mono ?_
                      rintro e w11 ⟨rfl, hb11⟩
                      obtain ⟨M, hM⟩ : ∃ M, M = com last K := ⟨_, rfl⟩
                      rw [← hM] at HHR ⊢
                      have hX11 := hX10.below hb11 hX10.lt
                      have xc11 := hX11.cell
                      have xz11 := hX11.frz
                      clear hM
                      go_upto_region 25 with fail
                      have hX12 : Bk (w11.setCell ⟨G, 4, none⟩ (.int .i64 (M : Int))) G 74 #[.int .i64 (s : Int), .slice A9 (h + r) c9, .slice A6 v c6, .int .i64 (h : Int), .int .i64 (M : Int)] := hX11.set_ 4 (.int .i64 (M : Int))
                      have hz11 := hb11.size
                      have hz10 := Hz10.out
                      have hg12 := gb_set (gb_below hg10 hb11 hg10s) (p := ⟨G, 4, none⟩) hGw (.int .i64 (M : Int))
                      have hk12 := (hk10.below hb11 (by omega)).setFar (p := ⟨G, 4, none⟩) (fun _ a ha => by have := hge9 a ha; have := Hz7.out; dsimp only; omega) (.int .i64 (M : Int))
                      have hv12 := (hv10.below hb11 (by have := Hz7.out; omega)).setFar (p := ⟨G, 4, none⟩) (fun _ a ha => by have := hge6 a ha; dsimp only; omega) (.int .i64 (M : Int))
                      have hR12 := (hR10.below hb11 hR10.bk.lt).below ((Below.refl G w11).setCell (p := ⟨G, 4, none⟩) (Nat.le_refl _) (.int .i64 (M : Int))) hRG
                      have hz12 : (w11.setCell ⟨G, 4, none⟩ (.int .i64 (M : Int))).heap.size = w11.heap.size := by simp
                      obtain ⟨W12, hW12⟩ : ∃ W, W = w11.setCell ⟨G, 4, none⟩ (.int .i64 (M : Int)) := ⟨_, rfl⟩
                      rw [← hW12] at hX12 hg12 hk12 hv12 hR12 hz12 ⊢
                      have hL12 : Rd W12 wr.heap.size AL nL (bcs last) := hI.rd.grownX (Nat.le_refl _) (fun h0 a ha e => (hI.far h0 a ha).1 (Option.some.inj e)) hg12
                      have Hz12 := Lib.hid hz12
                      have Hz10' := Lib.hid hz10
                      have hg12s := hg12.size
                      have hX12l := hX12.lt
                      have xc12 := hX12.cell
                      clear hW12 hX11 xc11 xz11 hX10 hR10 hk10 hv10 hz12 hz10 hg10 hL10 hL7 hg7 hb11 hb9 hR6
                      by_cases hQ : (decide (X.length = 0) || bytesLess last K) = true
                      · rw [if_pos hQ] at HHR
                        go_cut [] from 143 to 154 (fun wx => wx = W12)
                        case first =>
                          clear HHR hI HRs HRN HIe HbF HF HK hfs hXs hg12 hv12 hR12
                          by_cases h0 : X.length = 0
                          · have h0' : ((X.length : Int) == 0) = true := by rw [h0]; rfl
                            clear h0 hQ
                            go_wp2_with (first | (go_at_call 47; refine (c_blMust_ok _ _ _ ?_).mono ?_; (first | rfl | (simp; done) | (simp; omega) | (simp [*]; done)); rintro e w' ⟨rfl, rfl⟩))
                            go_meet
                            case rel => exact rfl
                          · have h0' : ((X.length : Int) == 0) = false := by rw [beq_eq_false_iff_ne]; omega
                            have hq : decide (Lib.compareBytes last K < 0) = true := by rw [cmp_neg_decide]; rw [decide_eq_false h0] at hQ; simpa using hQ
                            clear h0 hQ
                            go_wp2_with (first | (go_at_call 49; refine (c_bCompare _ (c := cL) (c2 := c9) hL12 hk12).mono ?_; rintro e w' ⟨rfl, rfl⟩) | (go_at_call 47; refine (c_blMust_ok _ _ _ ?_).mono ?_; (first | exact hq | rfl | (simp; done) | (simp; omega) | (simp [*]; done)); rintro e w' ⟨rfl, rfl⟩))
                            go_meet
                            case rel => exact rfl
                        case rest =>
                          subst hcut
                          have hA := hI.g.kept hg12 hRge (fun e => by have := hI.hi R e; omega) (fun b hb => hb.2)
                          have hhi := hI.hi
                          have hol := hI.g.own.lt
                          obtain ⟨m, hm⟩ : ∃ m : Ex, m = ⟨s, A9, h + r, c9, K, A6, v, c6, V, h, M⟩ := ⟨_, rfl⟩
                          have hmc : encEx.cs m = [.int .i64 (s : Int), .slice A9 (h + r) c9, .slice A6 v c6, .int .i64 (h : Int), .int .i64 (M : Int)] := by rw [hm]; rfl
                          have hme : m.en = ⟨s, K, V, h, M⟩ := by rw [hm]; rfl
                          have hz9 : w9.heap.size ≤ wc.heap.size := by have := Hz12.out; have := Hz10'.out; omega
                          have hz6' : w6.heap.size ≤ wc.heap.size := by have := Hz7.out; omega
                          have hmok : encEx.ok wc wc.heap.size m := by rw [hm]; exact encEx_ok (hk12.more hz9) (hv12.more hz6') hc9 hc6 (by dsimp only; omega) (by dsimp only; omega)
                          have hml : encEx.lie (fun b => W0.heap.size ≤ b ∧ b ≠ R) m := by
                            rw [hm]
                            have := hI.g.below.size
                            exact encEx_lie (fun _ a ha => by have := hge9 a ha; constructor <;> omega) (fun _ a ha => by have := hge6 a ha; constructor <;> omega)
                          have hma : encEx.lie (fun b => some b ≠ (Value.slice As X.length cs).ownBlock) m := by
                            rw [hm]
                            exact encEx_lie (fun _ a ha e => by have := hge9 a ha; have := (hol _ e.symm).2; omega) (fun _ a ha e => by have := hge6 a ha; have := (hol _ e.symm).2; omega)
                          have hfar9 : ∀ a, A9 = some a → a.block ≠ R ∧ some a.block ≠ (Value.slice As X.length cs).ownBlock := fun a ha => ⟨by have := hge9 a ha; omega, fun e => by have := hge9 a ha; have := (hol _ e.symm).2; omega⟩
                          have HM := Lib.hid hme
                          have HMc := Lib.hid hmc
                          have hGo : some G ≠ (Value.slice As X.length cs).ownBlock := fun e => by have := (hol _ e.symm).2; omega
                          have hl9 : 0 < h + r → ∀ a, A9 = some a → a.block < w9.heap.size := fun h0 a ha => by
                            obtain ⟨b', o', e', hb', _⟩ := hk12.2 h0
                            rw [e'] at ha
                            cases ha
                            exact hb'
                          clear hm hmc hme hI hL12 hge6 hge9 hol
                          go_wp2_with (first
                            | (at_builtin; (refine wpList_appK_new rfl _ _ rfl sle (by decide) rfl hA.own hA.below hA.below.size rfl (news := [.int .i64 (s : Int), .slice A9 (h + r) c9, .slice A6 v c6, .int .i64 (h : Int), .int .i64 (M : Int)]) rfl (by rw [← HMc.out]; exact encEx.one m) (by omega) ?_); intro v14 w14 ho14 hb14 hg14 hat14 hs14; have xc14 := (hX12.grownX (x := (Value.slice As X.length cs).ownBlock) hg14 hGo).cell))
                          replace hat14 : v14.ownBlock = (Value.slice As X.length cs).ownBlock ∨ ∃ g, v14.ownBlock = some g ∧ wc.heap.size ≤ g := hat14
                          replace hg14 : wc.grownBy w14 (Value.slice As X.length cs).ownBlock := hg14
                          rw [← HMc.out] at ho14
                          have hA14 := hA.snoc hmok hma hml ho14 hg14 hat14 hb14
                          have hR14 := hR12.gb hg14 hhi
                          have hk14 := (hk12.grownX hz9 (fun _ a ha => (hfar9 a ha).2) hg14).more (Nat.le_trans hz9 hg14.size)
                          have hi14 : ∀ g, v14.ownBlock = some g → R < g := fun g e => by
                            rcases hat14 with e1 | ⟨g', e1, hg'⟩
                            · exact hhi g (by rw [← e1]; exact e)
                            · rw [e1] at e; cases e; omega
                          have hfar14 : 0 < h + r → ∀ a, A9 = some a → a.block ≠ R ∧ some a.block ≠ v14.ownBlock := fun h0 a ha => ⟨(hfar9 a ha).1, fun e => by
                            rcases hat14 with e1 | ⟨g', e1, hg'⟩
                            · exact (hfar9 a ha).2 (by rw [← e1]; exact e)
                            · rw [e1] at e; have h1 := hl9 h0 a ha; have h2 : a.block = g' := Option.some.inj e; omega⟩
                          have HRs' := Lib.hid (show RA = rdEs (f - 1) bb (t + r + v) K ((X ++ [m]).map Ex.en) from by rw [HRs.out, HRN.out, HHR.out, List.map_append, List.map_singleton, HM.out])
                          obtain ⟨A14, c14, rfl, hc14⟩ := ho14.shape
                          have hI14 : RdIn W0 w14 74 R (.slice A14 (X.length + 1) c14) (X ++ [m]) A9 (h + r) K := ⟨hA14, hi14, hk14, hfar14⟩
                          clear hA14 hA hg14 hat14 ho14 hb14 HRs HRN HHR xc14 xc12 hX12 hk12 hv12 hk14 hR12
                          go_roundw
                          case rel => exact ⟨t + r + v, X ++ [m], A9, h + r, c9, K, f - 1, rfl, hc9, hI14, hR14, HRs', by omega, by simp; omega, by omega⟩
                          case measure => simp [lenOf]; omega
                      · have hQ' : (decide (X.length = 0) || bytesLess last K) = false := by simpa using hQ
                        have Hf := Lib.hid (HF.out (by rw [HRs.out, HRN.out, HHR.out, if_neg hQ]))
                        have hbw := HbF.out _ hg12
                        simp only [Bool.or_eq_false_iff, decide_eq_false_iff_not] at hQ'
                        have h0' : ((X.length : Int) == 0) = false := by rw [beq_eq_false_iff_ne]; have := hQ'.1; omega
                        have hq : decide (Lib.compareBytes last K < 0) = false := by rw [cmp_neg_decide]; exact hQ'.2
                        clear hI hQ hQ' HHR
                        go_wp2_with (first | (go_at_call 49; refine (c_bCompare _ (c := cL) (c2 := c9) hL12 hk12).mono ?_; rintro e w' ⟨rfl, rfl⟩) | (go_at_call 47; refine (c_blMust_no _ _ _ ?_).mono ?_; (first | exact hq | rfl | (simp; done) | (simp; omega) | (simp [*]; done)); rintro e w' ⟨rfl, rfl⟩))
                        exact ⟨rfl, .inr ⟨201, Hf.out, rfl, hbw⟩⟩
                    · have Hf := Lib.hid (HF.out (by rw [HRs.out, HRN.out, HHR.out, if_neg hfit]))
                      have hfit0 : ¬ (r ≤ E - t ∧ v ≤ E - (t + r)) := by omega
                      clear hI HHR HRs HRN
                      go_upto_region 20 with (first | (go_at_call 69; refine (c_RErr _ hR4).mono ?_; rintro e w' ⟨rfl, rfl⟩) | (go_at_call 47; refine (c_blMust_ok _ _ _ ?_).mono ?_; (first | rfl | (simp; done) | (simp; omega) | (simp [*]; done)); rintro e w' ⟨rfl, rfl⟩))
                      go_wp2_with fail
                      refine (c_RTake wc (m := r) hR4 (by omega) (by omega)).mono ?_
                      rintro e w5 (⟨h5, v5, rfl, hR5, ho5, hk5⟩ | ⟨h0, rfl, hR5, hk5⟩)
                      · obtain ⟨A5, c5, rfl, hc5⟩ := ho5.shapeN (n := r) (by rw [bcs_length, List.length_take]; omega)
                        rw [Hdl.out] at h5
                        go_wp2_with fail
                        refine (c_RTake w5 (m := v) hR5 (by omega) (by omega)).mono ?_
                        rintro e w6 (⟨h6, _⟩ | ⟨h6, rfl, hR6, hk6⟩)
                        · rw [List.length_drop, HEl.out] at h6
                          omega
                        · have hbw := HbF.out _ (gb_kb (gb_kb hg4 hk5 (fun b hb => .inl (by simpa using hb))) hk6 (fun b hb => .inl (by simpa using hb)))
                          go_wp2_with (first | (go_at_call 69; refine (c_RErr _ hR6).mono ?_; rintro e w' ⟨rfl, rfl⟩) | (go_at_call 47; refine (c_blMust_no _ _ _ ?_).mono ?_; (first | rfl | (simp; done) | (simp; omega) | (simp [*]; done)); rintro e w' ⟨rfl, rfl⟩))
                          exact ⟨rfl, .inr ⟨201, Hf.out, rfl, hbw⟩⟩
                      · go_wp2_with fail
                        refine (c_Take_bad w5 (v : Int) hR5 (by decide)).mono ?_
                        rintro e w6 ⟨rfl, hb6⟩
                        have hR6 := hR5.below hb6 hR5.bk.lt
                        have hbw := HbF.out _ (gb_below (gb_kb hg4 hk5 (fun b hb => .inl (by simpa using hb))) hb6 (by have := hg4.size; have := hk5.size; omega))
                        go_wp2_with (first | (go_at_call 69; refine (c_RErr _ hR6).mono ?_; rintro e w' ⟨rfl, rfl⟩) | (go_at_call 47; refine (c_blMust_no _ _ _ ?_).mono ?_; (first | rfl | (simp; done) | (simp; omega) | (simp [*]; done)); rintro e w' ⟨rfl, rfl⟩))
                        exact ⟨rfl, .inr ⟨201, Hf.out, rfl, hbw⟩⟩
                  · have Hf := Lib.hid (HF.out (by rw [HRs.out, HRN.out, rdE, H3.out]; simp only []; rw [if_neg (by rw [Hll.out]; omega)]))
                    have d1 : (decide ((h : Int) ≤ (nL : Int))) = decide (h ≤ nL) := by simp
                    have d2 : (decide ((r : Int) ≤ 1048576)) = decide (r ≤ 1048576) := by congr 1; simp; omega
                    have d3 : (decide ((v : Int) ≤ 1048576)) = decide (v ≤ 1048576) := by congr 1; simp; omega
                    simp only [g1, decide_true, decide_false] at d1
                    try simp only [g2, decide_true, decide_false] at d2
                    try simp only [g3, decide_true, decide_false] at d3
                    have hbw := HbF.out _ hg4
                    go_wp2_with (first | (go_at_call 69; refine (c_RErr _ hR4).mono ?_; rintro e w' ⟨rfl, rfl⟩) | (go_at_call 47; refine (c_blMust_no _ _ _ ?_).mono ?_; (first | rfl | (simp; done) | (simp; omega) | (simp [*]; done)); rintro e w' ⟨rfl, rfl⟩))
                    exact ⟨rfl, .inr ⟨201, Hf.out, rfl, hbw⟩⟩
                · have Hf := Lib.hid (HF.out (by rw [HRs.out, HRN.out, rdE, H3.out]; simp only []; rw [if_neg (by rw [Hll.out]; omega)]))
                  have d1 : (decide ((h : Int) ≤ (nL : Int))) = decide (h ≤ nL) := by simp
                  have d2 : (decide ((r : Int) ≤ 1048576)) = decide (r ≤ 1048576) := by congr 1; simp; omega
                  have d3 : (decide ((v : Int) ≤ 1048576)) = decide (v ≤ 1048576) := by congr 1; simp; omega
                  simp only [g1, decide_true, decide_false] at d1
                  try simp only [g2, decide_true, decide_false] at d2
                  try simp only [g3, decide_true, decide_false] at d3
                  have hbw := HbF.out _ hg4
                  go_wp2_with (first | (go_at_call 69; refine (c_RErr _ hR4).mono ?_; rintro e w' ⟨rfl, rfl⟩) | (go_at_call 47; refine (c_blMust_no _ _ _ ?_).mono ?_; (first | rfl | (simp; done) | (simp; omega) | (simp [*]; done)); rintro e w' ⟨rfl, rfl⟩))
                  exact ⟨rfl, .inr ⟨201, Hf.out, rfl, hbw⟩⟩
              · have Hf := Lib.hid (HF.out (by rw [HRs.out, HRN.out, rdE, H3.out]; simp only []; rw [if_neg (by rw [Hll.out]; omega)]))
                have d1 : (decide ((h : Int) ≤ (nL : Int))) = decide (h ≤ nL) := by simp
                have d2 : (decide ((r : Int) ≤ 1048576)) = decide (r ≤ 1048576) := by congr 1; simp; omega
                have d3 : (decide ((v : Int) ≤ 1048576)) = decide (v ≤ 1048576) := by congr 1; simp; omega
                simp only [g1, decide_true, decide_false] at d1
                try simp only [g2, decide_true, decide_false] at d2
                try simp only [g3, decide_true, decide_false] at d3
                have hbw := HbF.out _ hg4
                go_wp2_with (first | (go_at_call 69; refine (c_RErr _ hR4).mono ?_; rintro e w' ⟨rfl, rfl⟩) | (go_at_call 47; refine (c_blMust_no _ _ _ ?_).mono ?_; (first | rfl | (simp; done) | (simp; omega) | (simp [*]; done)); rintro e w' ⟨rfl, rfl⟩))
                exact ⟨rfl, .inr ⟨201, Hf.out, rfl, hbw⟩⟩
            · have Hf := Lib.hid (show unB b = .error 201 from by
                have e1 : RA = none := by rw [HRs.out, HRN.out, rdE, H3.out]
                rw [Hu.out, e1])
              have hne' : (err == 0) = false := by rw [beq_eq_false_iff_ne]; exact hne
              have hbw := HbF.out _ (gb_kb hg3 hk4 (fun b hb => .inl (by simpa using hb)))
              go_wp2_with (first | (go_at_call 69; refine (c_RErr _ hR4).mono ?_; rintro e w' ⟨rfl, rfl⟩) | (go_at_call 47; refine (c_blMust_no _ _ _ ?_).mono ?_; (first | rfl | (simp; done) | (simp; omega) | (simp [*]; done)); rintro e w' ⟨rfl, rfl⟩))
              exact ⟨rfl, .inr ⟨201, Hf.out, rfl, hbw⟩⟩
        · obtain rfl : s = E := by have := hR.in_; omega
          have Hf := Lib.hid (show unB b = .ok (X.map Ex.en, P) from by
            have e1 : RA = some (X.map Ex.en) := by
              obtain ⟨f', rfl⟩ : ∃ f', f = f' + 1 := ⟨f - 1, by omega⟩
              rw [HRs.out, rdEs, if_neg (by rw [HEl.out]; omega)]
            rw [Hu.out, e1])
          have hG := (hI.g.base hb).imp (Y := (w.heap.size ≤ ·)) (fun b h => Nat.le_trans hb.size h.1)
          have hop := hbo.below hI.g.below (Nat.le_refl _)
          clear hI HRs Hu HRA
          go_wp2_with (first | (go_at_call 67; refine (c_RAt _ hR).mono ?_; rintro e w' ⟨rfl, rfl⟩))
          go_ret2
          exact .inl ⟨_, _, _, _, _, _, _, _, X, Hf.out, rfl, hG, rfl, hop⟩
end Go.Proofs.Ytjcifmbbdofjiaa
