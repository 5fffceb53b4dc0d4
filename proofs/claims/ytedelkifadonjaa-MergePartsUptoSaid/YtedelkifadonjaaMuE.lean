/- Layer 23: MergeParts: what is seen part by part is what is seen of the whole. -/
import Derived.Test.YtedelkifadonjaaMuA
import Derived.Deep.CutRange
namespace Go.Proofs.Ytedelkifadonjaa
open Go.RowKit Go.Lec Go.Op
attribute [local go_sem] Oper.semAt_some
/-- A list in a box of the function's, its elements, and what else is kept (Ks), block by block. -/
structure Stg (w : World) (gb : Nat) (Kf F : List Fnd) (A : Option Addr) (c : Nat) (Ks : List (Nat × Obj)) (V : World) : Prop where
  bel : Below w.heap.size w V
  bk : Bk V gb 26 #[.slice A F.length c]
  own : OwnK V w.heap.size 40 6 (.slice A F.length c) F.length (F.flatMap encFd.cs)
  oks : ∀ m ∈ Kf, encFd.ok V V.heap.size m
  sub : ∀ m ∈ F, m ∈ Kf
  ks : ∀ p ∈ Ks, w.heap.size ≤ p.1 ∧ V.heap[p.1]? = some p.2 ∧ p.1 ≠ gb ∧ (∀ a, A = some a → a.block ≠ p.1) ∧ ∀ m ∈ Kf, ¬ lieB m p.1
  og : ∀ a, A = some a → a.block ≠ gb ∧ ∀ m ∈ Kf, ¬ lieB m a.block
  gf : ∀ m ∈ Kf, ¬ lieB m gb
  ge : w.heap.size ≤ gb
def oldB (Kf : List Fnd) (b : Nat) : Prop := ∃ m ∈ Kf, lieB m b
def gsB (gb : Nat) (A : Option Addr) (Ks : List (Nat × Obj)) (b : Nat) : Prop := b = gb ∨ (∃ p ∈ Ks, p.1 = b) ∨ ∃ a, A = some a ∧ a.block = b
section
variable {w V V' W wr : World} {gb c : Nat} {Kf F : List Fnd} {A : Option Addr} {Ks : List (Nat × Obj)} {C : Nat → Prop}
theorem Stg.below (h : Stg w gb Kf F A c Ks V) (hk : Below V.heap.size V V') : Stg w gb Kf F A c Ks V' :=
  ⟨h.bel.trans (hk.mono h.bel.size), h.bk.below hk h.bk.lt, h.own.below hk (Nat.le_refl _), fun m hm => ((h.oks m hm).below hk (Nat.le_refl _)).more hk.size, h.sub,
    fun p hp => ⟨(h.ks p hp).1, (hk.block p.1 (Array.getElem?_eq_some_iff.1 (h.ks p hp).2.1).1).trans (h.ks p hp).2.1, (h.ks p hp).2.2⟩, h.og, h.gf, h.ge⟩
theorem Stg.gs (h : Stg w gb Kf F A c Ks V) : ∀ b, gsB gb A Ks b → w.heap.size ≤ b ∧ b < V.heap.size := fun b hb => by
  rcases hb with rfl | ⟨p, hp, rfl⟩ | ⟨a, ea, rfl⟩
  · exact ⟨h.ge, h.bk.lt⟩
  · exact ⟨(h.ks p hp).1, (Array.getElem?_eq_some_iff.1 (h.ks p hp).2.1).1⟩
  · exact h.own.lt a.block (by rw [ea]; rfl)
theorem Stg.old (h : Stg w gb Kf F A c Ks V) : ∀ b, oldB Kf b → b < V.heap.size := fun b hb => by
  obtain ⟨m, hm, p, hp, hn, a, e, rfl⟩ := hb
  exact (h.oks m hm).lt p hp hn a e
/-- The gathering begins. -/
theorem Stg.start (h : Stg w gb Kf F A c Ks V) (hk : Below V.heap.size V wr) (hC : ∀ b, C b → V.heap.size ≤ b) : GtR w.heap.size gb wr.heap.size (oldB Kf) C Kf F w Ks [] (gsB gb A Ks) wr := by
  have h' := h.below hk
  have hz := hk.size
  refine ⟨A, c, ⟨by simpa using h'.bk, by simpa using h'.own, fun a e => ⟨.inr (.inr ⟨a, e, rfl⟩), (h.og a e).1, fun y hy => by cases hy⟩, fun m hm => ⟨h'.oks m hm, lie_B m (fun b hb => ⟨m, hm, hb⟩)⟩, h.sub, fun y hy => (by cases hy), fun b hb hg => ?_, .inl rfl, Nat.lt_of_lt_of_le h.bk.lt hz, fun b hb => Nat.lt_of_lt_of_le (h.gs b hb).2 hz⟩, h'.bel, fun p hp => ⟨.inr (.inl ⟨p, hp, rfl⟩), (h'.ks p hp).2.1, (h.ks p hp).2.2.1, (h.ks p hp).2.2.2.1, Nat.lt_of_lt_of_le (h.gs p.1 (.inr (.inl ⟨p, hp, rfl⟩))).2 hz⟩⟩
  rcases hb with ⟨m, hm, hl⟩ | hc
  · rcases hg with rfl | ⟨p, hp, rfl⟩ | ⟨a, ea, rfl⟩
    · exact h.gf m hm hl
    · exact (h.ks p hp).2.2.2.2 m hm hl
    · exact (h.og a ea).2 m hm hl
  · have h1 := hC b hc
    have h2 := (h.gs b hg).2
    omega
/-- The gathering is done. -/
theorem GtR.stage {G : Nat → Prop} {xs : List Vx} {D wz : Nat} (h : GtR w.heap.size gb wz (oldB Kf) C Kf F w Ks xs G W) (hD : W.heap[D]? = some (.deferred (some []))) (hwD : w.heap.size ≤ D) (hks : ∀ p ∈ Ks, w.heap.size ≤ p.1) (hge : w.heap.size ≤ gb) :
    ∃ A c, Stg w gb (Kf ++ xs.map Vx.F) (F ++ xs.map Vx.F) A c ((D, .deferred (some [])) :: Ks) W := by
  obtain ⟨A, c, hI, hK⟩ := h
  have hcase : ∀ m ∈ Kf ++ xs.map Vx.F, encFd.ok W W.heap.size m ∧ ∀ b, lieB m b → oldB Kf b ∨ ∃ y ∈ xs, y.fz b := fun m hm => by
    rcases List.mem_append.1 hm with hm | hm
    · exact ⟨(hI.f0 m hm).1, fun b hb => .inl ⟨m, hm, hb⟩⟩
    · obtain ⟨y, hy, rfl⟩ := List.mem_map.1 hm
      exact ⟨(hI.fp y hy).1, fun b hb => .inr ⟨y, hy, lieB_of (hI.fp y hy).2.1 hb⟩⟩
  have hno : ∀ b, G b → b < wz → ∀ m ∈ Kf ++ xs.map Vx.F, ¬ lieB m b := fun b hg hl m hm hb => by
    rcases (hcase m hm).2 b hb with h | ⟨y, hy, hf⟩
    · exact hI.no b (.inl h) hg
    · have := hf.1; have := (hI.fp y hy).2.2; omega
  have hd := hI.dne hD
  refine ⟨A, c, hK.1, hI.bk, hI.own, fun m hm => (hcase m hm).1, fun m hm => ?_, fun p hp => ?_, fun a e => ⟨(hI.og a e).2.1, fun m hm hb => ?_⟩, hno gb hI.gg hI.gz, hge⟩
  · rcases List.mem_append.1 hm with hm | hm
    · exact List.mem_append.2 (.inl (hI.sub m hm))
    · exact List.mem_append.2 (.inr hm)
  · rcases List.mem_cons.1 hp with rfl | hp
    · exact ⟨hwD, hD, hd.1, hd.2, fun m hm hb => lieB_dne (hcase m hm).1 hb hD rfl⟩
    · have hk := hK.2 p hp
      exact ⟨hks p hp, hk.2.1, hk.2.2.1, hk.2.2.2.1, hno p.1 hk.1 hk.2.2.2.2⟩
  · rcases (hcase m hm).2 _ hb with h | ⟨y, hy, hf⟩
    · exact hI.no _ (.inl h) (hI.og a e).1
    · exact (hI.og a e).2.2 y hy hf
/-- On to another list: what has been gathered is kept. -/
theorem Stg.swap {hb : Nat} (h : Stg w gb Kf F A c Ks V) (hh : (hb, .cells #[.slice none 0 0] 26) ∈ Ks) :
    ∃ Ks', Stg w hb Kf [] none 0 Ks' V ∧ (gb, .cells #[.slice A F.length c] 26) ∈ Ks' ∧ (∀ D q, (D, .deferred q) ∈ Ks → (D, .deferred q) ∈ Ks') ∧ ∀ a, A = some a → ∃ o, V.heap[a.block]? = some o ∧ (a.block, o) ∈ Ks' := by
  have h1 := h.ks _ hh
  obtain ⟨rows, hr1, hr2⟩ : ∃ rows : List (Nat × Obj), (∀ p ∈ rows, ∃ a, A = some a ∧ a.block = p.1 ∧ V.heap[p.1]? = some p.2) ∧ ∀ a, A = some a → ∃ o, V.heap[a.block]? = some o ∧ (a.block, o) ∈ rows := by
    cases A with
    | none => exact ⟨[], fun p hp => (by cases hp), fun a e => (by cases e)⟩
    | some a =>
      have hl := (h.own.lt a.block rfl).2
      exact ⟨[(a.block, V.heap[a.block])], fun p hp => by rw [List.mem_singleton] at hp; subst hp; exact ⟨a, rfl, rfl, Array.getElem?_eq_getElem hl⟩, fun a' e => by cases e; exact ⟨_, Array.getElem?_eq_getElem hl, List.mem_singleton.2 rfl⟩⟩
  refine ⟨(gb, .cells #[.slice A F.length c] 26) :: (rows ++ Ks.filter (fun p => decide (p.1 ≠ hb))), ⟨h.bel, h1.2.1, OwnK.nil_ _ _ _ _, h.oks, fun m hm => (by cases hm), fun p hp => ?_, fun a e => (by cases e), h1.2.2.2.2, h1.1⟩, List.mem_cons_self, fun D q hD => ?_, fun a e => ?_⟩
  · rcases List.mem_cons.1 hp with rfl | hp
    · exact ⟨h.ge, h.bk, fun e => h1.2.2.1 e.symm, fun a e => (by cases e), h.gf⟩
    · rcases List.mem_append.1 hp with hp | hp
      · obtain ⟨a, ea, e2, hv⟩ := hr1 p hp
        exact ⟨e2 ▸ (h.own.lt a.block (by rw [ea]; rfl)).1, hv, fun e => h1.2.2.2.1 a ea (e2.trans e), fun a e => (by cases e), fun m hm => e2 ▸ (h.og a ea).2 m hm⟩
      · rw [List.mem_filter] at hp
        have h2 := h.ks p hp.1
        exact ⟨h2.1, h2.2.1, of_decide_eq_true hp.2, fun a e => (by cases e), h2.2.2.2.2⟩
  · refine List.mem_cons_of_mem _ (List.mem_append.2 (.inr (List.mem_filter.2 ⟨hD, decide_eq_true ?_⟩)))
    rintro rfl
    have h3 := h.ks _ hD
    dsimp only at h3
    rw [h1.2.1] at h3
    cases h3.2.1
  · obtain ⟨o, h2, h3⟩ := hr2 a e
    exact ⟨o, h2, List.mem_cons_of_mem _ (List.mem_append.2 (.inl h3))⟩
/-- The list that was kept, as it reads at the end. -/
theorem Stg.kept {hb c' : Nat} {A' : Option Addr} {F' Kf' : List Fnd} {Ks' : List (Nat × Obj)} (h : Stg w gb Kf F A c Ks V) (h' : Stg w hb Kf' F' A' c' Ks' W) (hs : V.heap.size ≤ W.heap.size) (hk : ∀ m ∈ Kf, m ∈ Kf') (hg : (gb, .cells #[.slice A F.length c] 26) ∈ Ks') (hr : ∀ a, A = some a → ∃ o, V.heap[a.block]? = some o ∧ (a.block, o) ∈ Ks') :
    Bk W gb 26 #[.slice A F.length c] ∧ Els encFd W W.heap.size A F.length F := by
  refine ⟨(h'.ks _ hg).2.1, ⟨h.own.rd.1, fun hn => ?_⟩, rfl, fun m hm => h'.oks m (hk m (h.sub m hm))⟩
  obtain ⟨b, o, e, hb, hc⟩ := h.own.rd.2 hn
  obtain ⟨ob, h1, h2⟩ := hr _ e
  exact ⟨b, o, e, Nat.lt_of_lt_of_le hb hs, fun i u hu => (World.cell?_of_block ((h'.ks _ h2).2.1.trans h1.symm)).trans (hc i u hu)⟩
end
theorem wp_quiet {P : Program} {s : Code} {K : Act → World → Prop} {Q' : Exit → Act → World → Prop} {a : Act} {w : World} (h : s.wp P (Exit.then K (fun _ _ _ => False)) a w) : s.wp P (Exit.then K Q') a w := by
  refine wp_mono h ?_
  intro e a' w' hq
  cases e with
  | normal => exact hq
  | exit id => exact hq.elim
  | goto l => exact hq.elim
  | ret => exact hq.elim
  | panic ch => exact hq.elim
  | outgrown => exact hq.elim
theorem gt_false {x y : List UInt8} (h : (!bytesLess x y && !x == y) = false) : bytesLess y x = false := by
  cases hxy : bytesLess y x with
  | false => rfl
  | true =>
    rw [less_asymm hxy] at h
    by_cases e : x = y
    · subst e; rw [less_asymm hxy] at hxy; cases hxy
    · rw [beq_eq_false_iff_ne.2 e] at h; cases h
theorem pre_mid {ep : Int} {srt : List UInt8} (h : preE ep srt = 0) : MidOk (preB ep srt) := by
  unfold preE at h
  unfold preB
  split at h
  · rename_i h1
    rw [if_pos h1]
    split at h
    · cases h
    · rename_i h2
      rw [if_neg h2]
      exact MidOk.pre _ _
  · cases h
theorem beg_mid {ep : Int} (h : begE ep = 0) : MidOk (begB ep) := by
  unfold begE at h
  unfold begB
  split at h
  · rename_i h1
    rw [if_pos h1]
    exact MidOk.ep _
  · cases h
set_option maxRecDepth 100000 in
set_option maxHeartbeats 4000000 in
theorem w_MergeParts (w : World) {B B1 B2 B3 n c nf cf nt ct ns cs : Nat} {A Af At As : Option Addr} {Ls : List (Sl Pr)} {frm upt srt : List UInt8} {ep sq : Int} {wh : Bool} (hl : Lists w B n A Ls) (hf : Rd w B1 Af nf (bcs frm)) (ht : Rd w B2 At nt (bcs upt)) (hs : Rd w B3 As ns (bcs srt)) (hB1 : B1 ≤ w.heap.size) (hB2 : B2 ≤ w.heap.size) (hB3 : B3 ≤ w.heap.size) (hnf : nf ≤ 1048576) (hnt : nt ≤ 1048576) (hns : ns ≤ 1048576) :
    Calls Try.prog 4 #[.slice A n c, .slice Af nf cf, .slice At nt ct, .int .i64 ep, .slice As ns cs, .bool wh, .int .i64 sq] w (BoolP w true) := by
  have HA := c_awake w
  unfold BoolP at HA
  have HA := Lib.hid HA
  have HL := Lib.hid (fun (V : World) (hV : Below w.heap.size w V) => hl.below hV)
  have HRf := Lib.hid (fun (V : World) (hV : Below w.heap.size w V) => (hf.below hV hB1).more hB1)
  have HRt := Lib.hid (fun (V : World) (hV : Below w.heap.size w V) => (ht.below hV hB2).more hB2)
  have HRs := Lib.hid (fun (V : World) (hV : Below w.heap.size w V) => (hs.below hV hB3).more hB3)
  have Hl := Lib.hid hl
  clear hl hf ht hs
  refine (callsIn_wide (n := 9)).1 ?_
  refine callsIn_of_wp_marks Try.func4 rfl trivial ?_ rfl
  simp only [Try.ntmps4, List.size_toArray, List.length_cons, List.length_nil, Nat.reduceAdd, Nat.reduceSub, Array.replicate_succ, Array.replicate_zero, List.push_toArray, List.append_toArray, List.nil_append, List.cons_append]
  refine wpIn_wide.2 ?_
  go_wp2_with fail
  refine HA.out.mono ?_
  rintro e w1 ⟨rfl, hb1⟩
  have l1 := HL.out w1 hb1
  have HF := c_fewM w1 (c := c) l1.els l1.hB (by have := l1.n; omega) (fun s hs => by have := l1.ns s hs; omega) (by have := l1.tot; omega)
  unfold BoolP at HF
  clear HA
  by_cases hfew : totM (Ls.map Sl.pls) ≤ 5000
  case neg =>
    rw [decide_eq_false hfew] at HF
    go_wp2_with fail
    refine HF.mono ?_
    rintro e w2 ⟨rfl, hb2⟩
    have hb02 := hb1.trans (hb2.mono hb1.size)
    go_wp2
    exact ⟨.bool true, by simp [results, Try.results4, go_sem], rfl, hb02⟩
  case pos =>
    rw [decide_eq_true hfew] at HF
    have HF := Lib.hid HF
    obtain ⟨f1, f2, f3⟩ := Hl.out.few hfew
    have HKey := Lib.hid (fun (p : PairB) (hp : p ∈ allL (Ls.map Sl.pls).flatten) => Nat.le_trans (key_tot (all_key hp)) hfew)
    clear l1 hfew
    by_cases h1000 : 1000 < nf + nt + ns
    case pos =>
      have h1000' : decide ((1000 : Int) < (nf : Int) + (nt : Int) + (ns : Int)) = true := decide_eq_true (by omega)
      go_wp2_with fail
      refine HF.out.mono ?_
      rintro e w2 ⟨rfl, hb2⟩
      have hb02 := hb1.trans (hb2.mono hb1.size)
      go_wp2
      exact ⟨.bool true, by simp [results, Try.results4, go_sem], rfl, hb02⟩
    case neg =>
      have h1000' : decide ((1000 : Int) < (nf : Int) + (nt : Int) + (ns : Int)) = false := decide_eq_false (by omega)
      go_wp2_with fail
      refine HF.out.mono ?_
      rintro e w2 ⟨rfl, hb2⟩
      have hb02 := hb1.trans (hb2.mono hb1.size)
      have HPr := c_rPrefix w2 ep (c := cs) (HRs.out w2 hb02) hb02.size (by omega)
      unfold RetBE at HPr
      have HPr := Lib.hid HPr
      have Hb02 := Lib.hid hb02
      clear HF hb1 hb2 hb02 h1000
      go_wp2_with fail
      refine HPr.out.mono ?_
      rintro e w3 ⟨v1, rfl, ho1, hb3⟩
      obtain ⟨A1, c1, rfl, hc1⟩ := ho1.shape
      have HBg := c_rBegin w3 ep
      unfold RetBE at HBg
      have HBg := Lib.hid HBg
      have Ho1 := Lib.hid ho1
      have Hb3 := Lib.hid hb3
      clear HPr ho1 hb3
      go_upto_if 47 with fail
      go_cut [15, 16] from 47 to 52 (fun a b wx => ∃ (Am : Option Addr) (nm cm : Nat) (mid : List UInt8) (bad : Int), a = .slice Am nm cm ∧ b = .int .i64 bad ∧ Rd wx wx.heap.size Am nm (bcs mid) ∧ (bad = 0 → MidOk mid) ∧ Below w2.heap.size w2 wx)
      case first =>
        cases wh with
        | false =>
          go_wp2
          go_meet
          case rel => exact ⟨A1, _, c1, preB ep srt, preE ep srt, rfl, rfl, Ho1.out.rd, pre_mid, Hb3.out⟩
        | true =>
          go_wp2_with fail
          refine HBg.out.mono ?_
          rintro e w4 ⟨v4, rfl, ho4, hb4⟩
          obtain ⟨A4, c4, rfl, hc4⟩ := ho4.shape
          go_wp2
          go_meet
          case rel => exact ⟨A4, _, c4, begB ep, begE ep, rfl, rfl, ho4.rd, beg_mid, Hb3.out.trans (hb4.mono Hb3.out.size)⟩
      case rest =>
        obtain ⟨Am, nm, cm, mid, bad, rfl, rfl, hrm, hmid, hbm⟩ := hcut
        have Hmid := Lib.hid hmid
        have Hrm := Lib.hid hrm
        have Hbm := Lib.hid hbm
        clear hmid hrm hbm Ho1 Hb3 HBg
        go_upto_region 8 with fail
        have hbw := Hb02.out.trans (Hbm.out.mono Hb02.out.size)
        have hcF := run_str (P := Try.prog) Try.underlying23 Try.underlying5 Try.underlying9 (c := cf) (HRf.out wc hbw)
        have hcM := run_str (P := Try.prog) Try.underlying23 Try.underlying5 Try.underlying9 (c := cm) Hrm.out
        have hcT := run_str (P := Try.prog) Try.underlying23 Try.underlying5 Try.underlying9 (c := ct) (HRt.out wc hbw)
        have Hbw := Lib.hid hbw
        clear hbw
        go_cut [73] from 53 to 73 (fun v wx => wx = wc ∧ (v = .bool true ∨ (v = .bool false ∧ bad = 0 ∧ bytesLess mid frm = false ∧ (0 < nt → bytesLess upt mid = false))))
        case first =>
          by_cases hb0 : bad = 0
          · subst hb0
            cases h1 : (!bytesLess frm mid && !frm == mid) with
            | true =>
              go_wp2
              go_meet
              case rel => exact ⟨rfl, .inl rfl⟩
            | false =>
              have h1' := gt_false h1
              have H1' := Lib.hid h1'
              clear h1'
              by_cases h2 : 0 < nt
              · have h2' : decide ((0 : Int) < (nt : Int)) = true := decide_eq_true (by omega)
                cases h3 : (!bytesLess mid upt && !mid == upt) with
                | true =>
                  go_wp2
                  go_meet
                  case rel => exact ⟨rfl, .inl rfl⟩
                | false =>
                  have h3' := gt_false h3
                  have H3' := Lib.hid h3'
                  clear h3'
                  go_wp2
                  go_meet
                  case rel => exact ⟨rfl, .inr ⟨rfl, trivial, H1'.out, fun _ => H3'.out⟩⟩
              · have h2' : decide ((0 : Int) < (nt : Int)) = false := decide_eq_false (by omega)
                go_wp2
                go_meet
                case rel => exact ⟨rfl, .inr ⟨rfl, trivial, H1'.out, fun h => absurd h h2⟩⟩
          · have hb1 : (bad != 0) = true := by simpa using hb0
            have hb2 : (bad == 0) = false := by simpa using hb0
            clear hb0
            go_wp2
            all_goals first | (rename_i hx _; exact absurd hx (by unfold undef; simp)) | skip
            all_goals go_wp2
            go_meet
            case rel => exact ⟨rfl, .inl rfl⟩
        case rest =>
          obtain ⟨rfl, hcs⟩ := hcut
          rcases hcs with rfl | ⟨rfl, h0, h1, h2⟩
          · go_wp2
            exact ⟨.bool true, by simp [results, Try.results4, go_sem], rfl, Hbw.out⟩
          · have hmk := Hmid.out h0
            have Hlw := Lib.hid (And.intro hmk (And.intro h1 h2))
            clear hcF hcM hcT h0 h1 h2 hmk Hmid
            go_wp2_with fail
            obtain ⟨all, hall⟩ : ∃ all, all = allL (Ls.map Sl.pls).flatten := ⟨_, rfl⟩
            rw [← hall] at HKey
            have hal : all.length ≤ 5000 := by
              rw [hall]
              have h1 := (allL_all (Ls.map Sl.pls).flatten)
              rw [← flat_pls]
              exact Nat.le_trans (allL_len _) (by rw [List.length_map]; exact f2)
            have Hkey := Lib.hid (fun (p : PairB) (hp : p ∈ all) => (by have := HKey.out p hp; omega : p.1.length ≤ 1099511627))
            have Hal := Lib.hid hal
            have Hall := Lib.hid hall
            have Hlen := Lib.hid (show Ls.length = n from Hl.out.els.2.1)
            have HWf := Lib.hid (fun (V : World) (hV : Below wc.heap.size wc V) => ((HRf.out wc Hbw.out).more Hbw.out.size).below hV (Nat.le_refl _))
            have HWt := Lib.hid (fun (V : World) (hV : Below wc.heap.size wc V) => ((HRt.out wc Hbw.out).more Hbw.out.size).below hV (Nat.le_refl _))
            have HWm := Lib.hid (fun (V : World) (hV : Below wc.heap.size wc V) => Hrm.out.below hV (Nat.le_refl _))
            clear hal hall
            have hbA := (((Below.refl wc.heap.size wc).alloc (Nat.le_refl _) (.cells #[.slice none 0 0] 26)).alloc (by simp) (.cells #[.slice none 0 0] 26)).alloc (by simp; omega) (.cells #[.slice Af nf cf, .slice Am nm cm, .slice Am nm cm, .slice At nt ct] 46)
            have NA := ((Bk.new_ wc 26 #[.slice none 0 0]).alloc (.cells #[.slice none 0 0] 26)).alloc (.cells #[.slice Af nf cf, .slice Am nm cm, .slice Am nm cm, .slice At nt ct] 46)
            have NB := (Bk.new_ (wc.alloc (.cells #[.slice none 0 0] 26)) 26 #[.slice none 0 0]).alloc (.cells #[.slice Af nf cf, .slice Am nm cm, .slice Am nm cm, .slice At nt ct] 46)
            have NC := Bk.new_ ((wc.alloc (.cells #[.slice none 0 0] 26)).alloc (.cells #[.slice none 0 0] 26)) 46 #[.slice Af nf cf, .slice Am nm cm, .slice Am nm cm, .slice At nt ct]
            rw [World.size_alloc] at NB
            rw [World.size_alloc, World.size_alloc] at NC
            obtain ⟨W0, hW0⟩ : ∃ x, x = ((wc.alloc (.cells #[.slice none 0 0] 26)).alloc (.cells #[.slice none 0 0] 26)).alloc (.cells #[.slice Af nf cf, .slice Am nm cm, .slice Am nm cm, .slice At nt ct] 46) := ⟨_, rfl⟩
            have hzA : W0.heap.size = wc.heap.size + 3 := by rw [hW0]; simp
            rw [← hW0] at hbA NA NB NC ⊢
            clear hW0
            obtain ⟨gb, hgb⟩ : ∃ x, x = wc.heap.size := ⟨_, rfl⟩
            obtain ⟨hb, hhb⟩ : ∃ x, x = wc.heap.size + 1 := ⟨_, rfl⟩
            obtain ⟨rb, hrb⟩ : ∃ x, x = wc.heap.size + 1 + 1 := ⟨_, rfl⟩
            rw [← hrb] at NC ⊢
            rw [← hhb] at NB ⊢
            have hSt0 : Stg wc gb [] [] none 0 [(hb, .cells #[.slice none 0 0] 26), (rb, .cells #[.slice Af nf cf, .slice Am nm cm, .slice Am nm cm, .slice At nt ct] 46)] W0 :=
              ⟨hbA, hgb ▸ NA, OwnK.nil_ _ _ _ _, fun m hm => (by cases hm), fun m hm => (by cases hm), fun p hp => by
                rcases List.mem_cons.1 hp with rfl | hp
                · exact ⟨by dsimp only; omega, NB, by dsimp only; omega, fun a e => (by cases e), fun m hm => (by cases hm)⟩
                · rw [List.mem_singleton] at hp; subst hp
                  exact ⟨by dsimp only; omega, NC, by dsimp only; omega, fun a e => (by cases e), fun m hm => (by cases hm)⟩, fun a e => (by cases e), fun m hm => (by cases hm), by omega⟩
            have HStA := Lib.hid hSt0
            have HFl0 := Lib.hid (show ([] : List Fnd).length ≤ 10000 by simp)
            rw [← hgb]
            clear hSt0 NA NB NC hbA hgb hhb hrb hzA
            refine wp_loop_rounds 3 ?_
            rw [rounds_succ]
            have hrw : Bk W0 rb 46 #[.slice Af nf cf, .slice Am nm cm, .slice Am nm cm, .slice At nt ct] := (HStA.out.ks (rb, .cells #[.slice Af nf cf, .slice Am nm cm, .slice Am nm cm, .slice At nt ct] 46) (List.mem_cons_of_mem _ (List.mem_singleton.2 rfl))).2.1
            have rc := hrw.cell
            clear hrw
            go_wp2_with fail
            have hbX := (Below.refl W0.heap.size W0).alloc (Nat.le_refl _) (.cells #[.slice Af nf cf, .slice Am nm cm] 46)
            have bX := Bk.new_ W0 46 #[.slice Af nf cf, .slice Am nm cm]
            obtain ⟨Vx0, hVx⟩ : ∃ x, x = W0.alloc (.cells #[.slice Af nf cf, .slice Am nm cm] 46) := ⟨_, rfl⟩
            rw [← hVx] at hbX bX ⊢
            have hVxz : Vx0.heap.size = W0.heap.size + 1 := by rw [hVx]; simp
            clear hVx
            have hStx := HStA.out.below (hbX.drew)
            obtain ⟨xb0, hxb⟩ : ∃ x, x = W0.heap.size := ⟨_, rfl⟩
            rw [← hxb] at bX ⊢
            have bXd : Bk Vx0.drew xb0 46 #[.slice Af nf cf, .slice Am nm cm] := bX
            obtain ⟨V00, hV0⟩ : ∃ x, x = Vx0.drew := ⟨_, rfl⟩
            rw [← hV0] at hStx bXd
            have HV0 := Lib.hid hV0
            have HSt0 := Lib.hid hStx
            have hbV0 : Below w.heap.size w V00 := Hbw.out.trans (hStx.bel.mono Hbw.out.size)
            have l4 := HL.out V00 hbV0
            have HSr := c_sources V00 (c := c) l4.els l4.hB (by omega) (fun s hs => by have := f3 s hs; omega)
            unfold SourcesP at HSr
            have HSr := Lib.hid HSr
            clear hbX bX hVxz hxb hV0 hStx hbV0 l4 rc
            have hHeld : (fun W : World => W.cell? ⟨xb0, 0, none⟩ = some (.slice Af nf cf) ∧ W.cell? ⟨xb0, 1, none⟩ = some (.slice Am nm cm)) Vx0.drew := by rw [← HV0.out]; exact ⟨bXd.cell 0, bXd.cell 1⟩
            refine wp_quiet ?_
            refine wp_region_T (S := fun W : World => W.cell? ⟨xb0, 0, none⟩ = some (.slice Af nf cf) ∧ W.cell? ⟨xb0, 1, none⟩ = some (.slice Am nm cm)) (m := 11) (by kernel_rfl) ?_
            simp only [List.size_toArray, List.length_cons, List.length_nil, Nat.reduceAdd]
            refine tTake (i := 0) (v := ?_) rfl (by kernel_rfl) (by kernel_rfl) (by kernel_rfl) (by kernel_rfl) (fun _ _ _ h => h) hHeld (by rfl) ?_ ?_
            rotate_left
            · (intro w hSw; (try dsimp only at hSw); go_simp; try with_reducible rfl)
            try simp only [Act.put, List.setIfInBounds_toArray, List.set_cons_zero, List.set_cons_succ]
            refine tTake (i := 4) (v := ?_) rfl (by kernel_rfl) (by kernel_rfl) (by kernel_rfl) (by kernel_rfl) (fun _ _ _ h => h) hHeld (by rfl) ?_ ?_
            rotate_left
            · (intro w hSw; (try dsimp only at hSw); go_simp; try with_reducible rfl)
            try simp only [Act.put, List.setIfInBounds_toArray, List.set_cons_zero, List.set_cons_succ]
            refine tTake (i := 5) (v := ?_) rfl (by kernel_rfl) (by kernel_rfl) (by kernel_rfl) (by kernel_rfl) (fun _ _ _ h => h) hHeld (by rfl) ?_ ?_
            rotate_left
            · (intro w hSw; (try dsimp only at hSw); go_simp; try with_reducible rfl)
            try simp only [Act.put, List.setIfInBounds_toArray, List.set_cons_zero, List.set_cons_succ]
            refine tTake (i := 6) (v := ?_) rfl (by kernel_rfl) (by kernel_rfl) (by kernel_rfl) (by kernel_rfl) (fun _ _ _ h => h) hHeld (by rfl) ?_ ?_
            rotate_left
            · (intro w hSw; (try dsimp only at hSw); go_simp; try with_reducible rfl)
            try simp only [Act.put, List.setIfInBounds_toArray, List.set_cons_zero, List.set_cons_succ]
            refine tTake (i := 7) (v := ?_) rfl (by kernel_rfl) (by kernel_rfl) (by kernel_rfl) (by kernel_rfl) (fun _ _ _ h => h) hHeld (by rfl) ?_ ?_
            rotate_left
            · (intro w hSw; (try dsimp only at hSw); go_simp; try with_reducible rfl)
            try simp only [Act.put, List.setIfInBounds_toArray, List.set_cons_zero, List.set_cons_succ]
            refine tTake (i := 8) (v := ?_) rfl (by kernel_rfl) (by kernel_rfl) (by kernel_rfl) (by kernel_rfl) (fun _ _ _ h => h) hHeld (by rfl) ?_ ?_
            rotate_left
            · (intro w hSw; (try dsimp only at hSw); go_simp; try with_reducible rfl)
            try simp only [Act.put, List.setIfInBounds_toArray, List.set_cons_zero, List.set_cons_succ]
            refine tStep (i := 1) rfl (by kernel_rfl) (fun K hK => ?_)
            go_simp
            rw [← HV0.out]
            go_at_call 12
            refine HSr.out.mono ?_
            rintro e w5 ⟨D, Ss, A4, c4, rfl, hS⟩
            have bX5 := bXd.below hS.below bXd.lt
            have HNn := c_New w5 (c := c4) (rd_ownK hS.own) (Nat.le_refl _) hS.srcs (by rw [hS.len, Hlen.out]; omega) (fun b hb => (hS.dlt b hb).2)
            unfold NewP at HNn
            have HNn := Lib.hid HNn
            have HS := Lib.hid hS
            clear hS HSr
            have hHeldN : (fun W : World => W.cell? ⟨xb0, 0, none⟩ = some (.slice Af nf cf) ∧ W.cell? ⟨xb0, 1, none⟩ = some (.slice Am nm cm)) _ := ⟨bX5.cell 0, bX5.cell 1⟩
            refine hK.out _ _ (fun _ => hHeldN) ?_
            clear hK K hHeld
            have hHeld := hHeldN
            clear hHeldN
            try simp only [Act.put, List.setIfInBounds_toArray, List.set_cons_zero, List.set_cons_succ]
            refine tStep (i := 2) rfl (by kernel_rfl) (fun K hK => ?_)
            go_simp
            go_at_call 11
            refine HNn.out.mono ?_
            rintro e w60 ⟨X0, D5, rfl, hI5, hX5, hb5, hg5, hib5, hhb5⟩
            have bX6 := bX5.below hb5 bX5.lt
            have hN := it_new HS.out hI5 hX5 hb5 hg5 hib5 hhb5 Hlen.out f1
            rw [← Hall.out] at hN
            have HNw0 := Lib.hid hN
            have HmV := Lib.hid (c_mView w60 (ib := X0.ib) (Af := Af) (nf := nf) (cf := cf) (At := Am) (nt := nm) (ct := cm) (sq := sq))
            clear HNn HS hI5 hX5 hb5 hg5 hib5 hhb5 hN bX5
            have hHeldN : (fun W : World => W.cell? ⟨xb0, 0, none⟩ = some (.slice Af nf cf) ∧ W.cell? ⟨xb0, 1, none⟩ = some (.slice Am nm cm)) _ := ⟨bX6.cell 0, bX6.cell 1⟩
            refine hK.out _ _ (fun _ => hHeldN) ?_
            clear hK K hHeld
            have hHeld := hHeldN
            clear hHeldN
            try simp only [Act.put, List.setIfInBounds_toArray, List.set_cons_zero, List.set_cons_succ]
            refine tTake (i := 3) (v := ?_) rfl (by kernel_rfl) (by kernel_rfl) (by kernel_rfl) (by kernel_rfl) (fun _ _ _ h => h) hHeld (by rfl) ?_ ?_
            rotate_left
            · (intro w hSw; (try dsimp only at hSw); go_simp; try with_reducible rfl)
            try simp only [Act.put, List.setIfInBounds_toArray, List.set_cons_zero, List.set_cons_succ]
            refine tStep (i := 9) rfl (by kernel_rfl) (fun K hK => ?_)
            go_simp
            go_at_call 10
            refine HmV.out.mono ?_
            rintro e w70 ⟨rfl, hw7⟩
            have hb06 := HSt0.out.bel.trans (HNw0.out.below.mono HSt0.out.bel.size)
            obtain ⟨hC7, hb67, hz7⟩ := caps_new w60 (X := X0) (cf := cf) (ct := cm) sq (HWf.out w60 hb06) (HWm.out w60 hb06) hb06.size hw7
            have HC70 := Lib.hid hC7
            have Hb670 := Lib.hid hb67
            have Hz70 := Lib.hid hz7
            have bX7 := bX6.below hb67 bX6.lt
            clear hC7 hb67 hb06 hw7 HmV bX6 hz7
            have hHeldN : (fun W : World => W.cell? ⟨xb0, 0, none⟩ = some (.slice Af nf cf) ∧ W.cell? ⟨xb0, 1, none⟩ = some (.slice Am nm cm)) _ := ⟨bX7.cell 0, bX7.cell 1⟩
            refine hK.out _ _ (fun _ => hHeldN) ?_
            clear hK K hHeld
            have hHeld := hHeldN
            clear hHeldN
            try simp only [Act.put, List.setIfInBounds_toArray, List.set_cons_zero, List.set_cons_succ]
            refine tStep (i := 10) rfl (by kernel_rfl) (fun K hK => ?_)
            go_simp
            have hHeldN : (fun W : World => W.cell? ⟨xb0, 0, none⟩ = some (.slice Af nf cf) ∧ W.cell? ⟨xb0, 1, none⟩ = some (.slice Am nm cm)) _ := hHeld
            refine hK.out _ _ (fun _ => hHeldN) ?_
            clear hK K hHeld
            have hHeld := hHeldN
            clear hHeldN
            try simp only [Act.put, List.setIfInBounds_toArray, List.set_cons_zero, List.set_cons_succ]
            refine tDone (by kernel_rfl) ?_ _
            clear hHeld bX7 bXd
            have hnf := run_eql_seq
            go_wp2_with fail
            clear hnf
            have hN := HNw0.out
            have hz6 := hN.below.size
            have hz7 := Hb670.out.size
            have hz7e := Hz70.out
            have hcb : ∀ b, CbV w60.heap.size Af nf Am nm b → b < wc.heap.size ∨ (w60.heap.size ≤ b ∧ b < w60.heap.size + 4) := fun b hb => by
              rcases hb with ⟨hn, a, e, rfl⟩ | ⟨hn, a, e, rfl⟩ | h
              · obtain ⟨b, o, e', hb, _⟩ := (HWf.out wc (Below.refl _ _)).2 hn
                rw [e] at e'; cases e'; exact .inl hb
              · obtain ⟨b, o, e', hb, _⟩ := (HWm.out wc (Below.refl _ _)).2 hn
                rw [e] at e'; cases e'; exact .inl hb
              · exact .inr h
            have hzc : wc.heap.size ≤ V00.heap.size := HSt0.out.bel.size
            have hcx : ∀ b, CbV w60.heap.size Af nf Am nm b → b ∉ X0.ctl := fun b hb hx => by
              have := hN.ctl b hx
              have := hcb b hb
              omega
            have hcl : ∀ b, CbV w60.heap.size Af nf Am nm b → b < w70.heap.size := fun b hb => by have := hcb b hb; omega
            have hgs := HSt0.out.gs
            have hol := HSt0.out.old
            have hctl := hN.ctl
            have Hcb := Lib.hid hcb
            have Hcx := Lib.hid hcx
            have Hcl := Lib.hid hcl
            have Hgs := Lib.hid hgs
            have Hol := Lib.hid hol
            have Hctl := Lib.hid hctl
            clear hcb hcx hcl hgs hol hctl
            have hk07 : Below V00.heap.size V00 w70 := hN.below.trans (Hb670.out.mono hN.below.size)
            have h0 := HSt0.out.start hk07 (C := (· ∈ X0.ctl)) (fun b hb => (Hctl.out b hb).1)
            have hbel7 := (HSt0.out.bel.trans (hk07.mono hzc))
            have hge0 : wc.heap.size ≤ gb ∧ gb < V00.heap.size := ⟨HSt0.out.ge, HSt0.out.bk.lt⟩
            have hoz : ∀ b, oldB [] b ∨ b ∈ X0.ctl → b < w70.heap.size := fun b hb => hb.elim (fun h => by have := Hol.out b h; omega) (fun h => by have := Hctl.out b h; omega)
            have Hoz := Lib.hid hoz
            clear hoz
            refine wp_named fun a0 ha0 => ?_
            refine (wpIn_wide (n := 9)).1 ?_
            have hV := view_H 8 (by omega) (M := 0) (sx := w60.heap.size) (fb := w60.heap.size + 1) (tb := w60.heap.size + 1 + 1) (qb := w60.heap.size + 1 + 1 + 1) (Af := Af) (nf := nf) (cf := cf) (At := Am) (nt := nm) (ct := cm) (sq := sq) (frm := frm) (upt := mid) (Cb := CbV w60.heap.size Af nf Am nm) w70 hN.mks (by have := Hal.out; omega) (by omega) (by have := hN.n; omega) Hcx.out Hcl.out Hkey.out
            obtain ⟨V0, hVV⟩ : ∃ V, V = viewP sq none (partL all frm mid) := ⟨_, rfl⟩
            rw [← hVV] at hV
            have hVl : V0.length ≤ 5000 := by
              rw [hVV]
              refine Nat.le_trans (viewP_le _ _ _) (Nat.le_trans ?_ Hal.out)
              unfold partL
              refine Nat.le_trans (List.takeWhile_prefix _).length_le ?_
              rw [List.length_drop]; omega
            have HVV0 := Lib.hid hVV
            have HVl0 := Lib.hid hVl
            clear hVV hVl
            refine range_H (n := 9) (by omega) (gf := 21) (lb := #[.pointer (some ⟨w60.heap.size, 0, none⟩), .pointer (some ⟨w60.heap.size + 1, 0, none⟩), .pointer (some ⟨w60.heap.size + 1 + 1, 0, none⟩), .pointer (some ⟨w60.heap.size + 1 + 1 + 1, 0, none⟩)]) (by rw [ha0]; rfl) (enters_of Try.func21 (by kernel_rfl) rfl) (fun y b h => h.1) hV (fun b hb => by have := Hctl.out b hb; omega) (Below.refl _ _) (fun _ => rfl)
              (G0 := gsB gb none [(hb, .cells #[.slice none 0 0] 26), (rb, .cells #[.slice Af nf cf, .slice Am nm cm, .slice Am nm cm, .slice At nt ct] 46)]) (fun b hb => by have := Hgs.out b hb; omega)
              (fun W' hW' => ⟨hN.uit.keep (Kx.new_ (Hb670.out.trans (hW'.mono Hb670.out.size))) (fun b hb => .inl (hb.elim (fun h => .inl (Hgs.out b h).2) (fun h => .inr (by omega)))), HC70.out.kx (Kx.new_ hW' : Kx (fun _ => False) w70 W') (fun _ _ h => h), fun b hb hg => by
                  have h1 := Hcb.out b hb
                  rcases hg with h | h
                  · have := Hgs.out b h; omega
                  · omega⟩)
              (fun G G' W W' h hs hk => h.keep hk (fun b hb => .inl (hs b hb)))
              (fun pre G W => GtR wc.heap.size gb w70.heap.size (oldB []) (· ∈ X0.ctl) [] [] wc [(hb, .cells #[.slice none 0 0] 26), (rb, .cells #[.slice Af nf cf, .slice Am nm cm, .slice Am nm cm, .slice At nt ct] 46)] pre G W)
              (fun _ _ _ _ => False)
              (fun s G V' V'' h hk => h.kx hk (fun b hb hg => by
                  obtain ⟨A0, c0, h1, _⟩ := h
                  exact hb.1.elim (fun hx => h1.no b (.inr hx) hg) (fun h => h.2 hg)) (fun b hb ho => by
                  have h1 := Hol.out b ho
                  exact hb.1.elim (fun hx => by have := Hctl.out b hx; omega) (fun h => by omega)) (fun b hb => hb.2) (fun b hb => hb.1.elim (fun hx => by have := Hctl.out b hx; omega) (fun h => by omega)) (Nat.le_refl _))
              h0
              (fun pre x G a' W => ∃ xb, GtAll wc.heap.size gb (oldB []) (· ∈ X0.ctl) [] [] wc [(hb, .cells #[.slice none 0 0] 26), (rb, .cells #[.slice Af nf cf, .slice Am nm cm, .slice Am nm cm, .slice At nt ct] 46)] w70.heap.size V0 pre x G xb W ∧ a' = { tmps := (a0.tmps.setIfInBounds 99 (.agg #[.int .i64 x.F.K.ep, .slice x.F.A1 (bcs x.F.K.srt).length x.F.c1, .int .i64 x.F.K.sq, .int .i64 x.F.K.kd, .string ⟨x.F.K.txt.toArray⟩, .slice x.F.A2 x.F.n2 x.F.c2])).setIfInBounds 22 (.pointer (some ⟨xb, 0, none⟩)), defers := [] })
              (fun pre x G a' V' V'' h hk => by
                obtain ⟨xb, h1, h2⟩ := h
                exact ⟨xb, h1.kx hk (fun b hb => hb.1.2) (fun b hb ho => by have := Hol.out b ho; have := hb.1.1; omega) (fun b hb => hb.2) (fun b hb => by have := hb.1.1; omega) (Nat.le_refl _), h2⟩)
              ?assign ?body ?done ?stop (fun _ _ _ _ _ h => h.elim)
            case stop =>
              rintro D c' pre G W hD hnG hS h hE hK
              exact h.elim
            case assign =>
              rintro l pre x G W h hy hg
              have hA := h.assign hy hg Hoz.out (by have := hy.2.2.2.2.2; exact this) (Nat.le_refl _)
              have HA := Lib.hid hA
              clear hA h
              unfold Vx.val
              rw [ha0]
              gi_wp2
              exact ⟨_, Kx.new_ ((Below.refl W.heap.size W).alloc (Nat.le_refl _) _), fun b hb => hb.imp id (fun h => h.1), W.heap.size, HA.out, rfl⟩
            case body =>
              rintro l pre x G a' W ⟨xb, ⟨A0, c0, h1, h2, h3, h6, h7⟩, rfl⟩ hlen
              rw [ha0]
              simp only [List.setIfInBounds_toArray, List.set_cons_zero, List.set_cons_succ]
              obtain ⟨q, hq⟩ : ∃ q, q = ([] ++ pre.map Vx.F).length := ⟨_, rfl⟩
              have hown := h1.own
              have gc := h1.bk.cell 0
              rw [← hq] at hown gc
              have xc := h7.bx.cell
              have hpl : q + 1 ≤ 137438953472 := by rw [hq, List.length_append, List.length_map]; have := HVl0.out; have := HFl0.out; omega
              have Hq := Lib.hid hq
              have Hown := Lib.hid hown
              have Hpl := Lib.hid hpl
              have H1 := Lib.hid h1
              have H2 := Lib.hid h2
              have H3 := Lib.hid h3
              have H7 := Lib.hid h7
              have hw4W : wc.heap.size ≤ W.heap.size := h2.1.size
              clear h1 h2 h3 h6 h7 hpl hq hown
              gi_wp2_with (gi_at_builtin; refine listIn_step1 rfl (by intro c h; cases h) (fun K hK => wpList_appK_new (w := W) (w0 := W) rfl (.tmp 100) (.tmp 102) rfl slf (by decide) rfl Hown.out (Below.refl _ _) hw4W rfl (news := x.F.cs) rfl (encFd.one x.F) Hpl.out (fun v3 w3 ho3 hb3 hg3 hat3 hs3 => wpList_nil (hK _ _ ?_))); obtain ⟨A3, c3, rfl, hbk3, hI3, hk3, hl3⟩ := H1.out.snoc Hq.out H2.out hge0.1 (Nat.le_refl _) H3.out H7.out Hoz.out ho3 hg3 hat3; have q3 := hbk3.cell 0; have z3 := hbk3.frz 0)
              exact ⟨fun b => G b ∨ (x.lo ≤ b ∧ b < w3.heap.size), hk3, fun b hb => ⟨hl3 b hb, hb.imp id (fun h => h.1)⟩, hI3⟩
            case done =>
              rintro D1 xs1 G W1 hD1 hnG hS1 hR hE hK
              obtain ⟨A1', c1', hSt1⟩ := hR.stage hK (by omega) (fun p hp => (HSt0.out.ks p hp).1) hge0.1
              obtain ⟨F1, hF1⟩ : ∃ F1, F1 = xs1.map Vx.F := ⟨_, rfl⟩
              rw [List.nil_append, ← hF1] at hSt1
              have hp1 : F1.map Fnd.pl = V0 := by rw [hF1, List.map_map]; exact hS1
              have HFl1 := Lib.hid (show F1.length ≤ 10000 by
                have h1 := congrArg List.length hp1
                rw [List.length_map] at h1
                have := HVl0.out; omega)
              have Hp1 := Lib.hid hp1
              have HStB := Lib.hid hSt1
              have HD1 := Lib.hid hD1
              have hrw : Bk W1 rb 46 #[.slice Af nf cf, .slice Am nm cm, .slice Am nm cm, .slice At nt ct] := (HStB.out.ks (rb, .cells #[.slice Af nf cf, .slice Am nm cm, .slice Am nm cm, .slice At nt ct] 46) (List.mem_cons_of_mem _ (List.mem_cons_of_mem _ (List.mem_singleton.2 rfl)))).2.1
              have rc := hrw.cell
              clear hrw hR hE hK hS1 hF1 hp1 hSt1 hnG hD1
              rw [ha0]
              clear ha0
              dsimp only
              go_wp2_with fail
              rw [rounds_succ]
              go_wp2_with fail
              have hbX := (Below.refl W1.heap.size W1).alloc (Nat.le_refl _) (.cells #[.slice Am nm cm, .slice At nt ct] 46)
              have bX := Bk.new_ W1 46 #[.slice Am nm cm, .slice At nt ct]
              obtain ⟨Vx1, hVx⟩ : ∃ x, x = W1.alloc (.cells #[.slice Am nm cm, .slice At nt ct] 46) := ⟨_, rfl⟩
              rw [← hVx] at hbX bX ⊢
              have hVxz : Vx1.heap.size = W1.heap.size + 1 := by rw [hVx]; simp
              clear hVx
              have hStx := HStB.out.below (hbX.drew)
              obtain ⟨xb1, hxb⟩ : ∃ x, x = W1.heap.size := ⟨_, rfl⟩
              rw [← hxb] at bX ⊢
              have bXd : Bk Vx1.drew xb1 46 #[.slice Am nm cm, .slice At nt ct] := bX
              obtain ⟨V01, hV0⟩ : ∃ x, x = Vx1.drew := ⟨_, rfl⟩
              rw [← hV0] at hStx bXd
              have HV0 := Lib.hid hV0
              have HSt1 := Lib.hid hStx
              have hbV0 : Below w.heap.size w V01 := Hbw.out.trans (hStx.bel.mono Hbw.out.size)
              have l4 := HL.out V01 hbV0
              have HSr := c_sources V01 (c := c) l4.els l4.hB (by omega) (fun s hs => by have := f3 s hs; omega)
              unfold SourcesP at HSr
              have HSr := Lib.hid HSr
              clear hbX bX hVxz hxb hV0 hStx hbV0 l4 rc
              have hHeld : (fun W : World => W.cell? ⟨xb1, 0, none⟩ = some (.slice Am nm cm) ∧ W.cell? ⟨xb1, 1, none⟩ = some (.slice At nt ct)) Vx1.drew := by rw [← HV0.out]; exact ⟨bXd.cell 0, bXd.cell 1⟩
              refine wp_quiet ?_
              refine wp_region_T (S := fun W : World => W.cell? ⟨xb1, 0, none⟩ = some (.slice Am nm cm) ∧ W.cell? ⟨xb1, 1, none⟩ = some (.slice At nt ct)) (m := 11) (by kernel_rfl) ?_
              simp only [List.size_toArray, List.length_cons, List.length_nil, Nat.reduceAdd]
              refine tTake (i := 0) (v := ?_) rfl (by kernel_rfl) (by kernel_rfl) (by kernel_rfl) (by kernel_rfl) (fun _ _ _ h => h) hHeld (by rfl) ?_ ?_
              rotate_left
              · (intro w hSw; (try dsimp only at hSw); go_simp; try with_reducible rfl)
              try simp only [Act.put, List.setIfInBounds_toArray, List.set_cons_zero, List.set_cons_succ]
              refine tTake (i := 4) (v := ?_) rfl (by kernel_rfl) (by kernel_rfl) (by kernel_rfl) (by kernel_rfl) (fun _ _ _ h => h) hHeld (by rfl) ?_ ?_
              rotate_left
              · (intro w hSw; (try dsimp only at hSw); go_simp; try with_reducible rfl)
              try simp only [Act.put, List.setIfInBounds_toArray, List.set_cons_zero, List.set_cons_succ]
              refine tTake (i := 5) (v := ?_) rfl (by kernel_rfl) (by kernel_rfl) (by kernel_rfl) (by kernel_rfl) (fun _ _ _ h => h) hHeld (by rfl) ?_ ?_
              rotate_left
              · (intro w hSw; (try dsimp only at hSw); go_simp; try with_reducible rfl)
              try simp only [Act.put, List.setIfInBounds_toArray, List.set_cons_zero, List.set_cons_succ]
              refine tTake (i := 6) (v := ?_) rfl (by kernel_rfl) (by kernel_rfl) (by kernel_rfl) (by kernel_rfl) (fun _ _ _ h => h) hHeld (by rfl) ?_ ?_
              rotate_left
              · (intro w hSw; (try dsimp only at hSw); go_simp; try with_reducible rfl)
              try simp only [Act.put, List.setIfInBounds_toArray, List.set_cons_zero, List.set_cons_succ]
              refine tTake (i := 7) (v := ?_) rfl (by kernel_rfl) (by kernel_rfl) (by kernel_rfl) (by kernel_rfl) (fun _ _ _ h => h) hHeld (by rfl) ?_ ?_
              rotate_left
              · (intro w hSw; (try dsimp only at hSw); go_simp; try with_reducible rfl)
              try simp only [Act.put, List.setIfInBounds_toArray, List.set_cons_zero, List.set_cons_succ]
              refine tTake (i := 8) (v := ?_) rfl (by kernel_rfl) (by kernel_rfl) (by kernel_rfl) (by kernel_rfl) (fun _ _ _ h => h) hHeld (by rfl) ?_ ?_
              rotate_left
              · (intro w hSw; (try dsimp only at hSw); go_simp; try with_reducible rfl)
              try simp only [Act.put, List.setIfInBounds_toArray, List.set_cons_zero, List.set_cons_succ]
              refine tStep (i := 1) rfl (by kernel_rfl) (fun K hK => ?_)
              go_simp
              rw [← HV0.out]
              go_at_call 12
              refine HSr.out.mono ?_
              rintro e w5 ⟨D, Ss, A4, c4, rfl, hS⟩
              have bX5 := bXd.below hS.below bXd.lt
              have HNn := c_New w5 (c := c4) (rd_ownK hS.own) (Nat.le_refl _) hS.srcs (by rw [hS.len, Hlen.out]; omega) (fun b hb => (hS.dlt b hb).2)
              unfold NewP at HNn
              have HNn := Lib.hid HNn
              have HS := Lib.hid hS
              clear hS HSr
              have hHeldN : (fun W : World => W.cell? ⟨xb1, 0, none⟩ = some (.slice Am nm cm) ∧ W.cell? ⟨xb1, 1, none⟩ = some (.slice At nt ct)) _ := ⟨bX5.cell 0, bX5.cell 1⟩
              refine hK.out _ _ (fun _ => hHeldN) ?_
              clear hK K hHeld
              have hHeld := hHeldN
              clear hHeldN
              try simp only [Act.put, List.setIfInBounds_toArray, List.set_cons_zero, List.set_cons_succ]
              refine tStep (i := 2) rfl (by kernel_rfl) (fun K hK => ?_)
              go_simp
              go_at_call 11
              refine HNn.out.mono ?_
              rintro e w61 ⟨X1, D5, rfl, hI5, hX5, hb5, hg5, hib5, hhb5⟩
              have bX6 := bX5.below hb5 bX5.lt
              have hN := it_new HS.out hI5 hX5 hb5 hg5 hib5 hhb5 Hlen.out f1
              rw [← Hall.out] at hN
              have HNw1 := Lib.hid hN
              have HmV := Lib.hid (c_mView w61 (ib := X1.ib) (Af := Am) (nf := nm) (cf := cm) (At := At) (nt := nt) (ct := ct) (sq := sq))
              clear HNn HS hI5 hX5 hb5 hg5 hib5 hhb5 hN bX5
              have hHeldN : (fun W : World => W.cell? ⟨xb1, 0, none⟩ = some (.slice Am nm cm) ∧ W.cell? ⟨xb1, 1, none⟩ = some (.slice At nt ct)) _ := ⟨bX6.cell 0, bX6.cell 1⟩
              refine hK.out _ _ (fun _ => hHeldN) ?_
              clear hK K hHeld
              have hHeld := hHeldN
              clear hHeldN
              try simp only [Act.put, List.setIfInBounds_toArray, List.set_cons_zero, List.set_cons_succ]
              refine tTake (i := 3) (v := ?_) rfl (by kernel_rfl) (by kernel_rfl) (by kernel_rfl) (by kernel_rfl) (fun _ _ _ h => h) hHeld (by rfl) ?_ ?_
              rotate_left
              · (intro w hSw; (try dsimp only at hSw); go_simp; try with_reducible rfl)
              try simp only [Act.put, List.setIfInBounds_toArray, List.set_cons_zero, List.set_cons_succ]
              refine tStep (i := 9) rfl (by kernel_rfl) (fun K hK => ?_)
              go_simp
              go_at_call 10
              refine HmV.out.mono ?_
              rintro e w71 ⟨rfl, hw7⟩
              have hb06 := HSt1.out.bel.trans (HNw1.out.below.mono HSt1.out.bel.size)
              obtain ⟨hC7, hb67, hz7⟩ := caps_new w61 (X := X1) (cf := cm) (ct := ct) sq (HWm.out w61 hb06) (HWt.out w61 hb06) hb06.size hw7
              have HC71 := Lib.hid hC7
              have Hb671 := Lib.hid hb67
              have Hz71 := Lib.hid hz7
              have bX7 := bX6.below hb67 bX6.lt
              clear hC7 hb67 hb06 hw7 HmV bX6 hz7
              have hHeldN : (fun W : World => W.cell? ⟨xb1, 0, none⟩ = some (.slice Am nm cm) ∧ W.cell? ⟨xb1, 1, none⟩ = some (.slice At nt ct)) _ := ⟨bX7.cell 0, bX7.cell 1⟩
              refine hK.out _ _ (fun _ => hHeldN) ?_
              clear hK K hHeld
              have hHeld := hHeldN
              clear hHeldN
              try simp only [Act.put, List.setIfInBounds_toArray, List.set_cons_zero, List.set_cons_succ]
              refine tStep (i := 10) rfl (by kernel_rfl) (fun K hK => ?_)
              go_simp
              have hHeldN : (fun W : World => W.cell? ⟨xb1, 0, none⟩ = some (.slice Am nm cm) ∧ W.cell? ⟨xb1, 1, none⟩ = some (.slice At nt ct)) _ := hHeld
              refine hK.out _ _ (fun _ => hHeldN) ?_
              clear hK K hHeld
              have hHeld := hHeldN
              clear hHeldN
              try simp only [Act.put, List.setIfInBounds_toArray, List.set_cons_zero, List.set_cons_succ]
              refine tDone (by kernel_rfl) ?_ _
              clear hHeld bX7 bXd
              have hnf := run_eql_seq
              go_wp2_with fail
              clear hnf
              have hN := HNw1.out
              have hz6 := hN.below.size
              have hz7 := Hb671.out.size
              have hz7e := Hz71.out
              have hcb : ∀ b, CbV w61.heap.size Am nm At nt b → b < wc.heap.size ∨ (w61.heap.size ≤ b ∧ b < w61.heap.size + 4) := fun b hb => by
                rcases hb with ⟨hn, a, e, rfl⟩ | ⟨hn, a, e, rfl⟩ | h
                · obtain ⟨b, o, e', hb, _⟩ := (HWm.out wc (Below.refl _ _)).2 hn
                  rw [e] at e'; cases e'; exact .inl hb
                · obtain ⟨b, o, e', hb, _⟩ := (HWt.out wc (Below.refl _ _)).2 hn
                  rw [e] at e'; cases e'; exact .inl hb
                · exact .inr h
              have hzc : wc.heap.size ≤ V01.heap.size := HSt1.out.bel.size
              have hcx : ∀ b, CbV w61.heap.size Am nm At nt b → b ∉ X1.ctl := fun b hb hx => by
                have := hN.ctl b hx
                have := hcb b hb
                omega
              have hcl : ∀ b, CbV w61.heap.size Am nm At nt b → b < w71.heap.size := fun b hb => by have := hcb b hb; omega
              have hgs := HSt1.out.gs
              have hol := HSt1.out.old
              have hctl := hN.ctl
              have Hcb := Lib.hid hcb
              have Hcx := Lib.hid hcx
              have Hcl := Lib.hid hcl
              have Hgs := Lib.hid hgs
              have Hol := Lib.hid hol
              have Hctl := Lib.hid hctl
              clear hcb hcx hcl hgs hol hctl
              have hk07 : Below V01.heap.size V01 w71 := hN.below.trans (Hb671.out.mono hN.below.size)
              have h0 := HSt1.out.start hk07 (C := (· ∈ X1.ctl)) (fun b hb => (Hctl.out b hb).1)
              have hbel7 := (HSt1.out.bel.trans (hk07.mono hzc))
              have hge1 : wc.heap.size ≤ gb ∧ gb < V01.heap.size := ⟨HSt1.out.ge, HSt1.out.bk.lt⟩
              have hoz : ∀ b, oldB F1 b ∨ b ∈ X1.ctl → b < w71.heap.size := fun b hb => hb.elim (fun h => by have := Hol.out b h; omega) (fun h => by have := Hctl.out b h; omega)
              have Hoz := Lib.hid hoz
              clear hoz
              refine wp_named fun a0 ha0 => ?_
              refine (wpIn_wide (n := 9)).1 ?_
              have hV := view_H 8 (by omega) (M := 0) (sx := w61.heap.size) (fb := w61.heap.size + 1) (tb := w61.heap.size + 1 + 1) (qb := w61.heap.size + 1 + 1 + 1) (Af := Am) (nf := nm) (cf := cm) (At := At) (nt := nt) (ct := ct) (sq := sq) (frm := mid) (upt := upt) (Cb := CbV w61.heap.size Am nm At nt) w71 hN.mks (by have := Hal.out; omega) (by omega) (by have := hN.n; omega) Hcx.out Hcl.out Hkey.out
              obtain ⟨V1, hVV⟩ : ∃ V, V = viewP sq none (partL all mid upt) := ⟨_, rfl⟩
              rw [← hVV] at hV
              have hVl : V1.length ≤ 5000 := by
                rw [hVV]
                refine Nat.le_trans (viewP_le _ _ _) (Nat.le_trans ?_ Hal.out)
                unfold partL
                refine Nat.le_trans (List.takeWhile_prefix _).length_le ?_
                rw [List.length_drop]; omega
              have HVV1 := Lib.hid hVV
              have HVl1 := Lib.hid hVl
              clear hVV hVl
              refine range_H (n := 9) (by omega) (gf := 21) (lb := #[.pointer (some ⟨w61.heap.size, 0, none⟩), .pointer (some ⟨w61.heap.size + 1, 0, none⟩), .pointer (some ⟨w61.heap.size + 1 + 1, 0, none⟩), .pointer (some ⟨w61.heap.size + 1 + 1 + 1, 0, none⟩)]) (by rw [ha0]; rfl) (enters_of Try.func21 (by kernel_rfl) rfl) (fun y b h => h.1) hV (fun b hb => by have := Hctl.out b hb; omega) (Below.refl _ _) (fun _ => rfl)
                (G0 := gsB gb A1' ((D1, .deferred (some [])) :: [(hb, .cells #[.slice none 0 0] 26), (rb, .cells #[.slice Af nf cf, .slice Am nm cm, .slice Am nm cm, .slice At nt ct] 46)])) (fun b hb => by have := Hgs.out b hb; omega)
                (fun W' hW' => ⟨hN.uit.keep (Kx.new_ (Hb671.out.trans (hW'.mono Hb671.out.size))) (fun b hb => .inl (hb.elim (fun h => .inl (Hgs.out b h).2) (fun h => .inr (by omega)))), HC71.out.kx (Kx.new_ hW' : Kx (fun _ => False) w71 W') (fun _ _ h => h), fun b hb hg => by
                    have h1 := Hcb.out b hb
                    rcases hg with h | h
                    · have := Hgs.out b h; omega
                    · omega⟩)
                (fun G G' W W' h hs hk => h.keep hk (fun b hb => .inl (hs b hb)))
                (fun pre G W => GtR wc.heap.size gb w71.heap.size (oldB F1) (· ∈ X1.ctl) F1 F1 wc ((D1, .deferred (some [])) :: [(hb, .cells #[.slice none 0 0] 26), (rb, .cells #[.slice Af nf cf, .slice Am nm cm, .slice Am nm cm, .slice At nt ct] 46)]) pre G W)
                (fun _ _ _ _ => False)
                (fun s G V' V'' h hk => h.kx hk (fun b hb hg => by
                    obtain ⟨A0, c0, h1, _⟩ := h
                    exact hb.1.elim (fun hx => h1.no b (.inr hx) hg) (fun h => h.2 hg)) (fun b hb ho => by
                    have h1 := Hol.out b ho
                    exact hb.1.elim (fun hx => by have := Hctl.out b hx; omega) (fun h => by omega)) (fun b hb => hb.2) (fun b hb => hb.1.elim (fun hx => by have := Hctl.out b hx; omega) (fun h => by omega)) (Nat.le_refl _))
                h0
                (fun pre x G a' W => ∃ xb, GtAll wc.heap.size gb (oldB F1) (· ∈ X1.ctl) F1 F1 wc ((D1, .deferred (some [])) :: [(hb, .cells #[.slice none 0 0] 26), (rb, .cells #[.slice Af nf cf, .slice Am nm cm, .slice Am nm cm, .slice At nt ct] 46)]) w71.heap.size V1 pre x G xb W ∧ a' = { tmps := (a0.tmps.setIfInBounds 99 (.agg #[.int .i64 x.F.K.ep, .slice x.F.A1 (bcs x.F.K.srt).length x.F.c1, .int .i64 x.F.K.sq, .int .i64 x.F.K.kd, .string ⟨x.F.K.txt.toArray⟩, .slice x.F.A2 x.F.n2 x.F.c2])).setIfInBounds 22 (.pointer (some ⟨xb, 0, none⟩)), defers := [] })
                (fun pre x G a' V' V'' h hk => by
                  obtain ⟨xb, h1, h2⟩ := h
                  exact ⟨xb, h1.kx hk (fun b hb => hb.1.2) (fun b hb ho => by have := Hol.out b ho; have := hb.1.1; omega) (fun b hb => hb.2) (fun b hb => by have := hb.1.1; omega) (Nat.le_refl _), h2⟩)
                ?assign ?body ?done ?stop (fun _ _ _ _ _ h => h.elim)
              case stop =>
                rintro D c' pre G W hD hnG hS h hE hK
                exact h.elim
              case assign =>
                rintro l pre x G W h hy hg
                have hA := h.assign hy hg Hoz.out (by have := hy.2.2.2.2.2; exact this) (Nat.le_refl _)
                have HA := Lib.hid hA
                clear hA h
                unfold Vx.val
                rw [ha0]
                gi_wp2
                exact ⟨_, Kx.new_ ((Below.refl W.heap.size W).alloc (Nat.le_refl _) _), fun b hb => hb.imp id (fun h => h.1), W.heap.size, HA.out, rfl⟩
              case body =>
                rintro l pre x G a' W ⟨xb, ⟨A0, c0, h1, h2, h3, h6, h7⟩, rfl⟩ hlen
                rw [ha0]
                simp only [List.setIfInBounds_toArray, List.set_cons_zero, List.set_cons_succ]
                obtain ⟨q, hq⟩ : ∃ q, q = (F1 ++ pre.map Vx.F).length := ⟨_, rfl⟩
                have hown := h1.own
                have gc := h1.bk.cell 0
                rw [← hq] at hown gc
                have xc := h7.bx.cell
                have hpl : q + 1 ≤ 137438953472 := by rw [hq, List.length_append, List.length_map]; have := HVl1.out; have := HFl1.out; omega
                have Hq := Lib.hid hq
                have Hown := Lib.hid hown
                have Hpl := Lib.hid hpl
                have H1 := Lib.hid h1
                have H2 := Lib.hid h2
                have H3 := Lib.hid h3
                have H7 := Lib.hid h7
                have hw4W : wc.heap.size ≤ W.heap.size := h2.1.size
                clear h1 h2 h3 h6 h7 hpl hq hown
                gi_wp2_with (gi_at_builtin; refine listIn_step1 rfl (by intro c h; cases h) (fun K hK => wpList_appK_new (w := W) (w0 := W) rfl (.tmp 100) (.tmp 102) rfl slf (by decide) rfl Hown.out (Below.refl _ _) hw4W rfl (news := x.F.cs) rfl (encFd.one x.F) Hpl.out (fun v3 w3 ho3 hb3 hg3 hat3 hs3 => wpList_nil (hK _ _ ?_))); obtain ⟨A3, c3, rfl, hbk3, hI3, hk3, hl3⟩ := H1.out.snoc Hq.out H2.out hge1.1 (Nat.le_refl _) H3.out H7.out Hoz.out ho3 hg3 hat3; have q3 := hbk3.cell 0; have z3 := hbk3.frz 0)
                exact ⟨fun b => G b ∨ (x.lo ≤ b ∧ b < w3.heap.size), hk3, fun b hb => ⟨hl3 b hb, hb.imp id (fun h => h.1)⟩, hI3⟩
              case done =>
                rintro D2 xs2 G W2 hD2 hnG hS2 hR hE hK
                obtain ⟨A2', c2', hSt2⟩ := hR.stage hK (by omega) (fun p hp => (HSt1.out.ks p hp).1) hge1.1
                obtain ⟨F2, hF2⟩ : ∃ F2, F2 = F1 ++ xs2.map Vx.F := ⟨_, rfl⟩
                rw [← hF2] at hSt2
                have hp2 : F2.map Fnd.pl = V0 ++ V1 := by rw [hF2, List.map_append, Hp1.out, List.map_map]; exact congrArg _ hS2
                have hl2 : F2.length ≤ 20000 := by
                  have h1 := congrArg List.length hp2
                  rw [List.length_map, List.length_append] at h1
                  have := HVl0.out; have := HVl1.out; omega
                have HFl2 := Lib.hid (show ([] : List Fnd).length ≤ 10000 by simp)
                have Hp2 := Lib.hid hp2
                have Hl2 := Lib.hid hl2
                have HSt2g := Lib.hid hSt2
                have HD2 := Lib.hid hD2
                obtain ⟨Ks3, hSt3, hg3, hq3, hr3⟩ := hSt2.swap (hb := hb) (List.mem_cons_of_mem _ (List.mem_cons_of_mem _ List.mem_cons_self))
                have HStC := Lib.hid hSt3
                have Hg3 := Lib.hid hg3
                have Hq3 := Lib.hid hq3
                have Hr3 := Lib.hid hr3
                clear hSt3 hg3 hq3 hr3 hR hE hK hS2 hF2 hp2 hSt2 hnG hl2 hD2
                rw [ha0]
                clear ha0
                dsimp only
                go_wp2_with fail
                rw [rounds_succ]
                go_wp2_with fail
                obtain ⟨V02, hV0⟩ : ∃ x, x = W2 := ⟨_, rfl⟩
                have HV0 := Lib.hid hV0
                have HSt2 := Lib.hid (show Stg wc hb F2 [] none 0 Ks3 V02 by rw [hV0]; exact HStC.out)
                have hbV0 : Below w.heap.size w V02 := Hbw.out.trans (HSt2.out.bel.mono Hbw.out.size)
                have l4 := HL.out V02 hbV0
                have HSr := c_sources V02 (c := c) l4.els l4.hB (by omega) (fun s hs => by have := f3 s hs; omega)
                unfold SourcesP at HSr
                have HSr := Lib.hid HSr
                rw [← hV0]
                clear hV0 hbV0 l4
                refine HSr.out.mono ?_
                rintro e w5 ⟨D, Ss, A4, c4, rfl, hS⟩
                have HNn := c_New w5 (c := c4) (rd_ownK hS.own) (Nat.le_refl _) hS.srcs (by rw [hS.len, Hlen.out]; omega) (fun b hb => (hS.dlt b hb).2)
                unfold NewP at HNn
                have HNn := Lib.hid HNn
                have HS := Lib.hid hS
                clear hS HSr
                go_wp2_with fail
                refine HNn.out.mono ?_
                rintro e w62 ⟨X2, D5, rfl, hI5, hX5, hb5, hg5, hib5, hhb5⟩
                have hN := it_new HS.out hI5 hX5 hb5 hg5 hib5 hhb5 Hlen.out f1
                rw [← Hall.out] at hN
                have HNw2 := Lib.hid hN
                have HmV := Lib.hid (c_mView w62 (ib := X2.ib) (Af := Af) (nf := nf) (cf := cf) (At := At) (nt := nt) (ct := ct) (sq := sq))
                clear HNn HS hI5 hX5 hb5 hg5 hib5 hhb5 hN
                go_wp2_with fail
                refine HmV.out.mono ?_
                rintro e w72 ⟨rfl, hw7⟩
                have hb06 := HSt2.out.bel.trans (HNw2.out.below.mono HSt2.out.bel.size)
                obtain ⟨hC7, hb67, hz7⟩ := caps_new w62 (X := X2) (cf := cf) (ct := ct) sq (HWf.out w62 hb06) (HWt.out w62 hb06) hb06.size hw7
                have HC72 := Lib.hid hC7
                have Hb672 := Lib.hid hb67
                have Hz72 := Lib.hid hz7
                clear hC7 hb67 hb06 hw7 HmV hz7
                have hnf := run_eql_seq
                go_wp2_with fail
                clear hnf
                have hN := HNw2.out
                have hz6 := hN.below.size
                have hz7 := Hb672.out.size
                have hz7e := Hz72.out
                have hcb : ∀ b, CbV w62.heap.size Af nf At nt b → b < wc.heap.size ∨ (w62.heap.size ≤ b ∧ b < w62.heap.size + 4) := fun b hb => by
                  rcases hb with ⟨hn, a, e, rfl⟩ | ⟨hn, a, e, rfl⟩ | h
                  · obtain ⟨b, o, e', hb, _⟩ := (HWf.out wc (Below.refl _ _)).2 hn
                    rw [e] at e'; cases e'; exact .inl hb
                  · obtain ⟨b, o, e', hb, _⟩ := (HWt.out wc (Below.refl _ _)).2 hn
                    rw [e] at e'; cases e'; exact .inl hb
                  · exact .inr h
                have hzc : wc.heap.size ≤ V02.heap.size := HSt2.out.bel.size
                have hcx : ∀ b, CbV w62.heap.size Af nf At nt b → b ∉ X2.ctl := fun b hb hx => by
                  have := hN.ctl b hx
                  have := hcb b hb
                  omega
                have hcl : ∀ b, CbV w62.heap.size Af nf At nt b → b < w72.heap.size := fun b hb => by have := hcb b hb; omega
                have hgs := HSt2.out.gs
                have hol := HSt2.out.old
                have hctl := hN.ctl
                have Hcb := Lib.hid hcb
                have Hcx := Lib.hid hcx
                have Hcl := Lib.hid hcl
                have Hgs := Lib.hid hgs
                have Hol := Lib.hid hol
                have Hctl := Lib.hid hctl
                clear hcb hcx hcl hgs hol hctl
                have hk07 : Below V02.heap.size V02 w72 := hN.below.trans (Hb672.out.mono hN.below.size)
                have h0 := HSt2.out.start hk07 (C := (· ∈ X2.ctl)) (fun b hb => (Hctl.out b hb).1)
                have hbel7 := (HSt2.out.bel.trans (hk07.mono hzc))
                have hge2 : wc.heap.size ≤ hb ∧ hb < V02.heap.size := ⟨HSt2.out.ge, HSt2.out.bk.lt⟩
                have hoz : ∀ b, oldB F2 b ∨ b ∈ X2.ctl → b < w72.heap.size := fun b hb => hb.elim (fun h => by have := Hol.out b h; omega) (fun h => by have := Hctl.out b h; omega)
                have Hoz := Lib.hid hoz
                clear hoz
                refine wp_named fun a0 ha0 => ?_
                refine (wpIn_wide (n := 9)).1 ?_
                have hV := view_H 8 (by omega) (M := 0) (sx := w62.heap.size) (fb := w62.heap.size + 1) (tb := w62.heap.size + 1 + 1) (qb := w62.heap.size + 1 + 1 + 1) (Af := Af) (nf := nf) (cf := cf) (At := At) (nt := nt) (ct := ct) (sq := sq) (frm := frm) (upt := upt) (Cb := CbV w62.heap.size Af nf At nt) w72 hN.mks (by have := Hal.out; omega) (by omega) (by have := hN.n; omega) Hcx.out Hcl.out Hkey.out
                obtain ⟨V2, hVV⟩ : ∃ V, V = viewP sq none (partL all frm upt) := ⟨_, rfl⟩
                rw [← hVV] at hV
                have hVl : V2.length ≤ 5000 := by
                  rw [hVV]
                  refine Nat.le_trans (viewP_le _ _ _) (Nat.le_trans ?_ Hal.out)
                  unfold partL
                  refine Nat.le_trans (List.takeWhile_prefix _).length_le ?_
                  rw [List.length_drop]; omega
                have HVV2 := Lib.hid hVV
                have HVl2 := Lib.hid hVl
                clear hVV hVl
                refine range_H (n := 9) (by omega) (gf := 21) (lb := #[.pointer (some ⟨w62.heap.size, 0, none⟩), .pointer (some ⟨w62.heap.size + 1, 0, none⟩), .pointer (some ⟨w62.heap.size + 1 + 1, 0, none⟩), .pointer (some ⟨w62.heap.size + 1 + 1 + 1, 0, none⟩)]) (by rw [ha0]; rfl) (enters_of Try.func21 (by kernel_rfl) rfl) (fun y b h => h.1) hV (fun b hb => by have := Hctl.out b hb; omega) (Below.refl _ _) (fun _ => rfl)
                  (G0 := gsB hb none Ks3) (fun b hb => by have := Hgs.out b hb; omega)
                  (fun W' hW' => ⟨hN.uit.keep (Kx.new_ (Hb672.out.trans (hW'.mono Hb672.out.size))) (fun b hb => .inl (hb.elim (fun h => .inl (Hgs.out b h).2) (fun h => .inr (by omega)))), HC72.out.kx (Kx.new_ hW' : Kx (fun _ => False) w72 W') (fun _ _ h => h), fun b hb hg => by
                      have h1 := Hcb.out b hb
                      rcases hg with h | h
                      · have := Hgs.out b h; omega
                      · omega⟩)
                  (fun G G' W W' h hs hk => h.keep hk (fun b hb => .inl (hs b hb)))
                  (fun pre G W => GtR wc.heap.size hb w72.heap.size (oldB F2) (· ∈ X2.ctl) F2 [] wc Ks3 pre G W)
                  (fun _ _ _ _ => False)
                  (fun s G V' V'' h hk => h.kx hk (fun b hb hg => by
                      obtain ⟨A0, c0, h1, _⟩ := h
                      exact hb.1.elim (fun hx => h1.no b (.inr hx) hg) (fun h => h.2 hg)) (fun b hb ho => by
                      have h1 := Hol.out b ho
                      exact hb.1.elim (fun hx => by have := Hctl.out b hx; omega) (fun h => by omega)) (fun b hb => hb.2) (fun b hb => hb.1.elim (fun hx => by have := Hctl.out b hx; omega) (fun h => by omega)) (Nat.le_refl _))
                  h0
                  (fun pre x G a' W => ∃ xb, GtAll wc.heap.size hb (oldB F2) (· ∈ X2.ctl) F2 [] wc Ks3 w72.heap.size V2 pre x G xb W ∧ a' = { tmps := (a0.tmps.setIfInBounds 116 (.agg #[.int .i64 x.F.K.ep, .slice x.F.A1 (bcs x.F.K.srt).length x.F.c1, .int .i64 x.F.K.sq, .int .i64 x.F.K.kd, .string ⟨x.F.K.txt.toArray⟩, .slice x.F.A2 x.F.n2 x.F.c2])).setIfInBounds 24 (.pointer (some ⟨xb, 0, none⟩)), defers := [] })
                  (fun pre x G a' V' V'' h hk => by
                    obtain ⟨xb, h1, h2⟩ := h
                    exact ⟨xb, h1.kx hk (fun b hb => hb.1.2) (fun b hb ho => by have := Hol.out b ho; have := hb.1.1; omega) (fun b hb => hb.2) (fun b hb => by have := hb.1.1; omega) (Nat.le_refl _), h2⟩)
                  ?assign ?body ?done ?stop (fun _ _ _ _ _ h => h.elim)
                case stop =>
                  rintro D c' pre G W hD hnG hS h hE hK
                  exact h.elim
                case assign =>
                  rintro l pre x G W h hy hg
                  have hA := h.assign hy hg Hoz.out (by have := hy.2.2.2.2.2; exact this) (Nat.le_refl _)
                  have HA := Lib.hid hA
                  clear hA h
                  unfold Vx.val
                  rw [ha0]
                  gi_wp2
                  exact ⟨_, Kx.new_ ((Below.refl W.heap.size W).alloc (Nat.le_refl _) _), fun b hb => hb.imp id (fun h => h.1), W.heap.size, HA.out, rfl⟩
                case body =>
                  rintro l pre x G a' W ⟨xb, ⟨A0, c0, h1, h2, h3, h6, h7⟩, rfl⟩ hlen
                  rw [ha0]
                  simp only [List.setIfInBounds_toArray, List.set_cons_zero, List.set_cons_succ]
                  obtain ⟨q, hq⟩ : ∃ q, q = ([] ++ pre.map Vx.F).length := ⟨_, rfl⟩
                  have hown := h1.own
                  have gc := h1.bk.cell 0
                  rw [← hq] at hown gc
                  have xc := h7.bx.cell
                  have hpl : q + 1 ≤ 137438953472 := by rw [hq, List.length_append, List.length_map]; have := HVl2.out; have := HFl2.out; omega
                  have Hq := Lib.hid hq
                  have Hown := Lib.hid hown
                  have Hpl := Lib.hid hpl
                  have H1 := Lib.hid h1
                  have H2 := Lib.hid h2
                  have H3 := Lib.hid h3
                  have H7 := Lib.hid h7
                  have hw4W : wc.heap.size ≤ W.heap.size := h2.1.size
                  clear h1 h2 h3 h6 h7 hpl hq hown
                  gi_wp2_with (gi_at_builtin; refine listIn_step1 rfl (by intro c h; cases h) (fun K hK => wpList_appK_new (w := W) (w0 := W) rfl (.tmp 117) (.tmp 119) rfl slf (by decide) rfl Hown.out (Below.refl _ _) hw4W rfl (news := x.F.cs) rfl (encFd.one x.F) Hpl.out (fun v3 w3 ho3 hb3 hg3 hat3 hs3 => wpList_nil (hK _ _ ?_))); obtain ⟨A3, c3, rfl, hbk3, hI3, hk3, hl3⟩ := H1.out.snoc Hq.out H2.out hge2.1 (Nat.le_refl _) H3.out H7.out Hoz.out ho3 hg3 hat3; have q3 := hbk3.cell 0; have z3 := hbk3.frz 0)
                  exact ⟨fun b => G b ∨ (x.lo ≤ b ∧ b < w3.heap.size), hk3, fun b hb => ⟨hl3 b hb, hb.imp id (fun h => h.1)⟩, hI3⟩
                case done =>
                  rintro D3 xs3 G W3 hD3 hnG hS3 hR hE hK
                  obtain ⟨A3', c3', hSt3⟩ := hR.stage hK (by omega) (fun p hp => (HSt2.out.ks p hp).1) hge2.1
                  obtain ⟨F3, hF3⟩ : ∃ F3, F3 = xs3.map Vx.F := ⟨_, rfl⟩
                  rw [List.nil_append, ← hF3] at hSt3
                  have hp3 : F3.map Fnd.pl = V2 := by rw [hF3, List.map_map]; exact hS3
                  have hsz : W2.heap.size ≤ W3.heap.size := by
                    have h1 := (Array.getElem?_eq_some_iff.1 hK).1
                    have h2 : V02.heap.size = W2.heap.size := by rw [HV0.out]
                    omega
                  obtain ⟨hbg, heg⟩ := HSt2g.out.kept hSt3 hsz (fun m hm => List.mem_append.2 (.inl hm)) (List.mem_cons_of_mem _ Hg3.out) (fun a e => by obtain ⟨o, h1, h2⟩ := Hr3.out a e; exact ⟨o, h1, List.mem_cons_of_mem _ h2⟩)
                  have heh : Els encFd W3 W3.heap.size A3' F3.length F3 := ⟨hSt3.own.rd, rfl, fun m hm => hSt3.oks m (hSt3.sub m hm)⟩
                  have he : F2.map Fnd.pl = F3.map Fnd.pl := by
                    have hsrt : Srt all := by rw [Hall.out]; exact (allL_all _).srt
                    rw [Hp2.out, hp3, HVV0.out, HVV1.out, HVV2.out]
                    unfold partL
                    rw [part_law hsrt, part_law hsrt, part_law hsrt]
                    have hul : upt.length = nt := by have := (HRt.out w (Below.refl _ _)).1; rwa [bcs_length] at this
                    exact (view_parts hsrt sq Hlw.out.1 Hlw.out.2.1 (fun h => Hlw.out.2.2 (by omega))).symm
                  have gc := hbg.cell 0
                  have hc := hSt3.bk.cell 0
                  have HSm := Lib.hid (c_Same W3 (c1 := c2') (c2 := c3') heg heh (Nat.le_refl _) he (by have := Hl2.out; omega))
                  have hq : ∀ D q, (D, .deferred q) ∈ ((D3, .deferred (some [])) :: Ks3) → W3.heap[D]? = some (.deferred q) := fun D q h => (hSt3.ks _ h).2.1
                  have hk3 := hq D3 _ List.mem_cons_self
                  have hk2 := hq D2 _ (List.mem_cons_of_mem _ (Hq3.out D2 _ List.mem_cons_self))
                  have hk1 := hq D1 _ (List.mem_cons_of_mem _ (Hq3.out D1 _ (List.mem_cons_of_mem _ List.mem_cons_self)))
                  have hl1 := (Array.getElem?_eq_some_iff.1 hk1).1
                  have hl2' := (Array.getElem?_eq_some_iff.1 hk2).1
                  have hl3 := (Array.getElem?_eq_some_iff.1 hk3).1
                  have hbel3 := hSt3.bel
                  have Hk1 := Lib.hid hk1
                  have Hk2 := Lib.hid hk2
                  have Hk3 := Lib.hid hk3
                  have Hbel3 := Lib.hid hbel3
                  clear hk1 hk2 hk3 hbel3 hq he heh heg hbg hSt3 hp3 hF3 hR hE hK hS3 hnG
                  rw [ha0]
                  clear ha0
                  dsimp only
                  go_wp2_with fail
                  refine HSm.out.mono ?_
                  rintro e W4 ⟨rfl, hb4⟩
                  go_wp2
                  have hKa := (hb4.block D3 hl3).trans Hk3.out
                  have hKb := (hb4.block D2 hl2').trans Hk2.out
                  have hKc := (hb4.block D1 hl1).trans Hk1.out
                  have o1 := HSt1.out.ks (D1, .deferred (some [])) List.mem_cons_self
                  have o1' := (Array.getElem?_eq_some_iff.1 o1.2.1).1
                  have o2 := HSt2.out.ks (D2, .deferred (some [])) (Hq3.out D2 _ List.mem_cons_self)
                  have o2' := (Array.getElem?_eq_some_iff.1 o2.2.1).1
                  have o3 := HNw1.out.below.size
                  have o4 := Hb671.out.size
                  have o5 := HD2.out
                  have o6 := HNw2.out.below.size
                  have o7 := Hb672.out.size
                  have o8 := Hbw.out.size
                  have o1c := o1.1
                  have o2c := o2.1
                  dsimp only at o1' o2' o1c o2c
                  have hn12 : D1 ≠ D2 := by omega
                  have hn13 : D1 ≠ D3 := by omega
                  have hn23 : D2 ≠ D3 := by omega
                  have hKb2 := ((grownBy_putObj' W4 D3 (.deferred none)).block D2 (Array.getElem?_eq_some_iff.1 hKb).1 (fun e => hn23 (Option.some.inj e))).trans hKb
                  have hKc2 := ((grownBy_putObj' W4 D3 (.deferred none)).block D1 (Array.getElem?_eq_some_iff.1 hKc).1 (fun e => hn13 (Option.some.inj e))).trans hKc
                  have hKc3 := ((grownBy_putObj' _ D2 (.deferred none)).block D1 (Array.getElem?_eq_some_iff.1 hKc2).1 (fun e => hn12 (Option.some.inj e))).trans hKc2
                  refine ⟨by simp, .inl ⟨_, _, rfl, run_takeDeferred hKa, ?_⟩⟩
                  refine ⟨by simp, .inl ⟨_, _, rfl, run_takeDeferred hKb2, ?_⟩⟩
                  refine ⟨by simp, .inl ⟨_, _, rfl, run_takeDeferred hKc3, ?_⟩⟩
                  have hbf := Hbw.out.trans ((Hbel3.out.trans (hb4.mono Hbel3.out.size)).mono Hbw.out.size)
                  have hfz := hbf.size
                  have hbg := ((hbf.grown (grownBy_putObj' W4 D3 (.deferred none)) hfz (fun k e => by cases e; omega)).grown (grownBy_putObj' _ D2 (.deferred none)) (by simp; omega) (fun k e => by cases e; omega)).grown (grownBy_putObj' _ D1 (.deferred none)) (by simp; omega) (fun k e => by cases e; omega)
                  exact ⟨.bool true, by simp [results, Try.results4, go_sem], rfl, hbg⟩
#print axioms w_MergeParts
end Go.Proofs.Ytedelkifadonjaa
