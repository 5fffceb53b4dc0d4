/- Layer 1: a file is made: the walk of Create. -/
import Derived.Test.YtaanmnplfppdeaaFsX3
namespace Go.Proofs.Ytaanmnplfppdeaa
open Go.RowKit Go.Lec Go.Fsy Go.Op Go.Maps
/-- A new file lies in block nb. -/
def joinG (G : Geo) (n nb : Nat) : Geo := { G with fid := fun j => if j = n then nb else G.fid j, lv := fun j => if j = n then .slice none 0 0 else G.lv j }
theorem mvCs_join {G : Geo} {n nb : Nat} {m : Mv} (h : ∀ i, m.nd = some i → i ≠ n) : mvCs (joinG G n nb).fid m = mvCs G.fid m := by
  cases m with
  | made a i => simp [mvCs, joinG, h i rfl]
  | ren a b i => simp [mvCs, joinG, h i rfl]
  | rem a => rfl
theorem FsG.joined {X I : Nat → Prop} {w w1 w' : World} {fb nb : Nat} {s : St} {G : Geo} {n : Bs} {e : Ending} (h : FsG X I w fb s G) (hinv : ∀ i, alive s i → i < s.nodes.length) (hb1 : Below w.heap.size w w1)
    (hB : Bk w1 nb 63 #[.slice none 0 0, .slice none 0 0, .slice none 0 0]) (hnb : w.heap.size ≤ nb) (hS : StepP w1 fb (Fsy.fresh s) (joinG G s.nodes.length nb) (.made n s.nodes.length) e w') :
    ∃ X', FsP X' I w' fb (Fsy.step (Fsy.fresh s) (.made n s.nodes.length)) ∧ Grow X I w X' I w' := by
  obtain ⟨_, D, mv, hBf, hm, hr, ho, hat, hk⟩ := hS
  have h1 := h.below hb1
  have hal : ∀ i, alive (Fsy.step (Fsy.fresh s) (.made n s.nodes.length)) i → alive s i ∨ i = s.nodes.length := fun i hi => (alive_step hi).imp id (fun e => (Option.some.inj e).symm)
  have hYX : ∀ b, (b = fb ∨ b = G.dm ∨ G.mv.ownBlock = some b) → X b := by
    rintro b (rfl | rfl | hb)
    · exact h.xfb
    · exact h.xdm
    · exact h.xmv b hb
  have hI : ∀ b, I b → ¬ (b = fb ∨ b = G.dm ∨ G.mv.ownBlock = some b) := fun b hb e => h.xi b hb (hYX b e)
  have hmv : ∀ b, mv.ownBlock = some b → X b ∨ w.heap.size ≤ b := fun b hb => by
    rcases hat with e | ⟨g, e, hg⟩
    · exact .inl (h.xmv b (e ▸ hb))
    · rw [e] at hb; cases hb; exact .inr (Nat.le_trans hb1.size hg)
  have hnY : ¬ (nb = fb ∨ nb = G.dm ∨ G.mv.ownBlock = some nb) := fun e => by have := h.lt _ (.inl (hYX _ e)); omega
  have hnb' : nb < w1.heap.size := hB.lt
  have hs1 := hb1.size
  have hs2 := hk.size
  have hnd : ∀ i, i < s.nodes.length → ndAt (Fsy.fresh s).nodes i = ndAt s.nodes i := fun i hi => by simp [ndAt, Fsy.fresh, List.getD_eq_getElem?_getD, List.getElem?_append_left hi]
  have hndn : ndAt (Fsy.fresh s).nodes s.nodes.length = ⟨[], []⟩ := by simp [ndAt, Fsy.fresh, List.getD_eq_getElem?_getD]
  have hold : ∀ i, alive s i → FileOk (fun b => X b ∨ mv.ownBlock = some b ∨ b = nb) I w' (G.fid i) (G.lv i) (ndAt s.nodes i) := fun i hi => by
    have hf := h1.files i hi
    obtain ⟨vs, hO⟩ := hf.own
    obtain ⟨cs, hBf⟩ := hf.bk
    refine (hf.kbP hk ?_ ?_ hI).more (fun b => .inl) (fun b hb => hb)
    · rintro (e | e | e)
      · exact bk_ne h1.bk hBf (by decide) e.symm
      · exact bk_map hBf h1.dmap e
      · exact own_bkK h1.mvs hBf (by decide) e
    · rintro g hg (e | e | e)
      · exact own_bkK hO h1.bk (by decide) (e ▸ hg)
      · exact own_map hO h1.dmap (e ▸ hg)
      · exact own_own h1.mvs hO (by decide) g e hg
  have hfl : ∀ i, alive s i → G.fid i < w.heap.size := fun i hi => h.lt _ (.inl (h.files i hi).xf)
  have hne : ∀ i, alive s i → i ≠ s.nodes.length := fun i hi => Nat.ne_of_lt (hinv i hi)
  refine ⟨fun b => X b ∨ mv.ownBlock = some b ∨ b = nb, ⟨{ joinG G s.nodes.length nb with D1 := D, mv := mv }, ⟨hBf, h1.rk.kbP hk hI, h1.rf.kbP hk hI, h1.ru.kbP hk hI, h.nk, h.nf, h.nu, hm, ownsMap_kbP h1.smap hk ?_, hr, ?_, ?_, fun i hi => ?_, fun i j hi hj he => ?_, fun i j g hi hj hgi hgj => ?_, h.ne, .inl h.xfb, .inl h.xdm, .inl h.xsm, fun g hg => .inr (.inl hg), ?_, ?_⟩⟩, ⟨fun b hb => ?_, fun b hb => .inl hb, ((KbP.of_below hb1 : KbP X w w1)).trans (hk.more hYX) (fun b hb => .inl hb)⟩⟩
  · rintro (e | e | e)
    · exact bk_map h.bk h.smap e.symm
    · exact h.ne e.symm
    · exact own_map h.mvs h.smap e
  · exact h.rep2.fids (fun p hp => by
      have : p.2 ≠ s.nodes.length := hne _ (.inr (.inl ⟨_, hp⟩))
      simp [joinG, this])
  · have hl : (Fsy.step (Fsy.fresh s) (.made n s.nodes.length)).mvs.length = s.mvs.length + 1 := by simp [Fsy.step, Fsy.fresh]
    rw [hl]; exact ho
  · rcases hal i hi with ha | rfl
    · have e1 : ({ joinG G s.nodes.length nb with D1 := D, mv := mv } : Geo).fid i = G.fid i := if_neg (hne i ha)
      have e2 : ({ joinG G s.nodes.length nb with D1 := D, mv := mv } : Geo).lv i = G.lv i := if_neg (hne i ha)
      rw [e1, e2]
      show FileOk _ _ _ _ _ (ndAt (Fsy.fresh s).nodes i)
      rw [hnd i (hinv i ha)]
      exact hold i ha
    · have e1 : ({ joinG G s.nodes.length nb with D1 := D, mv := mv } : Geo).fid s.nodes.length = nb := if_pos rfl
      have e2 : ({ joinG G s.nodes.length nb with D1 := D, mv := mv } : Geo).lv s.nodes.length = .slice none 0 0 := if_pos rfl
      rw [e1, e2]
      show FileOk _ _ _ _ _ (ndAt (Fsy.fresh s).nodes s.nodes.length)
      rw [hndn]
      exact ⟨⟨none, 0, none, 0, [], hB.kbP hk hnY, RdP.nil_, Nat.le_refl _, RdP.nil_, Nat.le_refl _, OwnK.nil_ _ _ _ _, ⟨rfl, fun k v c hv => by cases hv⟩⟩, .inr (.inr rfl), fun g hg => by cases hg⟩
  · change (if i = s.nodes.length then nb else G.fid i) = (if j = s.nodes.length then nb else G.fid j) at he
    rcases hal i hi with ha | rfl
    · rw [if_neg (hne i ha)] at he
      rcases hal j hj with hb | rfl
      · rw [if_neg (hne j hb)] at he
        exact h.inj i j ha hb he
      · rw [if_pos rfl] at he
        have := hfl i ha; omega
    · rw [if_pos rfl] at he
      rcases hal j hj with hb | rfl
      · rw [if_neg (hne j hb)] at he
        have := hfl j hb; omega
      · rfl
  · change (if i = s.nodes.length then Value.slice none 0 0 else G.lv i).ownBlock = some g at hgi
    change (if j = s.nodes.length then Value.slice none 0 0 else G.lv j).ownBlock = some g at hgj
    rcases hal i hi with ha | rfl
    · rw [if_neg (hne i ha)] at hgi
      rcases hal j hj with hb | rfl
      · rw [if_neg (hne j hb)] at hgj
        exact h.injl i j g ha hb hgi hgj
      · rw [if_pos rfl] at hgj; cases hgj
    · rw [if_pos rfl] at hgi; cases hgi
  · rintro b hb (hx | hx | hx)
    · exact h.xi b hb hx
    · rcases hmv b hx with e | e
      · exact h.xi b hb e
      · have := h.lt b (.inr hb); omega
    · have := h.lt b (.inr hb); omega
  · rintro b ((hb | hb | hb) | hb)
    · have := h.lt b (.inl hb); omega
    · exact (World.ownsRow.lt ho b hb).2
    · omega
    · have := h.lt b (.inr hb); omega
  · rcases hb with hb | hb | hb
    · exact .inl hb
    · exact hmv b hb
    · exact .inr (by omega)
set_option maxRecDepth 100000 in
set_option maxHeartbeats 1600000 in
theorem c_Create (w : World) {X I : Nat → Prop} {fb N : Nat} {s : St} {name : Bs} (h : FsP X I w fb s) (hi : Fsy.Inv s N) (hN : N ≤ 1048575) (hp : s.pl.ok) (hn : name.length ≤ 4294967296) :
    Calls Try.prog 7 #[ptrV fb, .string ⟨name.toArray⟩] w (UpdP X I w fb (Fsy.create s name)) := by
  have HO := Lib.hid (c_op w h hi hN hp)
  unfold OpP at HO
  have hbi := hi.begin
  have hpl := begin_pl s
  obtain ⟨b, hb⟩ : ∃ x, x = Fsy.begin s := ⟨_, rfl⟩
  have hsd : Fsy.create s name = if b.2 ≠ 0 then b else if may name = false then (b.1, 15) else if (node b.1.dir name).isSome then (b.1, 13) else if 4096 ≤ b.1.dir.length then (b.1, 2) else if Fsy.full b.1 then (b.1, 11) else (Fsy.step (Fsy.fresh b.1) (.made name b.1.nodes.length), 0) := by rw [hb]; rfl
  rw [← hb] at HO hbi hpl
  rw [← hpl] at hp
  rw [hsd]
  clear hsd hb h hi hpl
  have HM := Lib.hid (fun W => c_may W name hn)
  unfold ptrV at *
  by_cases hc : b.2 = 0
  · rw [if_neg (by simpa using hc)]
    rw [hc] at HO
    clear hc
    have HLK := Lib.hid (fun (W : World) (X1 I1 : Nat → Prop) (G : Geo) (hG : FsG X1 I1 W fb b.1 G) => look_ok hG.dmap hG.rep1 hn)
    obtain ⟨mc, hmc⟩ : ∃ x, x = may name := ⟨_, rfl⟩
    rw [← hmc] at HM ⊢
    obtain ⟨nd, hnd⟩ : ∃ x, x = node b.1.dir name := ⟨_, rfl⟩
    rw [← hnd] at HLK ⊢
    have HV := Lib.hid (show ∀ (W : World) (X1 I1 : Nat → Prop) (G : Geo) (hG : FsG X1 I1 W fb b.1 G), ∃ v : Value, ∃ iS : Bool, iS = nd.isSome ∧ (Instr.lookup 35 (.map (some G.dm)) (.string ⟨name.toArray⟩) true).run Try.prog W = .ok (.tuple #[v, .bool iS]) W from fun W X1 I1 G hG => by
      have := HLK.out W X1 I1 G hG
      cases nd with
      | none => exact ⟨_, false, rfl, this⟩
      | some i => exact ⟨_, true, rfl, this⟩)
    cases mc with
    | false =>
      rw [if_pos rfl]
      clear hmc hnd HLK
      go_enter Try.func7, Try.ntmps7
      go_wp2_with (first | (go_at_call 24; refine HO.out.mono ?_; rintro e w1 ⟨n, rfl, hn1, X1, I1, ⟨G, hG⟩, hg1⟩; have c8 : w1.cell? ⟨fb, 8, none⟩ = some (.map (some G.dm)) := hG.bk.cell 8; obtain ⟨v, iS, hv, hlk⟩ := HV.out w1 X1 I1 G hG; clear hv) | (go_at_call 25; refine (HM.out _).mono ?_; rintro e w2 ⟨rfl, rfl⟩))
      go_ret
      exact ⟨rfl, X1, I1, ⟨G, hG⟩, hg1⟩
    | true =>
      rw [if_neg (by decide)]
      cases nd with
      | some i =>
        rw [if_pos (show (some i).isSome = true from rfl)]
        clear hmc hnd HV
        go_enter Try.func7, Try.ntmps7
        go_wp2_with (first | (go_at_call 24; refine HO.out.mono ?_; rintro e w1 ⟨n, rfl, hn1, X1, I1, ⟨G, hG⟩, hg1⟩; have c8 : w1.cell? ⟨fb, 8, none⟩ = some (.map (some G.dm)) := hG.bk.cell 8; have hlk := HLK.out w1 X1 I1 G hG) | (go_at_call 25; refine (HM.out _).mono ?_; rintro e w2 ⟨rfl, rfl⟩))
        go_ret
        exact ⟨rfl, X1, I1, ⟨G, hG⟩, hg1⟩
      | none =>
        rw [if_neg (show ¬ (none : Option Nat).isSome = true by decide)]
        have hcn := may_ne hmc.symm
        have hdl := hbi.nDir
        have hml := hbi.nSafe
        have hcnt := hbi.nCnt
        obtain ⟨dl, hdL⟩ : ∃ x, x = b.1.dir.length := ⟨_, rfl⟩
        have HdL := Lib.hid hdL
        rw [← hdL] at hdl ⊢
        clear hmc hnd HV hdL
        by_cases hlong : 4096 ≤ dl
        · rw [if_pos hlong]
          have hl' : (4096 : Int) ≤ (dl : Int) := by omega
          go_enter Try.func7, Try.ntmps7
          go_wp2_with (first | (go_at_call 24; refine HO.out.mono ?_; rintro e w1 ⟨n, rfl, hn1, X1, I1, ⟨G, hG⟩, hg1⟩; have c8 : w1.cell? ⟨fb, 8, none⟩ = some (.map (some G.dm)) := hG.bk.cell 8; have hlk := HLK.out w1 X1 I1 G hG) | (go_at_call 25; refine (HM.out _).mono ?_; rintro e w2 ⟨rfl, rfl⟩) | (at_len; refine wpList_len_own _ rfl _ 35 rfl 9 59 Try.underlying35 ptrR G.dm _ G.D1 rfl hG.dmap ?_; rw [hG.rep1.size, ← HdL.out]))
          go_ret
          exact ⟨rfl, X1, I1, ⟨G, hG⟩, hg1⟩
        · rw [if_neg hlong]
          have hl' : ¬ (4096 : Int) ≤ (dl : Int) := by omega
          obtain ⟨fl, hfl⟩ : ∃ x, x = Fsy.full b.1 := ⟨_, rfl⟩
          have hno : noRoom b.1 0 = fl := by rw [hfl]; simp [noRoom]
          rw [← hfl]
          clear hfl
          have HFu := Lib.hid (fun (W : World) (X1 I1 : Nat → Prop) (G : Geo) (hG : FsG X1 I1 W fb b.1 G) => c_full W ⟨G, hG⟩ hbi (by omega) hp 0 (by omega))
          rw [hno] at HFu
          unfold ptrV at HFu
          cases fl with
          | true =>
            rw [if_pos rfl]
            go_enter Try.func7, Try.ntmps7
            go_wp2_with (first | (go_at_call 24; refine HO.out.mono ?_; rintro e w1 ⟨n, rfl, hn1, X1, I1, ⟨G, hG⟩, hg1⟩; have hn1 := hn1 rfl; subst hn1; have c8 : w1.cell? ⟨fb, 8, none⟩ = some (.map (some G.dm)) := hG.bk.cell 8; have hlk := HLK.out w1 X1 I1 G hG; have HF := Lib.hid (HFu.out w1 X1 I1 G hG)) | (go_at_call 25; refine (HM.out _).mono ?_; rintro e w2 ⟨rfl, rfl⟩) | (at_len; refine wpList_len_own _ rfl _ 35 rfl 9 59 Try.underlying35 ptrR G.dm _ G.D1 rfl hG.dmap ?_; rw [hG.rep1.size, ← HdL.out]) | (go_at_call 26; refine HF.out.mono ?_; rintro e w2 ⟨rfl, hb2⟩))
            go_ret
            exact ⟨rfl, X1, I1, ⟨G, hG.below hb2⟩, hg1.trans (Grow.of_kb (KbP.of_below hb2))⟩
          | false =>
            rw [if_neg (by decide)]
            have HST := Lib.hid (fun (W : World) (X1 I1 : Nat → Prop) (G : Geo) (hG : FsG X1 I1 W fb b.1 G) => show Bk (W.alloc (.cells #[.slice none 0 0, .slice none 0 0, .slice none 0 0] 63)) W.heap.size 63 #[.slice none 0 0, .slice none 0 0, .slice none 0 0] ∧ Calls Try.prog 27 #[.pointer (some ⟨fb, 0, none⟩), .agg #[.string ⟨#[]⟩, .string ⟨name.toArray⟩, .pointer (some ⟨W.heap.size, 0, none⟩)]] (W.alloc (.cells #[.slice none 0 0, .slice none 0 0, .slice none 0 0] 63)) (StepP (W.alloc (.cells #[.slice none 0 0, .slice none 0 0, .slice none 0 0] 63)) fb (Fsy.fresh b.1) (joinG G b.1.nodes.length W.heap.size) (.made name b.1.nodes.length)) by
              have hG1 := hG.below ((Below.refl W.heap.size W).alloc (Nat.le_refl _) (.cells #[.slice none 0 0, .slice none 0 0, .slice none 0 0] 63))
              refine ⟨Bk.new_ _ _ _, ?_⟩
              have hjn : (joinG G b.1.nodes.length W.heap.size).fid b.1.nodes.length = W.heap.size := if_pos rfl
              have hC := c_step (W.alloc (.cells #[.slice none 0 0, .slice none 0 0, .slice none 0 0] 63)) (N := b.1.nodes.length + 1) (fb := fb) (s := Fsy.fresh b.1) (G := joinG G b.1.nodes.length W.heap.size) (m := .made name b.1.nodes.length) hG1.bk hG1.dmap
                (hG1.rep1.fids (fun p hp => by have := (hbi.dir.2 p hp).2.2; have : p.2 ≠ b.1.nodes.length := by omega
                                               simp [joinG, this])) hbi.dir.1 (by
                  have e : (Fsy.fresh b.1).mvs.flatMap (mvCs (joinG G b.1.nodes.length W.heap.size).fid) = b.1.mvs.flatMap (mvCs G.fid) := by
                    have hc : ∀ l : List Mv, (∀ m ∈ l, mvCs (joinG G b.1.nodes.length W.heap.size).fid m = mvCs G.fid m) → l.flatMap (mvCs (joinG G b.1.nodes.length W.heap.size).fid) = l.flatMap (mvCs G.fid) := by
                      intro l hl
                      induction l with
                      | nil => rfl
                      | cons a l ih => rw [List.flatMap_cons, List.flatMap_cons, hl a List.mem_cons_self, ih (fun m hm => hl m (List.mem_cons_of_mem _ hm))]
                    exact hc b.1.mvs (fun m hm => mvCs_join (fun i hi => Nat.ne_of_lt (alive_lt hbi (.inr (.inr ⟨m, hm, hi⟩)))))
                  rw [e]; exact hG1.mvs) ⟨hcn, Nat.lt_succ_self _⟩ hn (by show b.1.dir.length ≤ _; have := HdL.out; omega) (by show b.1.mvs.length ≤ _; omega)
              rw [show mvCs (joinG G b.1.nodes.length W.heap.size).fid (.made name b.1.nodes.length) = [.string ⟨#[]⟩, .string ⟨name.toArray⟩, .pointer (some ⟨W.heap.size, 0, none⟩)] from by rw [mvCs, hjn]; rfl] at hC
              exact hC)
            have hal : ∀ i, alive b.1 i → i < b.1.nodes.length := fun i => alive_lt hbi
            go_enter Try.func7, Try.ntmps7
            go_wp2_with (first | (go_at_call 24; refine HO.out.mono ?_; rintro e w1 ⟨n, rfl, hn1, X1, I1, ⟨G, hG⟩, hg1⟩; have hn1 := hn1 rfl; subst hn1; have c8 : w1.cell? ⟨fb, 8, none⟩ = some (.map (some G.dm)) := hG.bk.cell 8; have hlk := HLK.out w1 X1 I1 G hG; have HF := Lib.hid (HFu.out w1 X1 I1 G hG)) | (go_at_call 25; refine (HM.out _).mono ?_; rintro e w2 ⟨rfl, rfl⟩) | (at_len; refine wpList_len_own _ rfl _ 35 rfl 9 59 Try.underlying35 ptrR G.dm _ G.D1 rfl hG.dmap ?_; rw [hG.rep1.size, ← HdL.out]) | (go_at_call 26; refine HF.out.mono ?_; rintro e w2 ⟨rfl, hb2⟩; obtain ⟨hB2, HS0⟩ := HST.out w2 X1 I1 G (hG.below hb2); have HS := Lib.hid HS0; clear HS0) | (go_at_call 27; refine HS.out.mono ?_; rintro e w4 hS4; obtain rfl := hS4.1))
            go_ret
            obtain ⟨X2, hP2, hg2⟩ := (hG.below hb2).joined hal ((Below.refl w2.heap.size w2).alloc (Nat.le_refl _) _) hB2 (Nat.le_refl _) hS4
            exact ⟨rfl, X2, I1, hP2, (hg1.trans (Grow.of_kb (KbP.of_below hb2))).trans hg2⟩
  · rw [if_pos hc]
    obtain ⟨st, cd⟩ := b
    simp only at hc HO
    have hcd : (cd == 0) = false := by rw [beq_eq_false_iff_ne]; exact hc
    go_enter Try.func7, Try.ntmps7
    go_wp2_with (first | (go_at_call 24; refine HO.out.mono ?_; rintro e w1 ⟨n, rfl, hn1, X1, I1, hP1, hg1⟩))
    go_ret
    exact ⟨rfl, X1, I1, hP1, hg1⟩
end Go.Proofs.Ytaanmnplfppdeaa
