/- Layer 17: a log in a file system: the walks of Create, Open. -/
import Derived.Test.YtgilnjngphhhlaaGreatWdA
import Derived.Test.YtgilnjngphhhlaaGreatWalK
namespace Go.Proofs.YtgilnjngphhhlaaGreat
open Go.RowKit Go.Lec Go.Fsy Go.Op Go.Maps
/-- What making, or opening, a log leaves. -/
def LgMade (B : Nat) (K : Nat → Prop) (w : World) (fb : Nat) (name : Bs) (r : St × Int) (l : Lg) (e : Ending) (w' : World) : Prop :=
  ((r.2 = 0 ∧ ∃ lb, e = .returned (.tuple #[ptrV lb, .int .i64 0]) ∧ LgP B K w' lb fb name r.1 l) ∨
    (r.2 ≠ 0 ∧ e = .returned (.tuple #[.pointer none, .int .i64 r.2]) ∧ One B K w' fb r.1)) ∧ Below B w w' ∧ KbP (fun b => ¬ K b) w w'
/-- A log that is made. -/
theorem LgP.new_ {B fb : Nat} {K : Nat → Prop} {w : World} {name : Bs} {s : St} (h : One B K w fb s) (hB : B ≤ w.heap.size) (hK : ∀ b, K b → b < w.heap.size) (hBK : ∀ b, b < B → K b) :
    LgP B K (w.alloc (.cells (lgCs fb name (.slice none 0 0) ⟨[], 0, false⟩) 28)) w.heap.size fb name s ⟨[], 0, false⟩ := by
  have hb := (Below.refl w.heap.size w).alloc (Nat.le_refl _) (.cells (lgCs fb name (.slice none 0 0) ⟨[], 0, false⟩) 28)
  refine ⟨fun b => K b ∨ b = w.heap.size, fun _ => False, _, [], ⟨Bk.new_ w _ _, Lec.Own.nil_ _ _ _, BEls.nil _ _, (h.fresh (fun b hb => hb.imp_right (fun e => by omega))).below hb, hB, fun b hb => .inl (hBK b hb), .inr rfl, (fun g e => by cases e), (fun b hb => hb.elim), (fun h => h), (fun g e => by cases e), fun b hb => ?_⟩, fun b hz => ⟨.inl hz, fun e => by have := hK b hz; omega, (fun e => by cases e), fun h => h⟩⟩
  have hs : (w.alloc (.cells (lgCs fb name (.slice none 0 0) ⟨[], 0, false⟩) 28)).heap.size = w.heap.size + 1 := by simp
  rw [hs]
  rcases hb with hb | hb
  · have := hK b hb; omega
  · omega
set_option maxRecDepth 100000 in
set_option maxHeartbeats 1600000 in
theorem l_Create (w : World) {B fb N : Nat} {K : Nat → Prop} {name : Bs} {s : St} (h : One B K w fb s) (hB : B ≤ w.heap.size) (hK : ∀ b, K b → b < w.heap.size) (hBK : ∀ b, b < B → K b) (hi : Fsy.Inv s N) (hN : N ≤ 1000000) (hp : s.pl.ok) (hn : name.length ≤ 4294967296) :
    Calls Tryz.prog 13 #[ptrV fb, .string ⟨name.toArray⟩] w (LgMade B K w fb name (lgCreate s name) ⟨[], 0, false⟩) := by
  have HC := Lib.hid (o_Create h hB hK hi (by omega) hp hn)
  have hsd : lgCreate s name = if (create s name).2 ≠ 0 then create s name else if (sync (create s name).1 name).2 ≠ 0 then sync (create s name).1 name else syncDir (sync (create s name).1 name).1 := rfl
  rw [hsd]
  clear hsd
  have i1 := hi.create name
  have p1 : (create s name).1.pl.ok := by rw [create_pl]; exact hp
  obtain ⟨r1, hr1⟩ : ∃ r, r = create s name := ⟨_, rfl⟩
  rw [← hr1] at i1 p1 HC ⊢
  have HS := Lib.hid (show ∀ (W : World), One B K W fb r1.1 → w.heap.size ≤ W.heap.size → _ from fun W hO hz => o_Sync (name := name) hO (Nat.le_trans hB hz) (fun b hb => Nat.lt_of_lt_of_le (hK b hb) hz) i1 (by omega) p1 hn)
  have i2 := i1.sync name
  have p2 : (sync r1.1 name).1.pl.ok := by rw [sync_pl]; exact p1
  obtain ⟨r2, hr2⟩ : ∃ r, r = sync r1.1 name := ⟨_, rfl⟩
  rw [← hr2] at i2 p2 HS ⊢
  have HD := Lib.hid (show ∀ (W : World), One B K W fb r2.1 → w.heap.size ≤ W.heap.size → _ from fun W hO hz => o_SyncDir hO (Nat.le_trans hB hz) (fun b hb => Nat.lt_of_lt_of_le (hK b hb) hz) i2 (by omega) p2)
  obtain ⟨r3, hr3⟩ : ∃ r, r = syncDir r2.1 := ⟨_, rfl⟩
  rw [← hr3] at HD ⊢
  have HK := Lib.hid hK
  have HBK := Lib.hid hBK
  clear hr1 hr2 hr3 i1 i2 p1 p2 hi hp h hK hBK
  unfold ptrV at *
  by_cases c1 : r1.2 = 0
  · rw [if_neg (by simpa using c1)]
    have c1b : (r1.2 == 0) = true := by simpa using c1
    by_cases c2 : r2.2 = 0
    · rw [if_neg (by simpa using c2)]
      have c2b : (r2.2 == 0) = true := by simpa using c2
      by_cases c3 : r3.2 = 0
      · have c3b : (r3.2 == 0) = true := by simpa using c3
        go_enter Tryz.func13, Tryz.ntmps13
        go_wp2_with (first
          | (go_at_call 27; (with_reducible refine HC.out.mono ?_); rintro e w1 hO1; obtain rfl := hO1.e; have b1 := hO1.below; have k1 := hO1.kb; have HS1 := Lib.hid (HS.out w1 hO1.one hO1.kb.size))
          | (go_at_call 24; (with_reducible refine HS1.out.mono ?_); rintro e w2 hO2; obtain rfl := hO2.e; have b2 := b1.trans hO2.below; have k2 := k1.trans hO2.kb (fun b h => .inl h); have z2 := Nat.le_trans hO1.kb.size hO2.kb.size; have HD1 := Lib.hid (HD.out w2 hO2.one z2))
          | (go_at_call 28; (with_reducible refine HD1.out.mono ?_); rintro e w3 hO3; obtain rfl := hO3.e; have b3 := b2.trans hO3.below; have k3 := k2.trans hO3.kb (fun b h => .inl h); have z3 := Nat.le_trans z2 hO3.kb.size))
        go_ret2
        exact ⟨.inl ⟨c3, w3.heap.size, rfl, LgP.new_ hO3.one (Nat.le_trans hB z3) (fun b hb => Nat.lt_of_lt_of_le (HK.out b hb) z3) HBK.out⟩, b3.alloc (Nat.le_trans hB z3) _, k3.alloc _⟩
      · have c3b : (r3.2 == 0) = false := by rw [beq_eq_false_iff_ne]; exact c3
        go_enter Tryz.func13, Tryz.ntmps13
        go_wp2_with (first
          | (go_at_call 27; (with_reducible refine HC.out.mono ?_); rintro e w1 hO1; obtain rfl := hO1.e; have b1 := hO1.below; have k1 := hO1.kb; have HS1 := Lib.hid (HS.out w1 hO1.one hO1.kb.size))
          | (go_at_call 24; (with_reducible refine HS1.out.mono ?_); rintro e w2 hO2; obtain rfl := hO2.e; have b2 := b1.trans hO2.below; have k2 := k1.trans hO2.kb (fun b h => .inl h); have z2 := Nat.le_trans hO1.kb.size hO2.kb.size; have HD1 := Lib.hid (HD.out w2 hO2.one z2))
          | (go_at_call 28; (with_reducible refine HD1.out.mono ?_); rintro e w3 hO3; obtain rfl := hO3.e; have b3 := b2.trans hO3.below; have k3 := k2.trans hO3.kb (fun b h => .inl h); have z3 := Nat.le_trans z2 hO3.kb.size))
        go_ret2
        exact ⟨.inr ⟨c3, rfl, hO3.one⟩, b3, k3⟩
    · rw [if_pos c2]
      have c2b : (r2.2 == 0) = false := by rw [beq_eq_false_iff_ne]; exact c2
      go_enter Tryz.func13, Tryz.ntmps13
      go_wp2_with (first
        | (go_at_call 27; (with_reducible refine HC.out.mono ?_); rintro e w1 hO1; obtain rfl := hO1.e; have b1 := hO1.below; have k1 := hO1.kb; have HS1 := Lib.hid (HS.out w1 hO1.one hO1.kb.size))
        | (go_at_call 24; (with_reducible refine HS1.out.mono ?_); rintro e w2 hO2; obtain rfl := hO2.e; have b2 := b1.trans hO2.below; have k2 := k1.trans hO2.kb (fun b h => .inl h); have z2 := Nat.le_trans hO1.kb.size hO2.kb.size; have HD1 := Lib.hid (HD.out w2 hO2.one z2))
        | (go_at_call 28; (with_reducible refine HD1.out.mono ?_); rintro e w3 hO3; obtain rfl := hO3.e; have b3 := b2.trans hO3.below; have k3 := k2.trans hO3.kb (fun b h => .inl h); have z3 := Nat.le_trans z2 hO3.kb.size))
      go_ret2
      exact ⟨.inr ⟨c2, rfl, hO2.one⟩, b2, k2⟩
  · rw [if_pos c1]
    have c1b : (r1.2 == 0) = false := by rw [beq_eq_false_iff_ne]; exact c1
    go_enter Tryz.func13, Tryz.ntmps13
    go_wp2_with (first
      | (go_at_call 27; (with_reducible refine HC.out.mono ?_); rintro e w1 hO1; obtain rfl := hO1.e; have b1 := hO1.below; have k1 := hO1.kb; have HS1 := Lib.hid (HS.out w1 hO1.one hO1.kb.size))
      | (go_at_call 24; (with_reducible refine HS1.out.mono ?_); rintro e w2 hO2; obtain rfl := hO2.e; have b2 := b1.trans hO2.below; have k2 := k1.trans hO2.kb (fun b h => .inl h); have z2 := Nat.le_trans hO1.kb.size hO2.kb.size; have HD1 := Lib.hid (HD.out w2 hO2.one z2))
      | (go_at_call 28; (with_reducible refine HD1.out.mono ?_); rintro e w3 hO3; obtain rfl := hO3.e; have b3 := b2.trans hO3.below; have k3 := k2.trans hO3.kb (fun b h => .inl h); have z3 := Nat.le_trans z2 hO3.kb.size))
    go_ret2
    exact ⟨.inr ⟨c1, rfl, hO1.one⟩, b1, k1⟩
/-- A log that is opened: its records were read. -/
theorem LgG.opened {B fb lb k : Nat} {K : Nat → Prop} {w1 w2 w3 : World} {name : Bs} {s : St} {recs : List Bs} {v : Value} {es : List Value} (h : One B K w1 fb s) (hB : B ≤ w1.heap.size) (hK : ∀ b, K b → b < w1.heap.size) (hBK : ∀ b, b < B → K b)
    (hlb : lb = w1.heap.size) (h2 : Below w1.heap.size w1 w2) (hbk : Bk w2 lb 28 (lgCs fb name (.slice none 0 0) ⟨[], 0, false⟩)) (h3 : Below w2.heap.size w2 w3) (ho : Lec.Own w3 w2.heap.size 22 v es)
    (hl : BEls w3 (fun k => w2.heap.size ≤ k ∧ ∃ cs, Bk w3 k 5 cs) es recs) :
    LgG B (fun b => K b ∨ (w1.heap.size ≤ b ∧ b < w3.heap.size)) (fun k => w2.heap.size ≤ k ∧ ∃ cs, Bk w3 k 5 cs) ((w3.setCell ⟨lb, 3, none⟩ v).setCell ⟨lb, 4, none⟩ (.int .i64 (k : Int))) lb fb name s ⟨recs, k, false⟩ v es := by
  have k9 : KbP (fun g => g = lb) w3 ((w3.setCell ⟨lb, 3, none⟩ v).setCell ⟨lb, 4, none⟩ (.int .i64 (k : Int))) := ((KbP.refl (fun g => g = lb) w3).setCell (p := ⟨lb, 3, none⟩) (.inl rfl) _).setCell (p := ⟨lb, 4, none⟩) (.inl rfl) _
  have s9 : ((w3.setCell ⟨lb, 3, none⟩ v).setCell ⟨lb, 4, none⟩ (.int .i64 (k : Int))).heap.size = w3.heap.size := by simp
  have l2 := hbk.lt
  have s2 := h2.size
  have s3 := h3.size
  have bk3 := hbk.below h3 l2
  have h13 := h2.trans (h3.mono s2)
  refine ⟨(bk3.set_ 3 v).set_ 4 _, OwnK.kbP (Lec.Own.mono ho (by omega)) k9 (fun g e hg => ?_), hl.keep k9.size (fun q hq hql => k9.block q hql (fun e => ?_)) (fun _ hq _ => hq), ?_, by omega, fun b hb => .inl (hBK b hb), .inr ⟨by omega, by omega⟩, fun g e => ?_, fun b hb => ?_, fun hb => ?_, fun g e hb => ?_, fun b hb => ?_⟩
  · have := (World.ownsRow.lt ho g e).1
    have hg' : g = lb := hg
    omega
  · have e' : q = lb := e
    have := hq.1
    omega
  · refine One.kbP ?_ k9 (fun q hq => by subst hq; exact .inr ⟨by omega, by omega⟩)
    exact (h.fresh (fun b hb => hb.imp_right (·.1))).below h13
  · have := World.ownsRow.lt ho g e
    exact .inr ⟨by omega, this.2⟩
  · obtain ⟨h1, cs, h4⟩ := hb
    exact .inr ⟨by omega, h4.lt⟩
  · have := hb.1; omega
  · obtain ⟨_, cs, h4⟩ := hb
    exact own_bkK ho h4 (by decide) e
  · rw [s9]
    rcases hb with hb | hb
    · have := hK b hb; omega
    · exact hb.2
theorem size_read {s : St} {name : Bs} (h : (Fsy.size s name).2 = 0) : (Fsy.size s name).1 = ((lgData s name).length : Int) ∧ Fsy.read s name 0 ((lgData s name).length : Int) = (lgData s name, 0) := by
  unfold Fsy.size at h
  by_cases hd : s.died = true
  · rw [if_pos hd] at h
    exact absurd (show (12 : Int) = 0 from h) (by decide)
  · rw [if_neg hd] at h
    cases hn : node s.dir name with
    | none => rw [hn] at h; exact absurd (show (14 : Int) = 0 from h) (by decide)
    | some j =>
      have hs : Fsy.size s name = ((sizeAt s j : Int), 0) := by unfold Fsy.size; rw [if_neg hd, hn]
      have hr : ∀ n : Nat, n = sizeAt s j → Fsy.read s name 0 (n : Int) = ((ndAt s.nodes j).data, 0) := by
        rintro n rfl
        unfold Fsy.read
        rw [if_neg hd, hn]
        show (if _ then _ else _) = _
        rw [if_neg (by omega)]
        simp [sizeAt]
      have hD : lgData s name = (ndAt s.nodes j).data := by unfold lgData; rw [hs, hr _ rfl]
      rw [hs, hD]
      exact ⟨rfl, hr _ rfl⟩
theorem readB_le (L : List UInt8) : (readB L).2 ≤ L.length := by
  have := (readB_cut L _ rfl L.length (Nat.le_refl _)).2
  rwa [List.take_length] at this
set_option maxRecDepth 100000 in
set_option maxHeartbeats 3200000 in
theorem l_Open (w : World) {B fb N : Nat} {K : Nat → Prop} {name : Bs} {s : St} (h : One B K w fb s) (hB : B ≤ w.heap.size) (hK : ∀ b, K b → b < w.heap.size) (hBK : ∀ b, b < B → K b) (hi : Fsy.Inv s N) (hN : N ≤ 1000000) (hp : s.pl.ok) (hn : name.length ≤ 4294967296) (hsz : (lgData s name).length ≤ 1000000) :
    Calls Tryz.prog 14 #[ptrV fb, .string ⟨name.toArray⟩] w (LgMade B K w fb name (lgOpen s name) (lgOf s name)) := by
  have HZ := Lib.hid (o_Size h hi hn)
  by_cases c0 : (Fsy.size s name).2 = 0
  · obtain ⟨hs1, hs2⟩ := size_read c0
    have hop : lgOpen s name = if (lgOf s name).size < (lgData s name).length then if (cutF s name (lgOf s name).size).2 ≠ 0 then cutF s name (lgOf s name).size else sync (cutF s name (lgOf s name).size).1 name else (s, 0) := by
      unfold lgOpen; rw [if_neg (by simpa using c0)]
    rw [hop, show lgOf s name = ⟨(readB (lgData s name)).1, (readB (lgData s name)).2, false⟩ from rfl]
    clear hop
    have HR := Lib.hid (o_Read (k := 0) (n := ((lgData s name).length : Int)) h hi hn (by omega) (by omega) (by omega) (by omega))
    rw [hs2] at HR
    rw [c0, hs1] at HZ
    obtain ⟨D, hD⟩ : ∃ D, D = lgData s name := ⟨_, rfl⟩
    rw [← hD] at HR HZ hsz ⊢
    have HW := Lib.hid (fun (W : World) (A : Option Addr) (c : Nat) (hR : Rd W W.heap.size A D.length (bcs D)) (hc : D.length ≤ c) => c_wReadO W hR (Nat.le_refl _) hc hsz)
    have hkl := readB_le D
    obtain ⟨rb, hrb⟩ : ∃ r, r = readB D := ⟨_, rfl⟩
    rw [← hrb] at HW hkl ⊢
    obtain ⟨recs, k⟩ := rb
    simp only at hkl ⊢
    have i1 := hi.cutF name (k : Int)
    have p1 : (cutF s name (k : Int)).1.pl.ok := by rw [cutF_pl]; exact hp
    have HC := Lib.hid (show ∀ (W : World) (K2 : Nat → Prop), One B K2 W fb s → B ≤ W.heap.size → (∀ b, K2 b → b < W.heap.size) → _ from fun W K2 hO h1 h2 => o_Cut (name := name) (k := (k : Int)) hO h1 h2 hi (by omega) hp hn (by omega) (by omega))
    obtain ⟨r1, hr1⟩ : ∃ r, r = cutF s name (k : Int) := ⟨_, rfl⟩
    rw [← hr1] at i1 p1 HC ⊢
    have HS := Lib.hid (show ∀ (W : World) (K2 : Nat → Prop), One B K2 W fb r1.1 → B ≤ W.heap.size → (∀ b, K2 b → b < W.heap.size) → _ from fun W K2 hO h1 h2 => o_Sync (name := name) hO h1 h2 i1 (by omega) p1 hn)
    obtain ⟨r2, hr2⟩ : ∃ r, r = sync r1.1 name := ⟨_, rfl⟩
    rw [← hr2] at HS ⊢
    have HL := Lib.hid (show ∀ (w1 : World), Below w.heap.size w w1 → _ from fun w1 hb1 (w2 w3 : World) (v : Value) (es : List Value) h2 h2' h3 h4 h5 => LgG.opened (B := B) (K := K) (fb := fb) (lb := w1.heap.size) (k := k) (w1 := w1) (w2 := w2) (w3 := w3) (name := name) (s := s) (recs := recs) (v := v) (es := es) (h.below hb1) (Nat.le_trans hB hb1.size) (fun b hb => Nat.lt_of_lt_of_le (hK b hb) hb1.size) hBK rfl h2 h2' h3 h4 h5)
    have HZ4 := Lib.hid (show ∀ (w1 : World), Below w.heap.size w w1 → ∀ (w2 w3 : World) (v : Value) (es : List Value), Below w1.heap.size w1 w2 → Lec.Own w3 w2.heap.size 22 v es → ∀ b, K b → (K b ∨ (w1.heap.size ≤ b ∧ b < w3.heap.size)) ∧ b ≠ w1.heap.size ∧ v.ownBlock ≠ some b ∧ ¬ (w2.heap.size ≤ b ∧ ∃ cs, Bk w3 b 5 cs) from
      fun w1 hb1 w2 w3 v es h2 ho b hb => by
        have h0 := hK b hb
        have h3 := hb1.size
        have h4 := h2.size
        exact ⟨.inl hb, by omega, fun e => by have := (World.ownsRow.lt ho b e).1; omega, fun e => by have := e.1; omega⟩)
    have HOn := Lib.hid (show ∀ (W : World) (K2 : Nat → Prop), (∀ b, K b → K2 b) → ∀ s', One B K2 W fb s' → One B K W fb s' from fun W K2 hk s' hO => by
      obtain ⟨X, I, h1, h2, h3⟩ := hO
      exact ⟨X, I, h1, h2, fun b hb => h3 b (hk b hb)⟩)
    clear hr1 hr2 hrb hs1 hs2 hD h i1 p1 hi hp
    unfold ReadP ReadPostO ptrV at *
    by_cases ck : k < D.length
    · rw [if_pos ck]
      have ckb : (k : Int) < (D.length : Int) := by omega
      by_cases cu : r1.2 = 0
      · rw [if_neg (by simpa using cu)]
        have cub : (r1.2 == 0) = true := by simpa using cu
        by_cases cv : r2.2 = 0
        · have cvb : (r2.2 == 0) = true := by simpa using cv
          go_enter Tryz.func14, Tryz.ntmps14
          go_wp2_with (first
            | (go_at_call 29; (with_reducible refine HZ.out.mono ?_); rintro e w0 ⟨rfl, hww⟩; obtain rfl := hww.symm)
            | (go_at_call 30; (with_reducible refine HR.out.mono ?_); rintro e w1 ⟨A1, c1, rfl, hr1, hc1, hb1⟩)
            | (go_at_call 20
               have hb2 := (Below.refl w1.heap.size w1).alloc (Nat.le_refl _) (.cells #[.int .i64 1, .pointer (some ⟨fb, 0, none⟩), .string ⟨name.toArray⟩, .slice none 0 0, .int .i64 0, .bool false] 28)
               have hN2 := Bk.new_ w1 28 #[.int .i64 1, .pointer (some ⟨fb, 0, none⟩), .string ⟨name.toArray⟩, .slice none 0 0, .int .i64 0, .bool false]
               (with_reducible refine (HW.out _ A1 c1 (hr1.rd.below hb2 (Nat.le_refl _) |>.more hb2.size) hc1).mono ?_); rintro e w3 ⟨A3, m3, c3, es, rfl, hc3, ho3, hl3, hb3⟩
               have hB3 := hN2.below hb3 hN2.lt
               have q3 := hB3.cell
               have z3 := hB3.frz
               have hG4 := HL.out w1 hb1 _ _ _ _ hb2 hN2 hb3 ho3 hl3
               have b4 := (((hb1.trans (hb2.mono hb1.size)).trans (hb3.mono (Nat.le_trans hb1.size hb2.size))).mono hB |>.setCell (p := ⟨w1.heap.size, 3, none⟩) (Nat.le_trans hB hb1.size) (.slice A3 m3 c3)).setCell (p := ⟨w1.heap.size, 4, none⟩) (Nat.le_trans hB hb1.size) (.int .i64 (k : Int))
               have k4 : KbP (fun b => ¬ K b) w _ := ((KbP.of_below ((hb1.trans (hb2.mono hb1.size)).trans (hb3.mono (Nat.le_trans hb1.size hb2.size))) : KbP (fun b => ¬ K b) w w3).setCell (p := ⟨w1.heap.size, 3, none⟩) (.inr hb1.size) (.slice A3 m3 c3)).setCell (p := ⟨w1.heap.size, 4, none⟩) (.inr hb1.size) (.int .i64 (k : Int))
               have hZ4 := HZ4.out w1 hb1 _ w3 (.slice A3 m3 c3) es hb2 ho3
               have HC4 := Lib.hid (HC.out _ _ hG4.one hG4.B_le hG4.lt)
               have qk := (hB3.set_ 3 (.slice A3 m3 c3)).set_ 4 (.int .i64 (k : Int)) |>.cell)
            | (go_at_call 22; (with_reducible refine HC4.out.mono ?_); rintro e w5 hO5; obtain rfl := hO5.e; have hG5 := hG4.turnP hO5; have b5 := b4.trans hO5.below; have k5 := k4.trans (hO5.kb.more (fun b hb hk => hb (.inl hk))) (fun b h => .inl h); have HS5 := Lib.hid (HS.out _ _ hG5.one hG5.B_le hG5.lt))
            | (go_at_call 24; (with_reducible refine HS5.out.mono ?_); rintro e w6 hO6; obtain rfl := hO6.e; have hG6 := hG5.turnP hO6; have b6 := b5.trans hO6.below; have k6 := k5.trans (hO6.kb.more (fun b hb hk => hb (.inl hk))) (fun b h => .inl h)))
          go_ret2
          exact ⟨.inl ⟨cv, w1.heap.size, rfl, ⟨_, _, _, es, hG6, hZ4⟩⟩, b6, k6⟩
        · have cvb : (r2.2 == 0) = false := by rw [beq_eq_false_iff_ne]; exact cv
          go_enter Tryz.func14, Tryz.ntmps14
          go_wp2_with (first
            | (go_at_call 29; (with_reducible refine HZ.out.mono ?_); rintro e w0 ⟨rfl, hww⟩; obtain rfl := hww.symm)
            | (go_at_call 30; (with_reducible refine HR.out.mono ?_); rintro e w1 ⟨A1, c1, rfl, hr1, hc1, hb1⟩)
            | (go_at_call 20
               have hb2 := (Below.refl w1.heap.size w1).alloc (Nat.le_refl _) (.cells #[.int .i64 1, .pointer (some ⟨fb, 0, none⟩), .string ⟨name.toArray⟩, .slice none 0 0, .int .i64 0, .bool false] 28)
               have hN2 := Bk.new_ w1 28 #[.int .i64 1, .pointer (some ⟨fb, 0, none⟩), .string ⟨name.toArray⟩, .slice none 0 0, .int .i64 0, .bool false]
               (with_reducible refine (HW.out _ A1 c1 (hr1.rd.below hb2 (Nat.le_refl _) |>.more hb2.size) hc1).mono ?_); rintro e w3 ⟨A3, m3, c3, es, rfl, hc3, ho3, hl3, hb3⟩
               have hB3 := hN2.below hb3 hN2.lt
               have q3 := hB3.cell
               have z3 := hB3.frz
               have hG4 := HL.out w1 hb1 _ _ _ _ hb2 hN2 hb3 ho3 hl3
               have b4 := (((hb1.trans (hb2.mono hb1.size)).trans (hb3.mono (Nat.le_trans hb1.size hb2.size))).mono hB |>.setCell (p := ⟨w1.heap.size, 3, none⟩) (Nat.le_trans hB hb1.size) (.slice A3 m3 c3)).setCell (p := ⟨w1.heap.size, 4, none⟩) (Nat.le_trans hB hb1.size) (.int .i64 (k : Int))
               have k4 : KbP (fun b => ¬ K b) w _ := ((KbP.of_below ((hb1.trans (hb2.mono hb1.size)).trans (hb3.mono (Nat.le_trans hb1.size hb2.size))) : KbP (fun b => ¬ K b) w w3).setCell (p := ⟨w1.heap.size, 3, none⟩) (.inr hb1.size) (.slice A3 m3 c3)).setCell (p := ⟨w1.heap.size, 4, none⟩) (.inr hb1.size) (.int .i64 (k : Int))
               have hZ4 := HZ4.out w1 hb1 _ w3 (.slice A3 m3 c3) es hb2 ho3
               have HC4 := Lib.hid (HC.out _ _ hG4.one hG4.B_le hG4.lt)
               have qk := (hB3.set_ 3 (.slice A3 m3 c3)).set_ 4 (.int .i64 (k : Int)) |>.cell)
            | (go_at_call 22; (with_reducible refine HC4.out.mono ?_); rintro e w5 hO5; obtain rfl := hO5.e; have hG5 := hG4.turnP hO5; have b5 := b4.trans hO5.below; have k5 := k4.trans (hO5.kb.more (fun b hb hk => hb (.inl hk))) (fun b h => .inl h); have HS5 := Lib.hid (HS.out _ _ hG5.one hG5.B_le hG5.lt))
            | (go_at_call 24; (with_reducible refine HS5.out.mono ?_); rintro e w6 hO6; obtain rfl := hO6.e; have hG6 := hG5.turnP hO6; have b6 := b5.trans hO6.below; have k6 := k5.trans (hO6.kb.more (fun b hb hk => hb (.inl hk))) (fun b h => .inl h)))
          go_ret2
          exact ⟨.inr ⟨cv, rfl, HOn.out _ _ (fun b h => .inl h) _ hG6.one⟩, b6, k6⟩
      · rw [if_pos cu]
        have cub : (r1.2 == 0) = false := by rw [beq_eq_false_iff_ne]; exact cu
        go_enter Tryz.func14, Tryz.ntmps14
        go_wp2_with (first
          | (go_at_call 29; (with_reducible refine HZ.out.mono ?_); rintro e w0 ⟨rfl, hww⟩; obtain rfl := hww.symm)
          | (go_at_call 30; (with_reducible refine HR.out.mono ?_); rintro e w1 ⟨A1, c1, rfl, hr1, hc1, hb1⟩)
          | (go_at_call 20
             have hb2 := (Below.refl w1.heap.size w1).alloc (Nat.le_refl _) (.cells #[.int .i64 1, .pointer (some ⟨fb, 0, none⟩), .string ⟨name.toArray⟩, .slice none 0 0, .int .i64 0, .bool false] 28)
             have hN2 := Bk.new_ w1 28 #[.int .i64 1, .pointer (some ⟨fb, 0, none⟩), .string ⟨name.toArray⟩, .slice none 0 0, .int .i64 0, .bool false]
             (with_reducible refine (HW.out _ A1 c1 (hr1.rd.below hb2 (Nat.le_refl _) |>.more hb2.size) hc1).mono ?_); rintro e w3 ⟨A3, m3, c3, es, rfl, hc3, ho3, hl3, hb3⟩
             have hB3 := hN2.below hb3 hN2.lt
             have q3 := hB3.cell
             have z3 := hB3.frz
             have hG4 := HL.out w1 hb1 _ _ _ _ hb2 hN2 hb3 ho3 hl3
             have b4 := (((hb1.trans (hb2.mono hb1.size)).trans (hb3.mono (Nat.le_trans hb1.size hb2.size))).mono hB |>.setCell (p := ⟨w1.heap.size, 3, none⟩) (Nat.le_trans hB hb1.size) (.slice A3 m3 c3)).setCell (p := ⟨w1.heap.size, 4, none⟩) (Nat.le_trans hB hb1.size) (.int .i64 (k : Int))
             have k4 : KbP (fun b => ¬ K b) w _ := ((KbP.of_below ((hb1.trans (hb2.mono hb1.size)).trans (hb3.mono (Nat.le_trans hb1.size hb2.size))) : KbP (fun b => ¬ K b) w w3).setCell (p := ⟨w1.heap.size, 3, none⟩) (.inr hb1.size) (.slice A3 m3 c3)).setCell (p := ⟨w1.heap.size, 4, none⟩) (.inr hb1.size) (.int .i64 (k : Int))
             have hZ4 := HZ4.out w1 hb1 _ w3 (.slice A3 m3 c3) es hb2 ho3
             have HC4 := Lib.hid (HC.out _ _ hG4.one hG4.B_le hG4.lt)
             have qk := (hB3.set_ 3 (.slice A3 m3 c3)).set_ 4 (.int .i64 (k : Int)) |>.cell)
          | (go_at_call 22; (with_reducible refine HC4.out.mono ?_); rintro e w5 hO5; obtain rfl := hO5.e; have hG5 := hG4.turnP hO5; have b5 := b4.trans hO5.below; have k5 := k4.trans (hO5.kb.more (fun b hb hk => hb (.inl hk))) (fun b h => .inl h); have HS5 := Lib.hid (HS.out _ _ hG5.one hG5.B_le hG5.lt))
          | (go_at_call 24; (with_reducible refine HS5.out.mono ?_); rintro e w6 hO6; obtain rfl := hO6.e; have hG6 := hG5.turnP hO6; have b6 := b5.trans hO6.below; have k6 := k5.trans (hO6.kb.more (fun b hb hk => hb (.inl hk))) (fun b h => .inl h)))
        go_ret2
        exact ⟨.inr ⟨cu, rfl, HOn.out _ _ (fun b h => .inl h) _ hG5.one⟩, b5, k5⟩
    · rw [if_neg ck]
      have ckb : ¬ (k : Int) < (D.length : Int) := by omega
      go_enter Tryz.func14, Tryz.ntmps14
      go_wp2_with (first
        | (go_at_call 29; (with_reducible refine HZ.out.mono ?_); rintro e w0 ⟨rfl, hww⟩; obtain rfl := hww.symm)
        | (go_at_call 30; (with_reducible refine HR.out.mono ?_); rintro e w1 ⟨A1, c1, rfl, hr1, hc1, hb1⟩)
        | (go_at_call 20
           have hb2 := (Below.refl w1.heap.size w1).alloc (Nat.le_refl _) (.cells #[.int .i64 1, .pointer (some ⟨fb, 0, none⟩), .string ⟨name.toArray⟩, .slice none 0 0, .int .i64 0, .bool false] 28)
           have hN2 := Bk.new_ w1 28 #[.int .i64 1, .pointer (some ⟨fb, 0, none⟩), .string ⟨name.toArray⟩, .slice none 0 0, .int .i64 0, .bool false]
           (with_reducible refine (HW.out _ A1 c1 (hr1.rd.below hb2 (Nat.le_refl _) |>.more hb2.size) hc1).mono ?_); rintro e w3 ⟨A3, m3, c3, es, rfl, hc3, ho3, hl3, hb3⟩
           have hB3 := hN2.below hb3 hN2.lt
           have q3 := hB3.cell
           have z3 := hB3.frz
           have hG4 := HL.out w1 hb1 _ _ _ _ hb2 hN2 hb3 ho3 hl3
           have b4 := (((hb1.trans (hb2.mono hb1.size)).trans (hb3.mono (Nat.le_trans hb1.size hb2.size))).mono hB |>.setCell (p := ⟨w1.heap.size, 3, none⟩) (Nat.le_trans hB hb1.size) (.slice A3 m3 c3)).setCell (p := ⟨w1.heap.size, 4, none⟩) (Nat.le_trans hB hb1.size) (.int .i64 (k : Int))
           have k4 : KbP (fun b => ¬ K b) w _ := ((KbP.of_below ((hb1.trans (hb2.mono hb1.size)).trans (hb3.mono (Nat.le_trans hb1.size hb2.size))) : KbP (fun b => ¬ K b) w w3).setCell (p := ⟨w1.heap.size, 3, none⟩) (.inr hb1.size) (.slice A3 m3 c3)).setCell (p := ⟨w1.heap.size, 4, none⟩) (.inr hb1.size) (.int .i64 (k : Int))
           have hZ4 := HZ4.out w1 hb1 _ w3 (.slice A3 m3 c3) es hb2 ho3
           have HC4 := Lib.hid (HC.out _ _ hG4.one hG4.B_le hG4.lt)
           have qk := (hB3.set_ 3 (.slice A3 m3 c3)).set_ 4 (.int .i64 (k : Int)) |>.cell)
        | (go_at_call 22; (with_reducible refine HC4.out.mono ?_); rintro e w5 hO5; obtain rfl := hO5.e; have hG5 := hG4.turnP hO5; have b5 := b4.trans hO5.below; have k5 := k4.trans (hO5.kb.more (fun b hb hk => hb (.inl hk))) (fun b h => .inl h); have HS5 := Lib.hid (HS.out _ _ hG5.one hG5.B_le hG5.lt))
        | (go_at_call 24; (with_reducible refine HS5.out.mono ?_); rintro e w6 hO6; obtain rfl := hO6.e; have hG6 := hG5.turnP hO6; have b6 := b5.trans hO6.below; have k6 := k5.trans (hO6.kb.more (fun b hb hk => hb (.inl hk))) (fun b h => .inl h)))
      go_ret2
      exact ⟨.inl ⟨rfl, w1.heap.size, rfl, ⟨_, _, _, es, hG4, hZ4⟩⟩, b4, k4⟩
  · have hop : lgOpen s name = (s, (Fsy.size s name).2) := by unfold lgOpen; rw [if_pos c0]
    rw [hop]
    obtain ⟨r, hr⟩ : ∃ r, r = Fsy.size s name := ⟨_, rfl⟩
    rw [← hr] at HZ c0 ⊢
    clear hr
    have c0b : (r.2 == 0) = false := by rw [beq_eq_false_iff_ne]; exact c0
    unfold ptrV at *
    go_enter Tryz.func14, Tryz.ntmps14
    go_wp2_with (first | (go_at_call 29; (with_reducible refine HZ.out.mono ?_); rintro e w1 ⟨rfl, rfl⟩))
    go_ret2
    exact ⟨.inr ⟨c0, rfl, h⟩, Below.refl _ _, KbP.refl _ _⟩
end Go.Proofs.YtgilnjngphhhlaaGreat
