/- Layer 20: Read and Restarts: the walks. -/
import Derived.Test.YtjcifmbbdofjiaaBlC
import Derived.Test.YtjcifmbbdofjiaaPairsC
namespace Go.Lec
open Go.RowKit
theorem kb_gb {S : List Nat} {a w w' : World} {x : Option Nat} (h : Kb S a w) (hg : w.grownBy w' x) (hx : ∀ g, x = some g → a.heap.size ≤ g) : Kb S a w' :=
  ⟨hg.os.trans h.os, hg.tape.trans h.tape, hg.output.trans h.output, Nat.le_trans h.size hg.size, fun k hk hn => (hg.block k (Nat.lt_of_lt_of_le hk h.size) (fun e => by have := hx k e.symm; omega)).trans (h.block k hk hn)⟩
theorem ownK_ge {w : World} {B k m n c : Nat} {e : TypeId} {A : Option Addr} {xs : List Value} (h : OwnK w B e k (.slice A m c) n xs) (a : Addr) (ha : A = some a) : B ≤ a.block := (h.lt a.block (by rw [ha]; rfl)).1
def En.pr (x : En) : List UInt8 × List UInt8 := (x.key, x.val)
def Ex.pr (m : Ex) : Pr := ⟨m.A1, m.n1, m.c1, m.key, m.A2, m.n2, m.c2, m.vl⟩
theorem ckB_err {b : List UInt8} {err : Int} (h : ckB b = .error err) : err = 2 ∨ err = 201 := by
  have hu : ∀ e, unB b = .error e → e = 2 ∨ e = 201 := by
    intro e h
    unfold unB at h
    split at h
    · cases h; exact .inl rfl
    · split at h
      · cases h; exact .inr rfl
      · split at h
        · cases h; exact .inr rfl
        · split at h
          · cases h; exact .inr rfl
          · cases h
  rw [ckB] at h
  cases e : unB b with
  | error e' => rw [e] at h; cases h; exact hu _ e
  | ok p =>
    rw [e] at h
    simp only [] at h
    split at h
    · cases h
    · cases h; exact .inr rfl
end Go.Lec
namespace Go.Proofs.Ytjcifmbbdofjiaa
open Go.RowKit Go.Lec Go.Op
theorem infoPr : (Try.prog.info? 35).map (fun i => (i.zero, i.size, i.bytes)) = some (some (.agg #[.slice none 0 0, .slice none 0 0]), 2, 48) := by kernel_rfl
theorem slp : SlK Try.prog 22 35 (.agg #[.slice none 0 0, .slice none 0 0]) 48 2 := ⟨Try.underlying22, info_parts infoPr, rfl, by decide⟩
/-- What Read's closure does. -/
def R1Post (w0 W : World) (bo : Nat) (b : List UInt8) (e : Ending) (w' : World) : Prop :=
  (∃ (l : List En) (ps : List Nat) (v : Value) (O : List Pr), ckB b = .ok (l, ps) ∧ e = .returned (.tuple #[]) ∧ Bk w' bo 22 #[v] ∧ Gth encPr (W.heap.size ≤ ·) w0 w' 35 O v ∧ O.map Pr.pl = l.map En.pr ∧ (∀ g, v.ownBlock = some g → W.heap.size ≤ g) ∧ Kb [bo] W w') ∨
  (∃ err, ckB b = .error err ∧ e = .panicked [{ v := blFailVal err, recovered := false }] ∧ Kb [bo] W w')

set_option maxRecDepth 40000 in
set_option maxHeartbeats 1600000 in
theorem c_Read1 (w0 W : World) (bb bo : Nat) {B n c : Nat} {A : Option Addr} {b : List UInt8} (hr : Rd W B A n (bcs b)) (hc : n ≤ c) (hB : B ≤ w0.heap.size) (hn : n ≤ 1099511627776) (hb0 : Below w0.heap.size w0 W) (hbo : w0.heap.size ≤ bo)
    (q0 : W.cell? ⟨bb, 0, none⟩ = some (.slice A n c)) (hO : Bk W bo 22 #[.slice none 0 0]) :
    Calls Try.prog 32 #[.pointer (some ⟨bb, 0, none⟩), .pointer (some ⟨bo, 0, none⟩)] W (R1Post w0 W bo b) := by
  have lo := hO.lt
  go_enter Try.func32, Try.ntmps32
  go_wp2_with fail
  refine (c_checked W hr hc (Nat.le_trans hB hb0.size) hn).mono ?_
  rintro e W1 (⟨l, ps, A1, n1, c1, Ap, np, cp, X, hu, rfl, hG, hXn, hXl, _, _, hn1, _, _⟩ | ⟨err, hu, rfl, hb1⟩)
  · have hE := hG.els hXn
    have hz1 := hG.below.size
    have hO1 := hO.below hG.below lo
    have hb01 := hb0.trans (hG.below.mono hb0.size)
    have HXl := Lib.hid (show l.map En.pr = X.map (fun m => m.pr.pl) from by rw [← hXl, List.map_map]; rfl)
    have Hu := Lib.hid hu
    have Hn := Lib.hid hXn
    have hrow : ∀ a, A1 = some a → a.block ∉ [bo] := fun a ha => by
      have := ownK_ge hG.own a ha
      simp; omega
    have hlie : ∀ m ∈ X, encEx.lie (W.heap.size ≤ ·) m := fun m hm => (hG.oks m hm).2.2
    have hk1 : Kb [bo] W W1 := Kb.of_below hG.below
    have hA0 : Gth encPr (W.heap.size ≤ ·) w0 W1 35 [] (.slice none 0 0) := Gth.nil _ _ _ _ hb01
    clear hu hXl hXn hG hO hb0
    go_wp2
    go_loopw [13] (fun i wr => ∃ (k : Nat) (O : List Pr) (v : Value), k ≤ n1 ∧ i = .int .i64 k ∧ Bk wr bo 22 #[v] ∧ Gth encPr (W.heap.size ≤ ·) w0 wr 35 O v ∧ (∀ g, v.ownBlock = some g → W1.heap.size ≤ g) ∧ Kb [bo] W1 wr ∧ Hid (O.map Pr.pl = (l.map En.pr).take k) ∧ O.length = k) (fun i _ => n1 - (intOf i).toNat)
    case atStart => exact ⟨0, [], _, Nat.zero_le _, rfl, hO1, hA0, (fun g e => by cases e), Kb.refl _ _, Lib.hid rfl, rfl⟩
    case round =>
      clear hO1 hA0
      obtain ⟨k, O, v, hk, rfl, hO, hA, hhi, hkb, HO, hOl⟩ := hrel
      obtain ⟨As, cs, rfl, hcs⟩ := hA.own.shape
      by_cases hlt : k < n1
      · obtain ⟨b2, o, m, rfl, hbB, hmk, hmX, hmok, hcell⟩ := hE.atK (Nat.le_refl _) hrow hlt
        have hcw := fun j u h => hcell wr hkb j u h
        have c0 := hcw 0 _ rfl
        have c1' := hcw 1 _ rfl
        have c2 := hcw 2 _ rfl
        have c3 := hcw 3 _ rfl
        have c4 := hcw 4 _ rfl
        rw [show o + k * encEx.k + 0 = o + k * 5 from rfl] at c0
        rw [show encEx.k = 5 from rfl] at c1' c2 c3 c4
        have HP := Bk.new_ wr 74 #[.int .i64 (m.at_ : Int), .slice m.A1 m.n1 m.c1, .slice m.A2 m.n2 m.c2, .int .i64 (m.has : Int), .int .i64 (m.may : Int)]
        have hO3 := hO.alloc (.cells #[.int .i64 (m.at_ : Int), .slice m.A1 m.n1 m.c1, .slice m.A2 m.n2 m.c2, .int .i64 (m.has : Int), .int .i64 (m.may : Int)] 74)
        have hb3 := (Below.refl wr.heap.size wr).alloc (Nat.le_refl _) (.cells #[.int .i64 (m.at_ : Int), .slice m.A1 m.n1 m.c1, .slice m.A2 m.n2 m.c2, .int .i64 (m.has : Int), .int .i64 (m.may : Int)] 74)
        have hA3 := hA.grow hb3
        have hk3 := hkb.alloc (.cells #[.int .i64 (m.at_ : Int), .slice m.A1 m.n1 m.c1, .slice m.A2 m.n2 m.c2, .int .i64 (m.has : Int), .int .i64 (m.may : Int)] 74)
        obtain ⟨e1, e2, e3, e4, e5, e6⟩ := ex_ok hmok
        have hl := hlie m hmX
        have hl1 : 0 < m.n1 → ∀ a, m.A1 = some a → W.heap.size ≤ a.block := fun h0 a ha => hl ⟨m.A1, m.n1, bcs m.key⟩ List.mem_cons_self h0 a ha
        have hl2 : 0 < m.n2 → ∀ a, m.A2 = some a → W.heap.size ≤ a.block := fun h0 a ha => hl ⟨m.A2, m.n2, bcs m.vl⟩ (List.mem_cons_of_mem _ List.mem_cons_self) h0 a ha
        have r1 := (e1.kbR hk3 (Nat.le_refl _) (fun h0 a ha => by have := hl1 h0 a ha; simp; omega)).more hk3.size
        have r2 := (e2.kbR hk3 (Nat.le_refl _) (fun h0 a ha => by have := hl2 h0 a ha; simp; omega)).more hk3.size
        have hpok : encPr.ok (wr.alloc (.cells #[.int .i64 (m.at_ : Int), .slice m.A1 m.n1 m.c1, .slice m.A2 m.n2 m.c2, .int .i64 (m.has : Int), .int .i64 (m.may : Int)] 74)) _ m.pr := encPr_ok (m := m.pr) ⟨r1, r2, e3, e4, (by show m.n1 ≤ _; omega), (by show m.n2 ≤ _; omega)⟩
        have hplt := hmok.lt
        have hp1 : encPr.lie (fun b => some b ≠ (Value.slice As O.length cs).ownBlock) m.pr := fun p hp h0 a ha e => by
          have h1 := hhi _ e.symm
          have h2 := hplt p hp h0 a ha
          omega
        have hp2 : encPr.lie (W.heap.size ≤ ·) m.pr := fun p hp h0 a ha => by
          exact hl p hp h0 a ha
        have HT := Lib.hid (show (O ++ [m.pr]).map Pr.pl = (l.map En.pr).take (k + 1) from by
          have hkl : k < (l.map En.pr).length := by rw [HXl.out, List.length_map, Hn.out]; exact hlt
          rw [List.map_append, HO.out, List.take_succ_eq_append_getElem hkl]
          congr 1
          obtain ⟨hx, ex⟩ := List.getElem?_eq_some_iff.1 hmk
          simp [HXl.out, ex])
        have HMl : Hid (O.length = k) := Lib.hid hOl
        have hpc := HP.cell
        have qO := hO3.cell
        have hRow : some bo ≠ (Value.slice As O.length cs).ownBlock := fun e => by have := hhi _ e.symm; omega
        clear hcell hcw hmk hmX hmok hA hkb hl hl1 hl2 e1 e2 hplt hb3 hOl
        go_upto_region 4 with fail
        obtain ⟨W3, hW3⟩ : ∃ W, W = wr.alloc (.cells #[.int .i64 (m.at_ : Int), .slice m.A1 m.n1 m.c1, .slice m.A2 m.n2 m.c2, .int .i64 (m.has : Int), .int .i64 (m.may : Int)] 74) := ⟨_, rfl⟩
        rw [← hW3] at HP hpc hO3 hA3 hk3 r1 r2 hpok qO ⊢
        obtain ⟨G, hG⟩ : ∃ G, G = wr.heap.size := ⟨_, rfl⟩
        rw [← hG] at HP hpc ⊢
        clear hW3 hG c0 c1' c2 c3 c4
        go_wp2_with (first
          | (at_builtin; (refine wpList_appK_new rfl _ _ rfl slp (by decide) rfl hA3.own hA3.below hA3.below.size rfl (news := m.pr.cs) rfl m.pr.cs_one (by have := HMl.out; omega) ?_); intro v6 w6 ho6 hb6 hg6 hat6 hs6; obtain ⟨A6, c6, rfl, hc6⟩ := ho6.shape; have hO6 := hO3.grownX (x := (Value.slice As O.length cs).ownBlock) hg6 hRow; have qc6 := hO6.cell; have qz6 := hO6.frz))
        replace hat6 : (Value.slice A6 (O.length + 1) c6).ownBlock = (Value.slice As O.length cs).ownBlock ∨ ∃ g, (Value.slice A6 (O.length + 1) c6).ownBlock = some g ∧ W3.heap.size ≤ g := hat6
        replace hg6 : W3.grownBy w6 (Value.slice As O.length cs).ownBlock := hg6
        have hA6 := hA3.snoc hpok hp1 hp2 ho6 hg6 hat6 hb6
        have hz3 := hk3.size
        have hhi6 : ∀ g, (Value.slice A6 (O.length + 1) c6).ownBlock = some g → W1.heap.size ≤ g := fun g e => by
          rcases hat6 with e1 | ⟨g', e1, hg'⟩
          · exact hhi g (by rw [← e1]; exact e)
          · rw [e1] at e; cases e; omega
        have hk6 := (kb_gb hk3 hg6 hhi).setCell (p := ⟨bo, 0, none⟩) (.inl (by simp)) (.slice A6 (O.length + 1) c6)
        have hA7 := hA6.set (p := ⟨bo, 0, none⟩) hbo (fun e => by have := hhi6 _ e; dsimp only at this; omega) (fun b hb e => by dsimp only at e; omega) (.slice A6 (O.length + 1) c6)
        have hO7 := hO6.set_ 0 (.slice A6 (O.length + 1) c6)
        clear hA3 hA6 ho6 hg6 hat6 hb6 hO6 qc6 qz6 hO3 hpok r1 r2 hpc HP
        go_roundw
        case rel => exact ⟨k + 1, O ++ [m.pr], _, by omega, by go_num, hO7, hA7, hhi6, hk6, HT, by have := HMl.out; simp; omega⟩
        case measure => simp [intOf]; omega
      · obtain rfl : k = n1 := by omega
        have hOe := HO.out
        rw [List.take_of_length_le (by rw [HXl.out, List.length_map, Hn.out]; exact Nat.le_refl _)] at hOe
        have HOe := Lib.hid hOe
        clear hOe HO
        go_wp2
        go_end0
        exact .inl ⟨l, ps, _, O, Hu.out, rfl, hO, hA, HOe.out, (fun g e => Nat.le_trans hz1 (hhi g e)), hk1.trans hkb (fun b hb => .inl hb)⟩
  · exact ⟨rfl, .inr ⟨err, hu, rfl, Kb.of_below hb1⟩⟩

/-- What 'guarded' leaves of it. -/
def RG1Post (w0 W : World) (bo : Nat) (b : List UInt8) (e : Ending) (w' : World) : Prop :=
  (∃ (l : List En) (ps : List Nat) (v : Value) (O : List Pr), ckB b = .ok (l, ps) ∧ e = .returned (.int .i64 0) ∧ Bk w' bo 22 #[v] ∧ Gth encPr (W.heap.size ≤ ·) w0 w' 35 O v ∧ O.map Pr.pl = l.map En.pr ∧ Kb [bo] W w') ∨
  (∃ err, ckB b = .error err ∧ e = .returned (.int .i64 err) ∧ Kb [bo] W w')
theorem c_ReadG (w0 W : World) (bb bo : Nat) {B n c : Nat} {A : Option Addr} {b : List UInt8} (hr : Rd W B A n (bcs b)) (hc : n ≤ c) (hB : B ≤ w0.heap.size) (hn : n ≤ 1099511627776) (hb0 : Below w0.heap.size w0 W) (hbo : w0.heap.size ≤ bo)
    (q0 : W.cell? ⟨bb, 0, none⟩ = some (.slice A n c)) (hO : Bk W bo 22 #[.slice none 0 0]) :
    Calls Try.prog 28 #[.func (.func 32) #[] #[.pointer (some ⟨bb, 0, none⟩), .pointer (some ⟨bo, 0, none⟩)]] W (RG1Post w0 W bo b) := by
  have HE := Bk.new_ W 26 #[.int .i64 0]
  have hbE := (Below.refl W.heap.size W).alloc (Nat.le_refl _) (.cells #[.int .i64 0] 26)
  have lb := World.block_lt_of_cell? W _ q0
  have lo := hO.lt
  have hz : (W.alloc (.cells #[.int .i64 0] 26)).heap.size = W.heap.size + 1 := by simp
  have hz0 := hb0.size
  dsimp only at lb
  refine (c_blGuarded W 32 _ (R1Post w0 (W.alloc (.cells #[.int .i64 0] 26)) bo b) ?_ ?_ ?_).mono ?_
  · intro w; simp [go_sem]
  · exact c_Read1 w0 _ bb bo (hr.below hbE (Nat.le_trans hB hz0)) hc hB hn (hb0.trans (hbE.mono hz0)) hbo ((hbE.cell (p := ⟨bb, 0, none⟩) lb).trans q0) (hO.alloc _)
  · rintro e w' (⟨l, ps, v, O, hu, rfl, h1, h2, h3, h4, hk⟩ | ⟨err, hu, rfl, hk⟩)
    · have h := HE.kb hk (by simp; omega)
      exact ⟨.inl rfl, h.cell 0, h.frz 0⟩
    · have h := HE.kb hk (by simp; omega)
      exact ⟨.inr ⟨err, rfl⟩, h.cell 0, h.frz 0⟩
  · rintro e w' ⟨e0, w1, (⟨l, ps, v, O, hu, rfl, h1, h2, h3, h4, hk⟩ | ⟨err, hu, rfl, hk⟩), he⟩
    · rcases he with ⟨_, rfl, rfl⟩ | ⟨err, h, _⟩
      · refine .inl ⟨l, ps, v, O, hu, rfl, h1.far (by dsimp only; omega) _, ?_, h3, ?_⟩
        · exact (h2.set (p := ⟨W.heap.size, 0, none⟩) hz0 (fun e => by have := h4 _ e; rw [hz] at this; dsimp only at this; omega) (fun b hb e => by rw [hz] at hb; dsimp only at e; omega) _).imp (fun b hb => by rw [hz] at hb; omega)
        · exact (((Kb.refl [bo] W).alloc _).trans hk (fun b hb => .inl hb)).setCell (.inr (Nat.le_refl _)) _
      · cases h
    · rcases he with ⟨h, _⟩ | ⟨err', h, rfl, rfl⟩
      · cases h
      · simp [blFailVal] at h
        subst h
        exact .inr ⟨err, hu, rfl, (((Kb.refl [bo] W).alloc _).trans hk (fun b hb => .inl hb)).setCell (.inr (Nat.le_refl _)) _⟩

/-- What Read answers. -/
def ReadPost (w : World) (b : List UInt8) (e : Ending) (w' : World) : Prop :=
  (∃ (l : List En) (ps : List Nat) (A n c : _) (O : List Pr), ckB b = .ok (l, ps) ∧ e = .returned (.tuple #[.slice A n c, .int .i64 0]) ∧ Prs w' w'.heap.size A n O ∧ O.map Pr.pl = l.map En.pr ∧ Below w.heap.size w w') ∨
  (∃ err, ckB b = .error err ∧ e = .returned (.tuple #[.slice none 0 0, .int .i64 err]) ∧ Below w.heap.size w w')
set_option maxRecDepth 40000 in
set_option maxHeartbeats 800000 in
theorem c_BlRead (w : World) {B n c : Nat} {A : Option Addr} {b : List UInt8} (hr : Rd w B A n (bcs b)) (hc : n ≤ c) (hB : B ≤ w.heap.size) (hn : n ≤ 1099511627776) :
    Calls Try.prog 13 #[.slice A n c] w (ReadPost w b) := by
  have hmf : ∀ (fn : Fn) (first cap : Array Value) (w : World), (Instr.makeFunc fn first cap).run Try.prog w = .ok (.func fn first cap) w := fun _ _ _ _ => rfl
  have hb0 := ((Below.refl w.heap.size w).alloc (Nat.le_refl _) (.cells #[.slice A n c] 25)).alloc (by simp) (.cells #[.slice none 0 0] 22)
  have H0 := ((Bk.new_ w 25 #[.slice A n c]).alloc (.cells #[.slice none 0 0] 22)).cell 0
  have H1 := Bk.new_ (w.alloc (.cells #[.slice A n c] 25)) 22 #[.slice none 0 0]
  rw [World.size_alloc] at H1
  have HC := Lib.hid (c_ReadG w _ w.heap.size (w.heap.size + 1) (hr.below hb0 hB) hc hB hn hb0 (by omega) H0 H1)
  clear H0 H1
  go_enter Try.func13, Try.ntmps13
  go_wp2_with fail
  refine HC.out.mono ?_
  rintro e w1 (⟨l, ps, v, O, hu, rfl, h1, h2, h3, hk⟩ | ⟨err, hu, rfl, hk⟩)
  · have hbw : Below w.heap.size w w1 := h2.below
    have q := h1.cell
    obtain ⟨A1, c1, rfl, hc1⟩ := h2.own.shape
    have hP := prs_of_els (h2.els rfl)
    have Hu := Lib.hid hu
    clear hu h1 h2 hk
    go_wp2
    go_ret2
    exact .inl ⟨l, ps, _, _, _, O, Hu.out, rfl, hP, h3, hbw⟩
  · have hne : (err != 0) = true := by have := ckB_err hu; rw [bne_iff_ne]; omega
    have hbw : Below w.heap.size w w1 := hb0.trans ((hk.below (B := w.heap.size) (by intro b hb; simp at hb; omega) (by simp; omega)))
    have Hu := Lib.hid hu
    clear hu hk
    go_wp2
    go_ret2
    exact .inr ⟨err, Hu.out, rfl, hbw⟩
end Go.Proofs.Ytjcifmbbdofjiaa
/- Layer 20: Restarts: the walk. -/
namespace Go.Proofs.Ytjcifmbbdofjiaa
open Go.RowKit Go.Lec Go.Op
/-- What Restarts' closure does. -/
def RsPost (W : World) (bo : Nat) (b : List UInt8) (e : Ending) (w' : World) : Prop :=
  (∃ (l : List En) (ps : List Nat) (v : Value), ckB b = .ok (l, ps) ∧ e = .returned (.tuple #[]) ∧ Bk w' bo 40 #[v] ∧ Lec.Own w' W.heap.size 3 v (ncs ps) ∧ Kb [bo] W w') ∨
  (∃ err, ckB b = .error err ∧ e = .panicked [{ v := blFailVal err, recovered := false }] ∧ Kb [bo] W w')
set_option maxRecDepth 40000 in
set_option maxHeartbeats 800000 in
theorem c_Restarts1 (W : World) (bb bo : Nat) {B n c : Nat} {A : Option Addr} {b : List UInt8} (hr : Rd W B A n (bcs b)) (hc : n ≤ c) (hB : B ≤ W.heap.size) (hn : n ≤ 1099511627776)
    (q0 : W.cell? ⟨bb, 0, none⟩ = some (.slice A n c)) (hO : Bk W bo 40 #[.slice none 0 0]) :
    Calls Try.prog 35 #[.pointer (some ⟨bb, 0, none⟩), .pointer (some ⟨bo, 0, none⟩)] W (RsPost W bo b) := by
  have lo := hO.lt
  go_enter Try.func35, Try.ntmps35
  go_wp2_with fail
  refine (c_checked W hr hc hB hn).mono ?_
  rintro e W1 (⟨l, ps, A1, n1, c1, Ap, np, cp, X, hu, rfl, hG, hXn, hXl, hP, _, hn1, _, _⟩ | ⟨err, hu, rfl, hb1⟩)
  · have hO1 := hO.below hG.below lo
    have qc := hO1.cell
    have qz := hO1.frz
    have hk1 : Kb [bo] W W1 := Kb.of_below hG.below
    have Hu := Lib.hid hu
    clear hu hG hXl hXn
    go_wp2
    go_end0
    exact .inl ⟨l, ps, _, Hu.out, rfl, hO1.set_ 0 _, ownsRow_setCell_below hP (a := ⟨bo, 0, none⟩) (by dsimp only; omega) _, hk1.setCell (.inl (by simp)) _⟩
  · exact ⟨rfl, .inr ⟨err, hu, rfl, Kb.of_below hb1⟩⟩
/-- What 'guarded' leaves of it. -/
def RsGPost (W : World) (bo : Nat) (b : List UInt8) (e : Ending) (w' : World) : Prop :=
  (∃ (l : List En) (ps : List Nat) (v : Value), ckB b = .ok (l, ps) ∧ e = .returned (.int .i64 0) ∧ Bk w' bo 40 #[v] ∧ Lec.Own w' W.heap.size 3 v (ncs ps) ∧ Kb [bo] W w') ∨
  (∃ err, ckB b = .error err ∧ e = .returned (.int .i64 err) ∧ Kb [bo] W w')
theorem c_RestartsG (W : World) (bb bo : Nat) {B n c : Nat} {A : Option Addr} {b : List UInt8} (hr : Rd W B A n (bcs b)) (hc : n ≤ c) (hB : B ≤ W.heap.size) (hn : n ≤ 1099511627776)
    (q0 : W.cell? ⟨bb, 0, none⟩ = some (.slice A n c)) (hO : Bk W bo 40 #[.slice none 0 0]) :
    Calls Try.prog 28 #[.func (.func 35) #[] #[.pointer (some ⟨bb, 0, none⟩), .pointer (some ⟨bo, 0, none⟩)]] W (RsGPost W bo b) := by
  have HE := Bk.new_ W 26 #[.int .i64 0]
  have hbE := (Below.refl W.heap.size W).alloc (Nat.le_refl _) (.cells #[.int .i64 0] 26)
  have lb := World.block_lt_of_cell? W _ q0
  have lo := hO.lt
  have hz : (W.alloc (.cells #[.int .i64 0] 26)).heap.size = W.heap.size + 1 := by simp
  dsimp only at lb
  refine (c_blGuarded W 35 _ (RsPost (W.alloc (.cells #[.int .i64 0] 26)) bo b) ?_ ?_ ?_).mono ?_
  · intro w; simp [go_sem]
  · exact c_Restarts1 _ bb bo (hr.below hbE hB) hc (by omega) hn ((hbE.cell (p := ⟨bb, 0, none⟩) lb).trans q0) (hO.alloc _)
  · rintro e w' (⟨l, ps, v, hu, rfl, h1, h2, hk⟩ | ⟨err, hu, rfl, hk⟩)
    · have h := HE.kb hk (by simp; omega)
      exact ⟨.inl rfl, h.cell 0, h.frz 0⟩
    · have h := HE.kb hk (by simp; omega)
      exact ⟨.inr ⟨err, rfl⟩, h.cell 0, h.frz 0⟩
  · rintro e w' ⟨e0, w1, (⟨l, ps, v, hu, rfl, h1, h2, hk⟩ | ⟨err, hu, rfl, hk⟩), he⟩
    · rcases he with ⟨_, rfl, rfl⟩ | ⟨err, h, _⟩
      · refine .inl ⟨l, ps, v, hu, rfl, h1.far (by dsimp only; omega) _, ?_, ?_⟩
        · exact Lec.Own.mono (ownsRow_setCell_below h2 (a := ⟨W.heap.size, 0, none⟩) (by dsimp only; omega) _) (by omega)
        · exact (((Kb.refl [bo] W).alloc _).trans hk (fun b hb => .inl hb)).setCell (.inr (Nat.le_refl _)) _
      · cases h
    · rcases he with ⟨h, _⟩ | ⟨err', h, rfl, rfl⟩
      · cases h
      · simp [blFailVal] at h
        subst h
        exact .inr ⟨err, hu, rfl, (((Kb.refl [bo] W).alloc _).trans hk (fun b hb => .inl hb)).setCell (.inr (Nat.le_refl _)) _⟩

/-- What Restarts answers. -/
def RestPost (w : World) (b : List UInt8) (e : Ending) (w' : World) : Prop :=
  (∃ (l : List En) (ps : List Nat) (A c : _), ckB b = .ok (l, ps) ∧ e = .returned (.tuple #[.slice A ps.length c, .int .i64 0]) ∧ Rd w' w'.heap.size A ps.length (ncs ps) ∧ Below w.heap.size w w') ∨
  (∃ err, ckB b = .error err ∧ e = .returned (.tuple #[.slice none 0 0, .int .i64 err]) ∧ Below w.heap.size w w')
set_option maxRecDepth 40000 in
set_option maxHeartbeats 800000 in
theorem c_BlRestarts (w : World) {B n c : Nat} {A : Option Addr} {b : List UInt8} (hr : Rd w B A n (bcs b)) (hc : n ≤ c) (hB : B ≤ w.heap.size) (hn : n ≤ 1099511627776) :
    Calls Try.prog 16 #[.slice A n c] w (RestPost w b) := by
  have hmf : ∀ (fn : Fn) (first cap : Array Value) (w : World), (Instr.makeFunc fn first cap).run Try.prog w = .ok (.func fn first cap) w := fun _ _ _ _ => rfl
  have hb0 := ((Below.refl w.heap.size w).alloc (Nat.le_refl _) (.cells #[.slice A n c] 25)).alloc (by simp) (.cells #[.slice none 0 0] 40)
  have H0 := ((Bk.new_ w 25 #[.slice A n c]).alloc (.cells #[.slice none 0 0] 40)).cell 0
  have H1 := Bk.new_ (w.alloc (.cells #[.slice A n c] 25)) 40 #[.slice none 0 0]
  rw [World.size_alloc] at H1
  have HC := Lib.hid (c_RestartsG _ w.heap.size (w.heap.size + 1) (hr.below hb0 hB) hc (Nat.le_trans hB hb0.size) hn H0 H1)
  clear H0 H1
  go_enter Try.func16, Try.ntmps16
  go_wp2_with fail
  refine HC.out.mono ?_
  rintro e w1 (⟨l, ps, v, hu, rfl, h1, h2, hk⟩ | ⟨err, hu, rfl, hk⟩)
  · have hbw : Below w.heap.size w w1 := hb0.trans ((hk.below (B := w.heap.size) (by intro b hb; simp at hb; omega) (by simp; omega)))
    have q := h1.cell
    obtain ⟨A1, c1, rfl, hc1⟩ := h2.shapeN (n := ps.length) (ncs_length ps)
    have hR := Lec.Own.rd h2
    have Hu := Lib.hid hu
    clear hu h1 h2 hk
    go_wp2
    go_ret2
    exact .inl ⟨l, ps, _, _, Hu.out, rfl, hR, hbw⟩
  · have hne : (err != 0) = true := by have := ckB_err hu; rw [bne_iff_ne]; omega
    have hbw : Below w.heap.size w w1 := hb0.trans ((hk.below (B := w.heap.size) (by intro b hb; simp at hb; omega) (by simp; omega)))
    have Hu := Lib.hid hu
    clear hu hk
    go_wp2
    go_ret2
    exact .inr ⟨err, Hu.out, rfl, hbw⟩
end Go.Proofs.Ytjcifmbbdofjiaa
