/- Layer 24: a plan's check; states as they lie in memory. -/
import Derived.Test.YtgpbkebmfbbamaaLvH
namespace Go.Lec
open Go.RowKit
theorem Own.setB {w : World} {B : Nat} {e : TypeId} {v : Value} {xs : List Value} (h : Own w B e v xs) {p : Addr} (hp : p.block < B) (u : Value) : Own (w.setCell p u) B e v xs := ownsRow_setCell_below h hp u
theorem OwnK.setB {w : World} {B k n : Nat} {e : TypeId} {v : Value} {xs : List Value} (h : OwnK w B e k v n xs) {p : Addr} (hp : p.block < B) (u : Value) : OwnK (w.setCell p u) B e k v n xs :=
  h.far (fun e => by have := (h.lt _ e).1; omega) u
theorem Own.setF {w : World} {B : Nat} {e : TypeId} {v : Value} {xs : List Value} (h : Own w B e v xs) {p : Addr} (hp : v.ownBlock ≠ some p.block) (u : Value) : Own (w.setCell p u) B e v xs := ownsRow_setCell_other h hp u
/-- A plan that may be. -/
def okPlan (f b fa fi : Int) : Prop := (1 ≤ f ∧ f ≤ 100) ∧ (1 ≤ b ∧ b ≤ 1073741824) ∧ (2 ≤ fa ∧ fa ≤ 100) ∧ (64 ≤ fi ∧ fi ≤ 16777216)
/-- A store's state: its cells, and the lists that its levels read as. -/
structure St where
  a0 : Int
  a1 : Int
  a2 : Int
  a3 : Int
  a4 : Int
  t : ByteArray
  o : ByteArray
  Ac : Option Addr
  nc : Nat
  cc : Nat
  A : Nat → Option Addr
  n : Nat → Nat
  c : Nat → Nat
  L : Nat → List Mt
/-- Its cells. -/
abbrev St.arr (s : St) : Array Value := #[.int .i64 s.a0, .int .i64 s.a1, .int .i64 s.a2, .int .i64 s.a3, .int .i64 s.a4, .string s.t, .string s.o, .slice s.Ac s.nc s.cc,
  .slice (s.A 0) (s.n 0) (s.c 0), .slice (s.A 1) (s.n 1) (s.c 1), .slice (s.A 2) (s.n 2) (s.c 2), .slice (s.A 3) (s.n 3) (s.c 3), .slice (s.A 4) (s.n 4) (s.c 4), .slice (s.A 5) (s.n 5) (s.c 5), .slice (s.A 6) (s.n 6) (s.c 6)]
def St.ok (w : World) (B : Nat) (s : St) : Prop := ∀ j, j < 7 → Mts w B (s.A j) (s.n j) (s.L j) ∧ s.n j ≤ s.c j ∧ s.n j ≤ 10995116
theorem St.ok.below {w w' : World} {B B' : Nat} {s : St} (h : s.ok w B) (hb : Below B' w w') (hB : B ≤ B') : s.ok w' B := fun j hj => ⟨(h j hj).1.below hb hB, (h j hj).2⟩
theorem minL_pl (cmp : Mt → Mt → Int) (hc : ∀ a b a' b' : Mt, a.pl = a'.pl → b.pl = b'.pl → cmp a b = cmp a' b') : ∀ L L' : List Mt, L.map Mt.pl = L'.map Mt.pl → (minL cmp L).map Mt.pl = (minL cmp L').map Mt.pl := by
  have key : ∀ (L L' : List Mt) (m m' : Mt), L.map Mt.pl = L'.map Mt.pl → m.pl = m'.pl → (L.foldl (fun m y => if cmp y m < 0 then y else m) m).pl = (L'.foldl (fun m y => if cmp y m < 0 then y else m) m').pl := by
    intro L
    induction L with
    | nil =>
      intro L' m m' h hm
      cases L' with
      | nil => exact hm
      | cons _ _ => cases h
    | cons x L ih =>
      intro L' m m' h hm
      cases L' with
      | nil => cases h
      | cons x' L' =>
        rw [List.map_cons, List.map_cons, List.cons.injEq] at h
        rw [List.foldl_cons, List.foldl_cons]
        refine ih L' _ _ h.2 ?_
        rw [hc x m x' m' h.1 hm]
        split
        · exact h.1
        · exact hm
  intro L L' h
  cases L with
  | nil =>
    cases L' with
    | nil => rfl
    | cons _ _ => cases h
  | cons x L =>
    cases L' with
    | nil => cases h
    | cons x' L' =>
      rw [List.map_cons, List.map_cons, List.cons.injEq] at h
      simp only [minL, Option.map_some]
      rw [key L L' x x' h.2 h.1]
theorem pl_first {a b : Mt} (h : a.pl = b.pl) : a.first = b.first := by simp only [Mt.pl, Prod.mk.injEq] at h; exact h.2.2.2.1
theorem pl_last {a b : Mt} (h : a.pl = b.pl) : a.last = b.last := by simp only [Mt.pl, Prod.mk.injEq] at h; exact h.2.2.2.2
theorem pl_num {a b : Mt} (h : a.pl = b.pl) : a.num = b.num := by simp only [Mt.pl, Prod.mk.injEq] at h; exact h.1
theorem endF_pl {L L' : List Mt} (h : L.map Mt.pl = L'.map Mt.pl) : endF L = endF L' := by
  have := minL_pl (fun a b => Lib.compareBytes a.first b.first) (fun a b a' b' h1 h2 => by rw [pl_first h1, pl_first h2]) L L' h
  unfold endF
  cases h1 : minL (fun a b => Lib.compareBytes a.first b.first) L <;> cases h2 : minL (fun a b => Lib.compareBytes a.first b.first) L' <;> rw [h1, h2] at this <;> simp at this ⊢
  exact pl_first this
theorem endL_pl {L L' : List Mt} (h : L.map Mt.pl = L'.map Mt.pl) : endL L = endL L' := by
  have := minL_pl (fun a b => Lib.compareBytes b.last a.last) (fun a b a' b' h1 h2 => by rw [pl_last h1, pl_last h2]) L L' h
  unfold endL
  cases h1 : minL (fun a b => Lib.compareBytes b.last a.last) L <;> cases h2 : minL (fun a b => Lib.compareBytes b.last a.last) L' <;> rw [h1, h2] at this <;> simp at this ⊢
  exact pl_last this
theorem nums_pl {L L' : List Mt} (h : L.map Mt.pl = L'.map Mt.pl) : L.map Mt.num = L'.map Mt.num := by
  have h' := congrArg (List.map Prod.fst) h
  simpa only [List.map_map, Function.comp_def, Mt.pl] using h'
end Go.Lec
namespace Go.Proofs.Ytgpbkebmfbbamaa
open Go.RowKit Go.Lec

theorem c_within (w : World) (x lo hi : Int) (h1 : lo ≤ x) (h2 : x ≤ hi) : Calls Try.prog 43 #[.int .i64 x, .int .i64 lo, .int .i64 hi] w fun e w' => e = .returned (.bool true) ∧ w' = w := by
  go_enter Try.func43, Try.ntmps43
  go_wp2
  go_ret
  exact ⟨rfl, rfl⟩

set_option maxHeartbeats 800000 in
theorem c_Check (w : World) {f b fa fi : Int} (h : okPlan f b fa fi) : Calls Try.prog 26 #[.agg #[.int .i64 f, .int .i64 b, .int .i64 fa, .int .i64 fi]] w fun e w' => e = .returned (.int .i64 0) ∧ Below w.heap.size w w' := by
  obtain ⟨⟨h1, h2⟩, ⟨h3, h4⟩, ⟨h5, h6⟩, ⟨h7, h8⟩⟩ := h
  have hk := (Bk.new_ w 28 #[.int .i64 f, .int .i64 b, .int .i64 fa, .int .i64 fi]).cell
  have k1 := fun W => c_within W f 1 100 h1 h2
  have k2 := fun W => c_within W b 1 1073741824 h3 h4
  have k3 := fun W => c_within W fa 2 100 h5 h6
  have k4 := fun W => c_within W fi 64 16777216 h7 h8
  clear h1 h2 h3 h4 h5 h6 h7 h8
  go_enter Try.func26, Try.ntmps26
  go_wp2_with fail
  refine (k1 _).mono ?_
  rintro e w' ⟨rfl, rfl⟩
  go_wp2_with fail
  refine (k2 _).mono ?_
  rintro e w' ⟨rfl, rfl⟩
  go_wp2_with fail
  refine (k3 _).mono ?_
  rintro e w' ⟨rfl, rfl⟩
  go_wp2_with fail
  refine (k4 _).mono ?_
  rintro e w' ⟨rfl, rfl⟩
  go_wp2
  go_ret
  exact ⟨rfl, (Below.refl _ _).alloc (Nat.le_refl _) _⟩

/-- What of the choice hangs on the levels: the files of the next level that meet those picked. -/
def lowOf (s : St) (lv : Nat) (Lu : List Mt) : List Mt := (s.L (lv + 1)).filter (meets (endF Lu) (endL Lu))
/-- Whether nothing lies below. -/
def bottomOf (s : St) (lv : Nat) (Lu : List Mt) : Bool := (List.range (5 - lv)).all fun j => ((s.L (lv + 2 + j)).filter (meets (endF (Lu ++ lowOf s lv Lu)) (endL (Lu ++ lowOf s lv Lu)))).isEmpty

/-- What Choose answers, a level having been chosen. -/
def ChosenPost (w : World) (s : St) (lv : Nat) (Lu : List Mt) (e : Ending) (w' : World) : Prop :=
  ∃ U Lo F La : Value, e = .returned (.tuple #[.agg #[.int .i64 lv, U, Lo, F, La, .bool (bottomOf s lv Lu)], .bool true, .int .i64 0]) ∧
    Own w' w.heap.size 3 U (ics (Lu.map Mt.num)) ∧ Own w' w.heap.size 3 Lo (ics ((lowOf s lv Lu).map Mt.num)) ∧ Own w' w.heap.size 5 F (bcs (endF Lu)) ∧ Own w' w.heap.size 5 La (bcs (endL Lu)) ∧ Below w.heap.size w w'

/-- The levels that are left, as a slice of the array. -/
theorem run_levels (lv x : Nat) (hlv : lv ≤ 5) (W : World) : (Instr.sliceAt 24 (.pointer (some ⟨x, 8, none⟩)) (some (.int .i64 ((lv : Int) + 2))) none none).run Try.prog W = .ok (.slice (some ⟨x, if (7 : Nat) = lv + 2 then 8 else 8 + (lv + 2), none⟩) (5 - lv) (5 - lv)) W := by
  match lv, hlv with
  | 0, _ => simp [Instr.sliceAt, Instr.sureAddr, run_underlying Try.underlying24, Instr.sliceBounds, Instr.sliceBound, asIntOf, go_sem]
  | 1, _ => simp [Instr.sliceAt, Instr.sureAddr, run_underlying Try.underlying24, Instr.sliceBounds, Instr.sliceBound, asIntOf, go_sem]
  | 2, _ => simp [Instr.sliceAt, Instr.sureAddr, run_underlying Try.underlying24, Instr.sliceBounds, Instr.sliceBound, asIntOf, go_sem]
  | 3, _ => simp [Instr.sliceAt, Instr.sureAddr, run_underlying Try.underlying24, Instr.sliceBounds, Instr.sliceBound, asIntOf, go_sem]
  | 4, _ => simp [Instr.sliceAt, Instr.sureAddr, run_underlying Try.underlying24, Instr.sliceBounds, Instr.sliceBound, asIntOf, go_sem]
  | 5, _ => simp [Instr.sliceAt, Instr.sureAddr, run_underlying Try.underlying24, Instr.sliceBounds, Instr.sliceBound, asIntOf, go_sem]
/-- Whether nothing meets a range in the first so many lists behind a place. -/
def noneMeet (s : St) (d1 d2 : List UInt8) (at_ k : Nat) : Bool := (List.range k).all fun j => ((s.L (at_ + j)).filter (meets d1 d2)).isEmpty
theorem noneMeet_succ (s : St) (d1 d2 : List UInt8) (at_ k : Nat) : noneMeet s d1 d2 at_ (k + 1) = (noneMeet s d1 d2 at_ k && ((s.L (at_ + k)).filter (meets d1 d2)).isEmpty) := by
  simp [noneMeet, List.range_succ]

set_option maxHeartbeats 3200000 in
theorem c_Choose (w : World) {B : Nat} {s : St} (hs : s.ok w B) (hB : B ≤ w.heap.size) {f b fa fi : Int} (hp : okPlan f b fa fi) (lv : Nat) (hlv : lv ≤ 5) (Lu : List Mt) (hl0 : 0 < Lu.length)
    (hup : ∀ W, Below w.heap.size w W → Calls Try.prog 27 #[.agg s.arr, .agg #[.int .i64 f, .int .i64 b, .int .i64 fa, .int .i64 fi]] W fun e W' => ∃ A c, e = .returned (.tuple #[.int .i64 lv, .slice A Lu.length c]) ∧ Mts W' W'.heap.size A Lu.length Lu ∧ Lu.length ≤ 10995116 ∧ Below W.heap.size W W') :
    Calls Try.prog 10 #[.agg s.arr, .agg #[.int .i64 f, .int .i64 b, .int .i64 fa, .int .i64 fi]] w (ChosenPost w s lv Lu) := by
  have HS0 := ((Bk.new_ w 26 s.arr).alloc (.cells #[.int .i64 f, .int .i64 b, .int .i64 fa, .int .i64 fi] 28)).alloc (.cells #[.int .i64 0, .slice none 0 0, .slice none 0 0, .slice none 0 0, .slice none 0 0, .bool false] 34)
  have HP0 := (Bk.new_ (w.alloc (.cells s.arr 26)) 28 #[.int .i64 f, .int .i64 b, .int .i64 fa, .int .i64 fi]).alloc (.cells #[.int .i64 0, .slice none 0 0, .slice none 0 0, .slice none 0 0, .slice none 0 0, .bool false] 34)
  have HR0 := (Bk.new_ ((w.alloc (.cells s.arr 26)).alloc (.cells #[.int .i64 f, .int .i64 b, .int .i64 fa, .int .i64 fi] 28)) 34 #[.int .i64 0, .slice none 0 0, .slice none 0 0, .slice none 0 0, .slice none 0 0, .bool false])
  rw [World.size_alloc] at HP0
  rw [World.size_alloc, World.size_alloc] at HR0
  obtain ⟨W0, hW0⟩ : ∃ W, W = (((w.alloc (.cells s.arr 26)).alloc (.cells #[.int .i64 f, .int .i64 b, .int .i64 fa, .int .i64 fi] 28)).alloc (.cells #[.int .i64 0, .slice none 0 0, .slice none 0 0, .slice none 0 0, .slice none 0 0, .bool false] 34)) := ⟨_, rfl⟩
  have hb0 : Below w.heap.size w W0 := hW0 ▸ (((Below.refl _ _).alloc (Nat.le_refl _) _).alloc (by simp) _).alloc (by simp; omega) _
  have hz0 : W0.heap.size = w.heap.size + 3 := by rw [hW0]; simp
  rw [← hW0] at HS0 HP0 HR0
  have HW0 := Lib.hid hW0
  clear hW0
  have hs0 := hs.below hb0 hB
  have q0 := HS0.cell
  have q1 := HP0.cell
  obtain ⟨nu, hnu⟩ : ∃ n, n = Lu.length := ⟨_, rfl⟩
  rw [← hnu] at hup hl0
  have Hnu := Lib.hid hnu
  clear hnu
  go_enter Try.func10, Try.ntmps10
  go_wp2_with fail
  rw [← HW0.out]
  refine (c_Check W0 hp).mono ?_
  rintro e w1 ⟨rfl, hb⟩
  have hb1 := hb0.trans (hb.mono (by omega))
  have HS1 := HS0.below hb (by omega)
  have HP1 := HP0.below hb (by omega)
  have HR1 := HR0.below hb (by omega)
  have hz1 : w.heap.size + 3 ≤ w1.heap.size := by have := hb.size; omega
  clear hb HS0 HP0 HR0 hb0 hz0 HW0 q0 q1 hs0
  have q0 := HS1.cell
  have q1 := HP1.cell
  go_wp2_with fail
  refine (hup w1 hb1).mono ?_
  rintro e w2 ⟨Au, cu, rfl, hmu, hlu, hb⟩
  have hb2 := hb1.trans (hb.mono (by omega))
  have HS2 := HS1.below hb (by omega)
  have HR2 := HR1.below hb (by omega)
  have hz2 : w.heap.size + 3 ≤ w2.heap.size := by have := hb.size; omega
  have hnz : ((nu : Int) == 0) = false := by simp; omega
  clear hb HS1 HP1 HR1 hb1 hz1 q0 q1 hup
  go_wp2_with fail
  refine (c_numbers w2 hmu (Nat.le_refl _) (by omega)).mono ?_
  rintro e w3 ⟨vU, rfl, hU, hb⟩
  obtain ⟨AU, cU, rfl, hcU⟩ := hU.shapeN (n := nu) (by simp [ics, Hnu.out])
  have hb3 := hb2.trans (hb.mono (by omega))
  have HS3 := HS2.below hb (by omega)
  have HR3 := HR2.below hb (by omega)
  have hmu3 := (hmu.below hb (Nat.le_refl _)).more hb.size
  have hU3 := hU.mono (B' := w.heap.size + 3) (by omega)
  have hz3 : w.heap.size + 3 ≤ w3.heap.size := by have := hb.size; omega
  clear hb HS2 HR2 hb2 hz2 hmu hU
  obtain ⟨g, hg⟩ : ∃ g, g = w3.heap.size := ⟨_, rfl⟩
  have HX3 := Bk.new_ w3 34 #[.int .i64 lv, .slice AU nu cU, .slice none 0 0, .slice none 0 0, .slice none 0 0, .bool true]
  obtain ⟨w4, hw4⟩ : ∃ W, W = w3.alloc (.cells #[.int .i64 lv, .slice AU nu cU, .slice none 0 0, .slice none 0 0, .slice none 0 0, .bool true] 34) := ⟨_, rfl⟩
  have hb4 : Below w.heap.size w w4 := hw4 ▸ hb3.alloc (by omega) _
  have hmu4 : Mts w4 g Au nu Lu := by rw [hw4, hg]; exact hmu3.alloc (Nat.le_refl _) _
  have hU4 : Own w4 (w.heap.size + 3) 3 (.slice AU nu cU) (ics (Lu.map Mt.num)) := by rw [hw4]; exact hU3.alloc _
  have hUg : ∀ a, AU = some a → a.block < g := by
    intro a ha
    have := (World.ownsRow.lt hU3 a.block (by rw [ha]; rfl)).2
    omega
  have HS4 : Bk w4 w.heap.size 26 s.arr := by rw [hw4]; exact HS3.alloc _
  have HR4 : Bk w4 (w.heap.size + 1 + 1) 34 #[.int .i64 0, .slice none 0 0, .slice none 0 0, .slice none 0 0, .slice none 0 0, .bool false] := by rw [hw4]; exact HR3.alloc _
  rw [← hw4, ← hg] at HX3
  have hz4 : w4.heap.size = g + 1 := by rw [hw4, hg]; simp
  have hg3 : w.heap.size + 3 ≤ g := by omega
  have HW4 := Lib.hid hw4
  have HG := Lib.hid hg
  clear hw4 hg HS3 HR3 hb3 hmu3 hU3 hz3
  go_wp2_with fail
  rw [← HW4.out, ← HG.out]
  refine (c_ends w4 hmu4 (by omega) (by omega) hl0).mono ?_
  rintro e w5 ⟨AF, cF, AL, cL, rfl, hcF, hcL, hF, hLa, hb⟩
  have hb5 := hb4.trans (hb.mono (by omega))
  have HX5 := HX3.below hb (by omega)
  have HS5 := HS4.below hb (by omega)
  have HR5 := HR4.below hb (by omega)
  have hU5 := hU4.below hb (Nat.le_refl _)
  have hmu5 := (hmu4.below hb (by omega))
  have hz5 : g + 1 ≤ w5.heap.size := by have := hb.size; omega
  have hF5 := hF.mono (B' := g + 1) (by omega)
  have hLa5 := hLa.mono (B' := g + 1) (by omega)
  obtain ⟨E1, hE1⟩ : ∃ E, E = endF Lu := ⟨_, rfl⟩
  obtain ⟨E2, hE2⟩ : ∃ E, E = endL Lu := ⟨_, rfl⟩
  rw [← hE1] at hF5 hcF
  rw [← hE2] at hLa5 hcL
  rw [← hE1, ← hE2]
  have HE1 := Lib.hid hE1
  have HE2 := Lib.hid hE2
  clear hE1 hE2 hb HX3 HS4 HR4 hU4 hmu4 hz4 hb4 hF hLa HW4 HG
  have qx := HX5.cell
  have qz := HX5.frz
  have qs := HS5.cell
  go_wp2
  have hpx : ∀ h, (Value.slice AU nu cU).ownBlock ≠ some (⟨g, h, none⟩ : Addr).block := fun h e => by
    cases AU with
    | none => cases e
    | some a => injection e with e; have := hUg a rfl; dsimp only at e; omega
  have HX6 := (HX5.set_ 3 (.slice AF E1.length cF)).set_ 4 (.slice AL E2.length cL)
  have HS6 := (HS5.far (p := ⟨g, 3, none⟩) (by dsimp only; omega) (.slice AF E1.length cF)).far (p := ⟨g, 4, none⟩) (by dsimp only; omega) (.slice AL E2.length cL)
  have HR6 := (HR5.far (p := ⟨g, 3, none⟩) (by dsimp only; omega) (.slice AF E1.length cF)).far (p := ⟨g, 4, none⟩) (by dsimp only; omega) (.slice AL E2.length cL)
  have hU6 := (hU5.setF (hpx 3) (.slice AF E1.length cF)).setF (hpx 4) (.slice AL E2.length cL)
  have hF6 := (hF5.setB (p := ⟨g, 3, none⟩) (Nat.lt_succ_self g) (.slice AF E1.length cF)).setB (p := ⟨g, 4, none⟩) (Nat.lt_succ_self g) (.slice AL E2.length cL)
  have hLa6 := (hLa5.setB (p := ⟨g, 3, none⟩) (Nat.lt_succ_self g) (.slice AF E1.length cF)).setB (p := ⟨g, 4, none⟩) (Nat.lt_succ_self g) (.slice AL E2.length cL)
  have hb6 := (hb5.setCell (p := ⟨g, 3, none⟩) (by dsimp only; omega) (.slice AF E1.length cF)).setCell (p := ⟨g, 4, none⟩) (by dsimp only; omega) (.slice AL E2.length cL)
  have hmu6 := hmu5.below (((Below.refl g w5).setCell (p := ⟨g, 3, none⟩) (Nat.le_refl _) (.slice AF E1.length cF)).setCell (p := ⟨g, 4, none⟩) (Nat.le_refl _) (.slice AL E2.length cL)) (Nat.le_refl _)
  obtain ⟨w6, hw6⟩ : ∃ W, W = (w5.setCell ⟨g, 3, none⟩ (.slice AF E1.length cF)).setCell ⟨g, 4, none⟩ (.slice AL E2.length cL) := ⟨_, rfl⟩
  have hz6 : w6.heap.size = w5.heap.size := by rw [hw6]; simp
  rw [← hw6] at HX6 HS6 HR6 hU6 hF6 hLa6 hb6 hmu6 ⊢
  simp only [List.setIfInBounds_toArray, List.set_cons_zero, List.set_cons_succ] at HX6
  clear hw6 HX5 HS5 HR5 hU5 hF5 hLa5 hb5 hmu5 qx qz qs
  rw [← hz6] at hz5
  clear hz6
  have qx := HX6.cell
  have qs := HS6.cell
  have c8 : w6.cell? ⟨w.heap.size, 8 + (lv + 1), none⟩ = some (.slice (s.A (lv + 1)) (s.n (lv + 1)) (s.c (lv + 1))) := by
    rw [qs]
    match lv, hlv with
    | 0, _ => rfl
    | 1, _ => rfl
    | 2, _ => rfl
    | 3, _ => rfl
    | 4, _ => rfl
    | 5, _ => rfl
  have s1 : IntKind.i64.wrap ((lv : Int) + 1) = (lv : Int) + 1 := IntWalk.i64_in _ (by omega)
  have i1 : (lv : Int) + 1 < 7 := by omega
  have i2 : (0 : Int) ≤ (lv : Int) + 1 := by omega
  obtain ⟨hlm, hlc, hln⟩ := (hs.below hb6 hB) (lv + 1) (by omega)
  have hB6 : B ≤ w6.drew.heap.size := by show B ≤ w6.heap.size; omega
  have HCall := Lib.hid (c_Overlap w6.drew (c := s.c (lv + 1)) (c1 := cF) (c2 := cL) hlm.drew hB6 (by omega) hF6.drew.rd hLa6.drew.rd (Nat.le_refl _) (Nat.le_refl _))
  have HC := Lib.hid (fun (wc : World) (hbc : Below w6.heap.size w6 wc) => (⟨(hbc.cell (p := ⟨w.heap.size, 8 + (lv + 1), none⟩) HS6.lt).trans c8, (hbc.cell (p := ⟨g, 3, none⟩) HX6.lt).trans (qx 3), (hbc.cell (p := ⟨g, 4, none⟩) HX6.lt).trans (qx 4)⟩ :
    wc.cell? ⟨w.heap.size, 8 + (lv + 1), none⟩ = some (.slice (s.A (lv + 1)) (s.n (lv + 1)) (s.c (lv + 1))) ∧ wc.cell? ⟨g, 3, none⟩ = some (.slice AF E1.length cF) ∧ wc.cell? ⟨g, 4, none⟩ = some (.slice AL E2.length cL)))
  go_region_held3 (fun W => W.cell? ⟨w.heap.size, 8 + (lv + 1), none⟩ = some (.slice (s.A (lv + 1)) (s.n (lv + 1)) (s.c (lv + 1))) ∧ W.cell? ⟨g, 3, none⟩ = some (.slice AF E1.length cF) ∧ W.cell? ⟨g, 4, none⟩ = some (.slice AL E2.length cL))
    (first | (exact HC.out _ (Below.refl _ _)) | (exact HC.out _ (Below.refl _ _).drew) | (exact HC.out _ ((Below.refl _ _).drew.trans hb)))
    (first | (refine HCall.out.mono ?_; rintro e w7 ⟨Al, nl, cl, Ll, rfl, hcl, hol, hml, hpl, hhl, hb⟩))
  have hb' : Below w6.heap.size w6 w7 := (Below.refl _ _).drew.trans hb
  have hb7 := hb6.trans (hb'.mono (by omega))
  have HX7 := HX6.below hb' HX6.lt
  have HS7 := HS6.below hb' HS6.lt
  have HR7 := HR6.below hb' HR6.lt
  have hU7 := hU6.below hb' (Nat.le_refl _)
  have hF7 := hF6.below hb' (Nat.le_refl _)
  have hLa7 := hLa6.below hb' (Nat.le_refl _)
  have hmu7 := hmu6.below hb' (by omega)
  have hz7 : g + 1 ≤ w7.heap.size := by have := hb'.size; omega
  have hnl : nl ≤ 10995116 := by
    have h1 := hml.len
    have h2 := congrArg List.length hpl
    simp only [List.length_map] at h2
    have h3 := List.length_filter_le (meets E1 E2) (s.L (lv + 1))
    have h4 := hlm.len
    omega
  have Hpl := Lib.hid hpl
  clear hb hb' hb6 HX6 HS6 HR6 hU6 hF6 hLa6 hmu6 hpl qx qs c8 s1 i1 i2 hB6 HCall HC hlm hlc hln hcl
  go_wp2_with fail
  refine (c_numbers w7 hml (Nat.le_refl _) (by omega)).mono ?_
  rintro e w8 ⟨vL, rfl, hLo, hb⟩
  obtain ⟨ALo, cLo, rfl, _⟩ := hLo.shapeN (n := nl) (by simp [ics, hml.len])
  have hb8 := hb7.trans (hb.mono (by omega))
  have HX8 := HX7.below hb HX7.lt
  have HS8 := HS7.below hb HS7.lt
  have HR8 := HR7.below hb HR7.lt
  have hU8 := hU7.below hb (Nat.le_refl _)
  have hF8 := hF7.below hb (Nat.le_refl _)
  have hLa8 := hLa7.below hb (Nat.le_refl _)
  have hmu8 := hmu7.below hb (by omega)
  have hml8 := (hml.below hb (Nat.le_refl _)).more hb.size
  have hz8 : g + 1 ≤ w8.heap.size := by have := hb.size; omega
  have hb0' := hb
  clear hb hb7 HX7 HS7 HR7 hU7 hF7 hLa7 hmu7 hml
  have hol8 := hol.below hb0' (Nat.le_refl _)
  have hgb : g < w6.drew.heap.size := by show g < w6.heap.size; omega
  have qx := HX8.cell
  have qz := HX8.frz
  have HX9 := (HX8.set_ 2 (.slice ALo nl cLo)).alloc (.cells #[.slice Au nu cu, .slice Al nl cl] 23)
  have HS9 := (HS8.far (p := ⟨g, 2, none⟩) (by dsimp only; omega) (.slice ALo nl cLo)).alloc (.cells #[.slice Au nu cu, .slice Al nl cl] 23)
  have HR9 := (HR8.far (p := ⟨g, 2, none⟩) (by dsimp only; omega) (.slice ALo nl cLo)).alloc (.cells #[.slice Au nu cu, .slice Al nl cl] 23)
  have hU9 := (hU8.setF (p := ⟨g, 2, none⟩) (hpx 2) (.slice ALo nl cLo)).alloc (.cells #[.slice Au nu cu, .slice Al nl cl] 23)
  have hF9 := (hF8.setB (p := ⟨g, 2, none⟩) (Nat.lt_succ_self g) (.slice ALo nl cLo)).alloc (.cells #[.slice Au nu cu, .slice Al nl cl] 23)
  have hLa9 := (hLa8.setB (p := ⟨g, 2, none⟩) (Nat.lt_succ_self g) (.slice ALo nl cLo)).alloc (.cells #[.slice Au nu cu, .slice Al nl cl] 23)
  have hLo9 := (hLo.setB (p := ⟨g, 2, none⟩) (by dsimp only; omega) (.slice ALo nl cLo)).alloc (.cells #[.slice Au nu cu, .slice Al nl cl] 23)
  have hbz : Below g w8 ((w8.setCell ⟨g, 2, none⟩ (.slice ALo nl cLo)).alloc (.cells #[.slice Au nu cu, .slice Al nl cl] 23)) := ((Below.refl g w8).setCell (p := ⟨g, 2, none⟩) (Nat.le_refl _) _).alloc (by simp; omega) _
  have hb9 := hb8.trans (hbz.mono (by omega))
  have hmu9 := hmu8.below hbz (Nat.le_refl _)
  have hol9 := ((hol8.setB (p := ⟨g, 2, none⟩) hgb (.slice ALo nl cLo)).alloc (.cells #[.slice Au nu cu, .slice Al nl cl] 23)).rd
  have hok9 : ∀ m ∈ Ll, m.ok ((w8.setCell ⟨g, 2, none⟩ (.slice ALo nl cLo)).alloc (.cells #[.slice Au nu cu, .slice Al nl cl] 23)) w8.heap.size := fun m hm => ((hml8.2 m hm).setLow (hhl m hm) (p := ⟨g, 2, none⟩) hgb _).alloc (by simp) _
  have HC9 := Bk.new_ (w8.setCell ⟨g, 2, none⟩ (.slice ALo nl cLo)) 23 #[.slice Au nu cu, .slice Al nl cl]
  rw [World.size_setCell] at HC9
  obtain ⟨w9, hw9⟩ : ∃ W, W = ((w8.setCell ⟨g, 2, none⟩ (.slice ALo nl cLo)).alloc (.cells #[.slice Au nu cu, .slice Al nl cl] 23)) := ⟨_, rfl⟩
  have hz9 : w9.heap.size = w8.heap.size + 1 := by rw [hw9]; simp
  rw [← hw9] at HX9 HS9 HR9 hU9 hF9 hLa9 hLo9 hb9 hmu9 hol9 hok9 HC9
  simp only [List.setIfInBounds_toArray, List.set_cons_zero, List.set_cons_succ] at HX9
  have HCat := Lib.hid (c_Concat2 w9 HC9 (hmu9.1.more (show g ≤ w9.heap.size by omega)) hol9 (Nat.le_refl _) (by omega) (by omega) (fun u hu => by obtain ⟨m, _, h⟩ := List.mem_flatMap.1 hu; exact m.cs_one u h) (fun u hu => by obtain ⟨m, _, h⟩ := List.mem_flatMap.1 hu; exact m.cs_one u h))
  have HW9 := Lib.hid hw9
  clear hw9 hol8 hgb HX8 HS8 HR8 hU8 hF8 hLa8 hLo hbz hb8 hmu8 hml8 hhl hol hol9
  go_wp2_with fail
  rw [← HW9.out]
  refine HCat.out.mono ?_
  rintro e w10 ⟨Ac, cc, rfl, _, hcat, hb⟩
  clear HCat HW9
  have hb10 := hb9.trans (hb.mono (by omega))
  have HX10 := HX9.below hb HX9.lt
  have HS10 := HS9.below hb HS9.lt
  have HR10 := HR9.below hb HR9.lt
  have hU10 := hU9.below hb (Nat.le_refl _)
  have hF10 := hF9.below hb (Nat.le_refl _)
  have hLa10 := hLa9.below hb (Nat.le_refl _)
  have hLo10 := hLo9.below hb (Nat.le_refl _)
  have hz10 : g + 1 ≤ w10.heap.size := by have := hb.size; omega
  have hcm : Mts w10 w10.heap.size Ac (nu + nl) (Lu ++ Ll) := by
    refine ⟨by rw [List.flatMap_append]; exact hcat.rd, fun m hm => ?_⟩
    rcases List.mem_append.1 hm with hm | hm
    · exact ((hmu9.2 m hm).below hb (by omega)).more (by omega)
    · exact ((hok9 m hm).below hb (by omega)).more (by have := hb.size; omega)
  clear hb hb9 HX9 HS9 HR9 hU9 hF9 hLa9 hLo9 hmu9 hok9 HC9 hcat
  have HEnd := Lib.hid (c_ends w10 (c := cc) hcm (Nat.le_refl _) (by omega) (by omega))
  go_wp2_with fail
  refine HEnd.out.mono ?_
  rintro e w11 ⟨A2F, c2F, A2L, c2L, rfl, _, _, h2F, h2L, hb⟩
  obtain ⟨D1, hD1⟩ : ∃ E, E = endF (Lu ++ Ll) := ⟨_, rfl⟩
  obtain ⟨D2, hD2⟩ : ∃ E, E = endL (Lu ++ Ll) := ⟨_, rfl⟩
  rw [← hD1] at h2F
  rw [← hD2] at h2L
  rw [← hD1, ← hD2]
  have HD1 := Lib.hid hD1
  have HD2 := Lib.hid hD2
  have hb11 := hb10.trans (hb.mono (by omega))
  have HX11 := HX10.below hb HX10.lt
  have HS11 := HS10.below hb HS10.lt
  have HR11 := HR10.below hb HR10.lt
  have hU11 := hU10.below hb (Nat.le_refl _)
  have hF11 := hF10.below hb (Nat.le_refl _)
  have hLa11 := hLa10.below hb (Nat.le_refl _)
  have hLo11 := hLo10.below hb (Nat.le_refl _)
  have hz11 : g + 1 ≤ w11.heap.size := by have := hb.size; omega
  have h2F11 := h2F.mono (B' := g + 1) (by omega)
  have h2L11 := h2L.mono (B' := g + 1) (by omega)
  clear hD1 hD2 HEnd hcm hb hb10 HX10 HS10 HR10 hU10 hF10 hLa10 hLo10 hz10 h2F h2L
  have qs := HS11.cell
  have s2 : IntKind.i64.wrap ((lv : Int) + 2) = (lv : Int) + 2 := IntWalk.i64_in _ (by omega)
  have s3 : ¬ (7 : Int) < (lv : Int) + 2 := by omega
  obtain ⟨O, hO⟩ : ∃ O, O = if (7 : Nat) = lv + 2 then 8 else 8 + (lv + 2) := ⟨_, rfl⟩
  have hsl : ∀ W : World, (Instr.sliceAt 24 (.pointer (some ⟨w.heap.size, 8, none⟩)) (some (.int .i64 ((lv : Int) + 2))) none none).run Try.prog W = .ok (.slice (some ⟨w.heap.size, O, none⟩) (5 - lv) (5 - lv)) W := fun W => by rw [hO]; exact run_levels lv _ hlv W
  have HO := Lib.hid hO
  have hLo12 := hLo11.mono (B' := g + 1) hz7
  clear hO hLo11 hz7
  obtain ⟨m7, hm7⟩ : ∃ m, m = 5 - lv := ⟨_, rfl⟩
  rw [← hm7] at hsl
  have hm5 : m7 ≤ 5 := by omega
  have HM7 := Lib.hid hm7
  clear hm7
  go_wp2
  go_loopw [70] (fun i wr => ∃ k : Nat, k ≤ m7 ∧ i = .int .i64 k ∧ Bk wr g 34 #[.int .i64 lv, .slice AU nu cU, .slice ALo nl cLo, .slice AF E1.length cF, .slice AL E2.length cL, .bool (noneMeet s D1 D2 (lv + 2) k)] ∧ Bk wr w.heap.size 26 s.arr ∧ Bk wr (w.heap.size + 1 + 1) 34 #[.int .i64 0, .slice none 0 0, .slice none 0 0, .slice none 0 0, .slice none 0 0, .bool false] ∧
    Own wr (w.heap.size + 3) 3 (.slice AU nu cU) (ics (Lu.map Mt.num)) ∧ Own wr (g + 1) 3 (.slice ALo nl cLo) (ics (Ll.map Mt.num)) ∧ Own wr (g + 1) 5 (.slice AF E1.length cF) (bcs E1) ∧ Own wr (g + 1) 5 (.slice AL E2.length cL) (bcs E2) ∧ Own wr (g + 1) 5 (.slice A2F D1.length c2F) (bcs D1) ∧ Own wr (g + 1) 5 (.slice A2L D2.length c2L) (bcs D2) ∧ Below w.heap.size w wr) (fun i _ => m7 - (intOf i).toNat)
  case atStart => exact ⟨0, by omega, rfl, HX11, HS11, HR11, hU11, hLo12, hF11, hLa11, by rw [HD1.out] at h2F11 ⊢; exact h2F11, h2L11, hb11⟩
  case round =>
    clear HX11 HS11 HR11 hU11 hLo12 hF11 hLa11 h2F11 h2L11 hb11 hz11 qs
    obtain ⟨k, hk, rfl, HX, HS, HR, hU, hLo, hF, hLa, h2F, h2L, hb⟩ := hrel
    have hgr : w.heap.size + 3 ≤ wr.heap.size := by have := HX.lt; omega
    have hgr1 : g + 1 ≤ wr.heap.size := by have := HX.lt; omega
    by_cases hlt : k < m7
    · have hO2 : O = 8 + (lv + 2) := by rw [HO.out, if_neg (by have := HM7.out; omega)]
      have c9 : wr.cell? ⟨w.heap.size, O + k, none⟩ = some (.slice (s.A (lv + 2 + k)) (s.n (lv + 2 + k)) (s.c (lv + 2 + k))) := by
        rw [HS.cell, hO2]
        obtain ⟨q, hq⟩ : ∃ q, q = lv + 2 + k := ⟨_, rfl⟩
        rw [show 8 + (lv + 2) + k = 8 + q by omega, ← hq]
        have h7 : q < 7 := by have := HM7.out; omega
        match q, h7 with
        | 0, _ => rfl
        | 1, _ => rfl
        | 2, _ => rfl
        | 3, _ => rfl
        | 4, _ => rfl
        | 5, _ => rfl
        | 6, _ => rfl
      obtain ⟨hlm, hlc, hln⟩ := (hs.below hb hB) (lv + 2 + k) (by have := HM7.out; omega)
      have HCall := Lib.hid (c_Overlap wr (c := s.c (lv + 2 + k)) (c1 := c2F) (c2 := c2L) hlm (by omega) (by omega) h2F.rd h2L.rd (Nat.le_refl _) (Nat.le_refl _))
      have Hsucc := Lib.hid (noneMeet_succ s D1 D2 (lv + 2) k)
      clear hO2 hlm hlc hln
      go_wp2_with fail
      refine HCall.out.mono ?_
      rintro e w12 ⟨Aq, nq, cq, Lq, rfl, _, _, hmq, hpq, _, hbq⟩
      have hemp : ((s.L (lv + 2 + k)).filter (meets D1 D2)).isEmpty = decide (nq = 0) := by
        have h1 := hmq.len
        have h2 := congrArg List.length hpq
        simp only [List.length_map] at h2
        rw [h1] at h2
        cases hfl : (s.L (lv + 2 + k)).filter (meets D1 D2) with
        | nil => rw [hfl] at h2; simp at h2; simp [h2]
        | cons x xs => rw [hfl] at h2; simp at h2; simp; omega
      have Hemp := Lib.hid hemp
      have HX2 := HX.below hbq HX.lt
      have HS2 := HS.below hbq HS.lt
      have HR2 := HR.below hbq HR.lt
      have hU2 := hU.below hbq (Nat.le_refl _)
      have hLo2 := hLo.below hbq (Nat.le_refl _)
      have hF2 := hF.below hbq (Nat.le_refl _)
      have hLa2 := hLa.below hbq (Nat.le_refl _)
      have h2F2 := h2F.below hbq (Nat.le_refl _)
      have h2L2 := h2L.below hbq (Nat.le_refl _)
      have hb2 := hb.trans (hbq.mono (by omega))
      clear hemp hmq hpq HX HS HR hU hLo hF hLa h2F h2L hb hbq c9 HCall
      rcases Nat.eq_zero_or_pos nq with h0 | h0
      · subst h0
        go_wp2
        go_roundw
        case rel => exact ⟨k + 1, by omega, by go_num, by rw [Hsucc.out, Hemp.out]; simpa using HX2, HS2, HR2, hU2, hLo2, hF2, hLa2, h2F2, h2L2, hb2⟩
        case measure => simp [intOf]; omega
      · have h0i : (0 : Int) < (nq : Int) := by omega
        have qx := HX2.cell
        have qz := HX2.frz
        have hf : noneMeet s D1 D2 (lv + 2) (k + 1) = false := by rw [Hsucc.out, Hemp.out, decide_eq_false (by omega), Bool.and_false]
        have Hf := Lib.hid hf
        clear hf
        go_wp2
        go_roundw
        case rel =>
          have hpx' : (Value.slice AU nu cU).ownBlock ≠ some (⟨g, 5, none⟩ : Addr).block := hpx 5
          exact ⟨k + 1, by omega, by go_num, by rw [Hf.out]; exact HX2.set_ 5 (.bool false), HS2.far (p := ⟨g, 5, none⟩) (by dsimp only; omega) _, HR2.far (p := ⟨g, 5, none⟩) (by dsimp only; omega) _, hU2.setF hpx' _, hLo2.setB (p := ⟨g, 5, none⟩) (Nat.lt_succ_self g) _, hF2.setB (p := ⟨g, 5, none⟩) (Nat.lt_succ_self g) _, hLa2.setB (p := ⟨g, 5, none⟩) (Nat.lt_succ_self g) _, h2F2.setB (p := ⟨g, 5, none⟩) (Nat.lt_succ_self g) _, h2L2.setB (p := ⟨g, 5, none⟩) (Nat.lt_succ_self g) _, hb2.setCell (p := ⟨g, 5, none⟩) (by dsimp only; omega) _⟩
        case measure => simp [intOf]; omega
    · obtain rfl : k = m7 := by omega
      have qx := HX.cell
      have qr := HR.cell
      have qrz := HR.frz
      have hbot : noneMeet s D1 D2 (lv + 2) k = bottomOf s lv Lu := by
        unfold noneMeet bottomOf
        have e1 : (Lu ++ Ll).map Mt.pl = (Lu ++ lowOf s lv Lu).map Mt.pl := by rw [List.map_append, List.map_append, Hpl.out]; unfold lowOf; rw [HE1.out, HE2.out]
        rw [HM7.out, HD1.out, HD2.out, endF_pl e1, endL_pl e1]
      have Hbot := Lib.hid hbot
      have hnum : Ll.map Mt.num = (lowOf s lv Lu).map Mt.num := nums_pl (by rw [Hpl.out]; unfold lowOf; rw [HE1.out, HE2.out])
      have Hnum := Lib.hid hnum
      clear hbot hnum
      go_wp2
      refine bodyPost_ret (v := .tuple #[.agg #[.int .i64 lv, .slice AU nu cU, .slice ALo nl cLo, .slice AF E1.length cF, .slice AL E2.length cL, .bool (noneMeet s D1 D2 (lv + 2) k)], .bool true, .int .i64 0]) ?_ rfl ?_
      · simp [results, Try.results10, go_sem, qr]
      · refine ⟨_, _, _, _, congrArg (fun b => Ending.returned (.tuple #[.agg #[.int .i64 lv, .slice AU nu cU, .slice ALo nl cLo, .slice AF E1.length cF, .slice AL E2.length cL, .bool b], .bool true, .int .i64 0])) Hbot.out, ?_, ?_, ?_, ?_, ?_⟩
        · exact Own.mono ((((((hU.setB (p := ⟨w.heap.size + 1 + 1, 0, none⟩) (by dsimp only; omega) _).setB (p := ⟨w.heap.size + 1 + 1, 1, none⟩) (by dsimp only; omega) _).setB (p := ⟨w.heap.size + 1 + 1, 2, none⟩) (by dsimp only; omega) _).setB (p := ⟨w.heap.size + 1 + 1, 3, none⟩) (by dsimp only; omega) _).setB (p := ⟨w.heap.size + 1 + 1, 4, none⟩) (by dsimp only; omega) _).setB (p := ⟨w.heap.size + 1 + 1, 5, none⟩) (by dsimp only; omega) _) (by omega)
        · rw [← Hnum.out]
          exact Own.mono ((((((hLo.setB (p := ⟨w.heap.size + 1 + 1, 0, none⟩) (by dsimp only; omega) _).setB (p := ⟨w.heap.size + 1 + 1, 1, none⟩) (by dsimp only; omega) _).setB (p := ⟨w.heap.size + 1 + 1, 2, none⟩) (by dsimp only; omega) _).setB (p := ⟨w.heap.size + 1 + 1, 3, none⟩) (by dsimp only; omega) _).setB (p := ⟨w.heap.size + 1 + 1, 4, none⟩) (by dsimp only; omega) _).setB (p := ⟨w.heap.size + 1 + 1, 5, none⟩) (by dsimp only; omega) _) (by omega)
        · rw [← HE1.out]
          exact Own.mono ((((((hF.setB (p := ⟨w.heap.size + 1 + 1, 0, none⟩) (by dsimp only; omega) _).setB (p := ⟨w.heap.size + 1 + 1, 1, none⟩) (by dsimp only; omega) _).setB (p := ⟨w.heap.size + 1 + 1, 2, none⟩) (by dsimp only; omega) _).setB (p := ⟨w.heap.size + 1 + 1, 3, none⟩) (by dsimp only; omega) _).setB (p := ⟨w.heap.size + 1 + 1, 4, none⟩) (by dsimp only; omega) _).setB (p := ⟨w.heap.size + 1 + 1, 5, none⟩) (by dsimp only; omega) _) (by omega)
        · rw [← HE2.out]
          exact Own.mono ((((((hLa.setB (p := ⟨w.heap.size + 1 + 1, 0, none⟩) (by dsimp only; omega) _).setB (p := ⟨w.heap.size + 1 + 1, 1, none⟩) (by dsimp only; omega) _).setB (p := ⟨w.heap.size + 1 + 1, 2, none⟩) (by dsimp only; omega) _).setB (p := ⟨w.heap.size + 1 + 1, 3, none⟩) (by dsimp only; omega) _).setB (p := ⟨w.heap.size + 1 + 1, 4, none⟩) (by dsimp only; omega) _).setB (p := ⟨w.heap.size + 1 + 1, 5, none⟩) (by dsimp only; omega) _) (by omega)
        · exact ((((((hb.setCell (p := ⟨w.heap.size + 1 + 1, 0, none⟩) (by dsimp only; omega) _).setCell (p := ⟨w.heap.size + 1 + 1, 1, none⟩) (by dsimp only; omega) _).setCell (p := ⟨w.heap.size + 1 + 1, 2, none⟩) (by dsimp only; omega) _).setCell (p := ⟨w.heap.size + 1 + 1, 3, none⟩) (by dsimp only; omega) _).setCell (p := ⟨w.heap.size + 1 + 1, 4, none⟩) (by dsimp only; omega) _).setCell (p := ⟨w.heap.size + 1 + 1, 5, none⟩) (by dsimp only; omega) _)
end Go.Proofs.Ytgpbkebmfbbamaa
