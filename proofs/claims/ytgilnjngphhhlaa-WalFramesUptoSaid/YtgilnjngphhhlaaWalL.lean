/- Layer 17: the steps of a round of the reading's loop, on memory. -/
import Derived.Test.YtgilnjngphhhlaaWalJ
namespace Go.Proofs.Ytgilnjngphhhlaa
open Go.RowKit Go.Lec Go.Shelf

/-- A round's step: what it keeps. -/
structure Mv (n₁ Bs B0 : Nat) (W W' : World) : Prop where
  kp : Kp n₁ Bs W W'
  kf : KeepsFrom B0 W W'
  part : ∀ k cs, Bk W k 44 cs → Bk W' k 44 cs
section
variable {n₁ Bs B0 : Nat} {W W' W'' : World}
theorem Mv.trans (h : Mv n₁ Bs B0 W W') (k : Mv n₁ Bs B0 W' W'') : Mv n₁ Bs B0 W W'' := ⟨h.kp.trans k.kp, h.kf.trans k.kf, fun i cs e => k.part i cs (h.part i cs e)⟩
theorem Mv.of_below (h : Below W.heap.size W W') (hn : n₁ ≤ W.heap.size) : Mv n₁ Bs B0 W W' := ⟨Kp.of_below h hn, keeps_of_below h _, fun k cs e => Bk.below e h e.lt⟩
theorem Mv.set {g i : Nat} {t : TypeId} {cs : Array Value} (h : Bk W g t cs) (ht : t ≠ 63) (ht' : t ≠ 44) (hn : n₁ ≤ g) (hB : g ≠ Bs) (u : Value) : Mv n₁ Bs B0 W (W.setCell ⟨g, i, none⟩ u) :=
  ⟨Kp.set h ht hn hB u, (KeepsOthers.setCell W ⟨g, i, none⟩ u).from _, fun k cs' e => Bk.far e (p := ⟨g, i, none⟩) (bk_ne h e ht') u⟩
theorem Mv.grown {B : Nat} {e : TypeId} {v : Value} {xs : List Value} (h : Lec.Own W B e v xs) (hg : W.grownBy W' v.ownBlock) (hn : n₁ ≤ W.heap.size) (hnB : n₁ ≤ B) (hBs : Bs < B) (he : e ≠ 63) (he' : e ≠ 44) : Mv n₁ Bs B0 W W' := by
  refine ⟨Kp.grown h hg hn hnB hBs he, (KeepsOthers.of_grownBy hg ?_).from _, fun k cs e' => Bk.grow e' hg (own_ne h e' (fun x => he' x.symm))⟩
  intro j o ej hj
  rcases h.2 with ⟨rfl, _⟩ | ⟨g, cap, cur, rfl, _, hk, _⟩
  · simp [Value.ownBlock] at ej
  · obtain rfl : g = j := by simpa [Value.ownBlock] using ej
    rw [hk] at hj
    cases hj
    rfl
end

/-- Two worlds behind one. -/
theorem below_from {B : Nat} {a b c : World} (h : Below B a b) (k : Below B a c) (hs : b.heap.size ≤ c.heap.size) : Below B b c :=
  ⟨k.os.trans h.os.symm, k.tape.trans h.tape.symm, k.output.trans h.output.symm, hs, fun i hi => (k.block i hi).trans (h.block i hi).symm⟩
theorem infoS : (Try.prog.info? 23).map (fun i => (i.zero, i.size, i.bytes)) = some (some (.slice none 0 0), 1, 24) := by kernel_rfl
theorem slr : SlT Try.prog 22 23 (.slice none 0 0) 24 := ⟨Try.underlying22, info_parts infoS, rfl⟩
/-- In the midst of a round: a record is open. -/
structure RM (w W : World) (op : Bool) (rec : List UInt8) (out : List (List UInt8)) (good : Nat) (vo vr : Value) (es : List Value) (br : Nat) : Prop where
  b1 : Bk W w.heap.size 22 #[vo]
  b2 : Bk W (w.heap.size + 1) 3 #[.int .i64 (good : Int)]
  b3 : Bk W (w.heap.size + 1 + 1) 23 #[vr]
  b4 : Bk W (w.heap.size + 1 + 1 + 1) 4 #[.bool op]
  own : Lec.Own W (w.heap.size + 5) 23 vo es
  els : Els W (Xat W (w.heap.size + 5) br true) es out
  rcd : Lec.Own W br 5 vr (bcs rec)
  base : w.heap.size + 5 ≤ br ∧ br ≤ W.heap.size
  below : Below w.heap.size w W
  size : w.heap.size + 5 ≤ W.heap.size
section
variable {w W W' : World} {op : Bool} {rec : List UInt8} {out : List (List UInt8)} {good : Nat} {vo vr : Value} {es : List Value} {br : Nat}
theorem RS.mid (h : RS w W true rec out good vo vr es br) : RM w W true rec out good vo vr es br := ⟨h.b1, h.b2, h.b3, h.b4, h.own, h.els, (h.rcd rfl).1, (h.rcd rfl).2, h.below, h.size⟩
theorem RM.grow (h : RM w W op rec out good vo vr es br) (hb : Below W.heap.size W W') : RM w W' op rec out good vo vr es br :=
  ⟨h.b1.below hb h.b1.lt, h.b2.below hb h.b2.lt, h.b3.below hb h.b3.lt, h.b4.below hb h.b4.lt, h.own.below hb (Nat.le_refl _), els_same h.els hb.size (fun k _ _ _ hk => hb.block k hk), h.rcd.below hb (Nat.le_refl _), ⟨h.base.1, Nat.le_trans h.base.2 hb.size⟩, h.below.trans (hb.mono h.below.size), Nat.le_trans h.size hb.size⟩
/-- A box's store keeps the rest. -/
theorem els_set {B g : Nat} {u : Value} {o : Bool} (h : Els W (Xat W B br o) es out) (hg : g < B) : Els (W.setCell ⟨g, 0, none⟩ u) (Xat (W.setCell ⟨g, 0, none⟩ u) B br o) es out :=
  els_same h (by simp) (fun k hx _ _ _ => Below.heap_setCell W ⟨g, 0, none⟩ u k (by show k ≠ g; omega))
theorem box_ne {B g : Nat} {e : TypeId} {v : Value} {xs : List Value} (h : Lec.Own W B e v xs) (hg : g < B) : v.ownBlock ≠ some g := fun e' => by have := (own_base h e').1; omega
theorem RM.open_ (h : RM w W op rec out good vo vr es br) (b : Bool) : RM w (W.setCell ⟨w.heap.size + 1 + 1 + 1, 0, none⟩ (.bool b)) b rec out good vo vr es br :=
  ⟨h.b1.far (by dsimp only; omega) _, h.b2.far (by dsimp only; omega) _, h.b3.far (by dsimp only; omega) _, by simpa using h.b4.set_ 0 (.bool b), own_set h.own _ (box_ne h.own (by omega)), els_set h.els (by omega), own_set h.rcd _ (box_ne h.rcd (by have := h.base; omega)), ⟨h.base.1, by simpa using h.base.2⟩, h.below.setCell (by dsimp only; omega) _, by simpa using h.size⟩
/-- A new record. -/
theorem RS.fresh (h : RS w W false rec out good vo vr es br) : RM w ((W.alloc (.cells #[] 5)).setCell ⟨w.heap.size + 1 + 1, 0, none⟩ (.slice (some ⟨W.heap.size, 0, none⟩) 0 0)) false [] out good vo (.slice (some ⟨W.heap.size, 0, none⟩) 0 0) es W.heap.size := by
  have hg := h.grow ((Below.refl W.heap.size W).alloc (Nat.le_refl _) (.cells #[] 5))
  have hr : Lec.Own (W.alloc (.cells #[] 5)) W.heap.size 5 (.slice (some ⟨W.heap.size, 0, none⟩) 0 0) (bcs []) := Lec.Own.lit W [] (Nat.le_refl _) (by simp [maxLen])
  have hE : Els (W.alloc (.cells #[] 5)) (Xat (W.alloc (.cells #[] 5)) (w.heap.size + 5) W.heap.size true) es out :=
    h.els.keep (by simp) (fun k _ hk => Below.heap_alloc W _ k hk) (fun k hx hk => ⟨hx.1, by obtain ⟨cs, hc⟩ := hx.2.1; exact ⟨cs, hc.alloc _⟩, fun _ => hk⟩)
  exact ⟨hg.b1.far (by dsimp only; omega) _, hg.b2.far (by dsimp only; omega) _, by simpa using hg.b3.set_ 0 (.slice (some ⟨W.heap.size, 0, none⟩) 0 0), hg.b4.far (by dsimp only; omega) _, own_set hg.own _ (box_ne hg.own (by omega)), els_set hE (by omega), own_set hr _ (box_ne hr (by have := h.size; omega)), ⟨h.size, by simp⟩, hg.below.setCell (by dsimp only; omega) _, by simpa using hg.size⟩
/-- A row that has grown keeps the rest. -/
theorem RM.more {w3 : World} {v3 : Value} {p : List UInt8} (h : RM w W op rec out good vo vr es br) (hg : W.grownBy w3 vr.ownBlock) (ho : Lec.Own w3 br 5 v3 (bcs rec ++ bcs p)) :
    RM w (w3.setCell ⟨w.heap.size + 1 + 1, 0, none⟩ v3) op (rec ++ p) out good vo v3 es br ∧ Bk w3 (w.heap.size + 1 + 1) 23 #[vr] := by
  have hbase := h.base
  have hne : ∀ {k : Nat}, k < w.heap.size + 5 → vr.ownBlock ≠ some k := fun hk => box_ne h.rcd (by omega)
  have hb1 := Bk.grow h.b1 hg (hne (by omega))
  have hb2 := Bk.grow h.b2 hg (hne (by omega))
  have hb3 := Bk.grow h.b3 hg (hne (by omega))
  have hb4 := Bk.grow h.b4 hg (hne (by omega))
  have hown : Lec.Own w3 (w.heap.size + 5) 23 vo es := h.own.grown hg (fun g hgr e => own_own h.rcd h.own (by decide) hgr e)
  have hE : Els w3 (Xat w3 (w.heap.size + 5) br true) es out := els_same h.els hg.size (fun k _ _ hx hk => hg.block k hk (fun e => by have := (own_base h.rcd e.symm).1; have := hx rfl; omega))
  have hbel : Below w.heap.size w w3 := h.below.grown hg h.below.size (fun k e => by have := (own_base h.rcd e).1; omega)
  rw [← bcs_append] at ho
  exact ⟨⟨hb1.far (by dsimp only; omega) _, hb2.far (by dsimp only; omega) _, by simpa using hb3.set_ 0 v3, hb4.far (by dsimp only; omega) _, own_set hown _ (box_ne hown (by omega)), els_set hE (by omega), own_set ho _ (box_ne ho (by omega)), ⟨hbase.1, by have := hg.size; simp; omega⟩, hbel.setCell (by dsimp only; omega) _, by have := hg.size; have := h.size; simp; omega⟩, hb3⟩
/-- A row that is the program's own, as an element. -/
theorem own_el {B : Nat} (h : Lec.Own W B 5 vr (bcs rec)) (hB : w.heap.size + 5 ≤ B) : El W (Xat W (w.heap.size + 5) 0 false) vr rec := by
  obtain ⟨A, c, rfl, hc⟩ := h.shape
  rw [bcs_length] at hc
  rw [bcs_length] at h ⊢
  refine ⟨A, c, rfl, hc, h.rd, fun hl a e => ?_⟩
  subst e
  rcases h.2 with ⟨h1, _⟩ | ⟨g, cap, cur, h1, hb, hg, _⟩
  · cases h1
  · simp only [Value.slice.injEq, Option.some.injEq] at h1
    rw [h1.1]
    exact ⟨by dsimp only; omega, ⟨cur, hg⟩, fun e => by cases e⟩
/-- The record is told. -/
theorem RM.close {w7 : World} {v7 : Value} {e : Nat} (h : RM w W false rec out good vo vr es br) (hg : (W.alloc (.cells #[vr] 23)).grownBy w7 vo.ownBlock) (ho : Lec.Own w7 (w.heap.size + 5) 23 v7 (es ++ [vr])) :
    RS w ((w7.setCell ⟨w.heap.size, 0, none⟩ v7).setCell ⟨w.heap.size + 1, 0, none⟩ (.int .i64 (e : Int))) false [] (out ++ [rec]) e v7 vr (es ++ [vr]) 0 ∧ Bk w7 w.heap.size 22 #[vo] ∧ Bk (w7.setCell ⟨w.heap.size, 0, none⟩ v7) (w.heap.size + 1) 3 #[.int .i64 (good : Int)] := by
  have hbase := h.base
  have h6 := h.grow ((Below.refl W.heap.size W).alloc (Nat.le_refl _) (.cells #[vr] 23))
  have hne : ∀ {k : Nat}, k < w.heap.size + 5 → vo.ownBlock ≠ some k := fun hk => box_ne h6.own hk
  have hb1 := Bk.grow h6.b1 hg (hne (by omega))
  have hb2 := Bk.grow h6.b2 hg (hne (by omega))
  have hb3 := Bk.grow h6.b3 hg (hne (by omega))
  have hb4 := Bk.grow h6.b4 hg (hne (by omega))
  have hE6 : Els (W.alloc (.cells #[vr] 23)) (Xat (W.alloc (.cells #[vr] 23)) (w.heap.size + 5) 0 false) (es ++ [vr]) (out ++ [rec]) :=
    (h6.els.keep (Nat.le_refl _) (fun _ _ _ => rfl) (fun k hx _ => ⟨hx.1, hx.2.1, fun e => by cases e⟩)).snoc (own_el h6.rcd hbase.1)
  have hE7 : Els w7 (Xat w7 (w.heap.size + 5) 0 false) (es ++ [vr]) (out ++ [rec]) := els_same hE6 hg.size (fun k _ hx _ hk => hg.block k hk (fun e => by obtain ⟨cs, hc⟩ := hx; exact own_ne h6.own hc (by decide) e.symm))
  have hbel : Below w.heap.size w w7 := h6.below.grown hg h6.below.size (fun k e => by have := (own_base h6.own e).1; omega)
  have ho8 := own_set (g := w.heap.size) (i := 0) ho v7 (box_ne ho (by omega))
  refine ⟨⟨?_, ?_, (hb3.far (by dsimp only; omega) _).far (by dsimp only; omega) _, (hb4.far (by dsimp only; omega) _).far (by dsimp only; omega) _, own_set ho8 _ (box_ne ho8 (by omega)), els_set (els_set hE7 (by omega)) (by omega), (fun e => by cases e), (fun _ => rfl), (hbel.setCell (by dsimp only; omega) _).setCell (by dsimp only; omega) _, by have := hg.size; have := h6.size; simp only [World.size_setCell]; omega, by simp⟩, hb1, hb2.far (by dsimp only; omega) _⟩
  · exact Bk.far (by simpa using hb1.set_ 0 v7) (by dsimp only; omega) _
  · simpa using (hb2.far (p := ⟨w.heap.size, 0, none⟩) (by dsimp only; omega) v7).set_ 0 (.int .i64 (e : Int))
end
end Go.Proofs.Ytgilnjngphhhlaa
