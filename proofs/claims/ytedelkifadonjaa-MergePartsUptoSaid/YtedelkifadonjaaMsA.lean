/- Layer 23: pairs that lie in a block, and are moved within it: words; what is compared; the insertion sort. -/
import Derived.Test.YtedelkifadonjaaProg
import Derived.Test.YtedelkifadonjaaPairs
import Derived.Test.YtedelkifadonjaaLvB
import Derived.Test.YtedelkifadonjaaStbPlain
import Derived.Test.YtedelkifadonjaaHeldT
import Derived.BigQuiet
namespace Go.Lec
open Go.RowKit
/-- A block that begins with pairs. -/
def PrB (t : TypeId) (w : World) (g : Nat) (L : List Pr) : Prop := ∃ rest : List Value, Bk w g t (L.flatMap Pr.cs ++ rest).toArray
section
variable {t : TypeId} {w w' : World} {g B : Nat} {L : List Pr}
theorem flat2_get : ∀ (L : List Pr) (i : Nat) (h : i < L.length) (rest : List Value), (L.flatMap Pr.cs ++ rest)[i * 2]? = some (.slice L[i].A1 L[i].n1 L[i].c1) ∧ (L.flatMap Pr.cs ++ rest)[i * 2 + 1]? = some (.slice L[i].A2 L[i].n2 L[i].c2)
  | x :: L, 0, _, rest => ⟨rfl, rfl⟩
  | x :: L, i + 1, h, rest => by
    have := flat2_get L i (by simpa using h) rest
    rw [show (i + 1) * 2 = i * 2 + 1 + 1 from by omega]
    exact this
theorem flat2_set : ∀ (L : List Pr) (i : Nat), i < L.length → ∀ (m : Pr) (rest : List Value), (((L.flatMap Pr.cs ++ rest).set (i * 2) (.slice m.A1 m.n1 m.c1)).set (i * 2 + 1) (.slice m.A2 m.n2 m.c2)) = (L.set i m).flatMap Pr.cs ++ rest
  | x :: L, 0, _, m, rest => rfl
  | x :: L, i + 1, h, m, rest => by
    have := flat2_set L i (by simpa using h) m rest
    rw [show (i + 1) * 2 = i * 2 + 1 + 1 from by omega]
    exact congrArg (fun z => Value.slice x.A1 x.n1 x.c1 :: Value.slice x.A2 x.n2 x.c2 :: z) this
theorem PrB.lt (h : PrB t w g L) : g < w.heap.size := by obtain ⟨r, h⟩ := h; exact h.lt
theorem PrB.below (h : PrB t w g L) (hb : Below B w w') (hB : g < B) : PrB t w' g L := by obtain ⟨r, h⟩ := h; exact ⟨r, h.below hb hB⟩
theorem PrB.cell (h : PrB t w g L) {i : Nat} (hi : i < L.length) : w.cell? ⟨g, i * 2, none⟩ = some (.slice L[i].A1 L[i].n1 L[i].c1) ∧ w.cell? ⟨g, i * 2 + 1, none⟩ = some (.slice L[i].A2 L[i].n2 L[i].c2) := by
  obtain ⟨r, h⟩ := h
  have := flat2_get L i hi r
  exact ⟨(h.cell _).trans (by rw [List.getElem?_toArray]; exact this.1), (h.cell _).trans (by rw [List.getElem?_toArray]; exact this.2)⟩
theorem PrB.drew (h : PrB t w g L) : PrB t w.drew g L := by obtain ⟨r, h⟩ := h; exact ⟨r, h.drew⟩
theorem PrB.frz (h : PrB t w g L) (i : Nat) : w.frozen? ⟨g, i, none⟩ = false := by obtain ⟨r, h⟩ := h; exact h.frz i
theorem PrB.put (h : PrB t w g L) {i : Nat} (hi : i < L.length) (m : Pr) : PrB t ((w.setCell ⟨g, i * 2, none⟩ (.slice m.A1 m.n1 m.c1)).setCell ⟨g, i * 2 + 1, none⟩ (.slice m.A2 m.n2 m.c2)) g (L.set i m) := by
  obtain ⟨r, h⟩ := h
  refine ⟨r, ?_⟩
  have := (h.set_ (i * 2) (.slice m.A1 m.n1 m.c1)).set_ (i * 2 + 1) (.slice m.A2 m.n2 m.c2)
  rw [List.setIfInBounds_toArray, List.setIfInBounds_toArray, flat2_set L i hi m r] at this
  exact this
/-- All pairs are readable, and lie not in block g. -/
def PrOk (w : World) (g : Nat) (L : List Pr) : Prop := ∀ m ∈ L, m.ok w w.heap.size ∧ m.away (some g)
theorem PrOk.below (h : PrOk w g L) (hb : Below w.heap.size w w') : PrOk w' g L := fun m hm => ⟨((h m hm).1.below hb (Nat.le_refl _)).more hb.size, (h m hm).2⟩
theorem PrOk.kb (h : PrOk w g L) (hk : Kb [g] w w') : PrOk w' g L := fun m hm => by
  obtain ⟨⟨h1, h2, h3⟩, h4, h5⟩ := h m hm
  have rdk : ∀ {A : Option Addr} {n : Nat} {xs : List Value}, Rd w w.heap.size A n xs → (0 < n → ∀ a, A = some a → some a.block ≠ some g) → Rd w' w'.heap.size A n xs := fun hr ha => by
    refine ⟨hr.1, fun hn => ?_⟩
    obtain ⟨b, o, e, hb, hc⟩ := hr.2 hn
    exact ⟨b, o, e, Nat.lt_of_lt_of_le hb hk.size, fun i u hu => (hk.cell (p := ⟨b, o + i, none⟩) hb (by intro hm; rw [List.mem_singleton] at hm; exact ha hn _ e (by rw [← hm]))).trans (hc i u hu)⟩
  exact ⟨⟨rdk h1 h4, rdk h2 h5, h3⟩, h4, h5⟩
theorem PrOk.perm {L' : List Pr} (h : PrOk w g L) (hp : ∀ m ∈ L', m ∈ L) : PrOk w g L' := fun m hm => h m (hp m hm)
/-- Two pairs change places. -/
def swp (L : List Pr) (i j : Nat) (hi : i < L.length) (hj : j < L.length) : List Pr := (L.set i L[j]).set j L[i]
theorem swp_len (L : List Pr) (i j : Nat) (hi : i < L.length) (hj : j < L.length) : (swp L i j hi hj).length = L.length := by simp [swp]
theorem PrB.swap (h : PrB t w g L) {i j : Nat} (hi : i < L.length) (hj : j < L.length) :
    PrB t ((((w.setCell ⟨g, i * 2, none⟩ (.slice L[j].A1 L[j].n1 L[j].c1)).setCell ⟨g, i * 2 + 1, none⟩ (.slice L[j].A2 L[j].n2 L[j].c2)).setCell ⟨g, j * 2, none⟩ (.slice L[i].A1 L[i].n1 L[i].c1)).setCell ⟨g, j * 2 + 1, none⟩ (.slice L[i].A2 L[i].n2 L[i].c2)) g (swp L i j hi hj) :=
  (h.put hi L[j]).put (by simpa using hj) L[i]
/-- What the stores of a swap find. -/
theorem swap_cells {p r : Nat} {x1 x2 y1 y2 a1 a2 b1 : Value} (hp : p ≠ r) (cx1 : w.cell? ⟨g, p * 2, none⟩ = some x1) (cx2 : w.cell? ⟨g, p * 2 + 1, none⟩ = some x2) (cy1 : w.cell? ⟨g, r * 2, none⟩ = some y1) (cy2 : w.cell? ⟨g, r * 2 + 1, none⟩ = some y2) :
    (w.setCell ⟨g, p * 2, none⟩ a1).cell? ⟨g, p * 2 + 1, none⟩ = some x2 ∧ ((w.setCell ⟨g, p * 2, none⟩ a1).setCell ⟨g, p * 2 + 1, none⟩ a2).cell? ⟨g, r * 2, none⟩ = some y1 ∧
      (((w.setCell ⟨g, p * 2, none⟩ a1).setCell ⟨g, p * 2 + 1, none⟩ a2).setCell ⟨g, r * 2, none⟩ b1).cell? ⟨g, r * 2 + 1, none⟩ = some y2 := by
  have ne : ∀ i j : Nat, i ≠ j → (⟨g, i, none⟩ : Addr) ≠ ⟨g, j, none⟩ := fun i j h e => h (by injection e)
  exact ⟨(World.cell?_setCell_other _ _ _ _ (ne _ _ (by omega))).trans cx2, (World.cell?_setCell_other _ _ _ _ (ne _ _ (by omega))).trans ((World.cell?_setCell_other _ _ _ _ (ne _ _ (by omega))).trans cy1), (World.cell?_setCell_other _ _ _ _ (ne _ _ (by omega))).trans ((World.cell?_setCell_other _ _ _ _ (ne _ _ (by omega))).trans ((World.cell?_setCell_other _ _ _ _ (ne _ _ (by omega))).trans cy2))⟩
/-- Neighbours. -/
theorem swp_next (U V : List Pr) (y x : Pr) (h1 : U.length + 1 < (U ++ y :: x :: V).length) (h0 : U.length < (U ++ y :: x :: V).length) : swp (U ++ y :: x :: V) (U.length + 1) U.length h1 h0 = U ++ x :: y :: V := by
  unfold swp
  have e1 : (U ++ y :: x :: V)[U.length] = y := by simp
  have e2 : (U ++ y :: x :: V)[U.length + 1] = x := by rw [List.getElem_append_right (by omega)]; simp
  rw [e1, e2, List.set_append_right _ _ (by omega), List.set_append_right _ _ (by omega)]
  simp
end
end Go.Lec
namespace Go.Proofs.Ytedelkifadonjaa
open Go.RowKit Go.Lec Go.Op
/-- Pairs are compared by their keys. -/
theorem c_cmp (w : World) {B B2 : Nat} {x y : Pr} (hx : x.ok w B) (hy : y.ok w B2) (hB : B ≤ w.heap.size) (hB2 : B2 ≤ w.heap.size) :
    Calls Try.prog 37 #[x.val, y.val] w fun e w' => e = .returned (.int .i64 (Lib.compareBytes x.key y.key)) ∧ Below w.heap.size w w' := by
  have hb1 := (Below.refl w.heap.size w).alloc (Nat.le_refl _) (.cells #[.slice x.A1 x.n1 x.c1, .slice x.A2 x.n2 x.c2] 56)
  have N1 := (Bk.new_ w 56 #[.slice x.A1 x.n1 x.c1, .slice x.A2 x.n2 x.c2]).alloc (.cells #[.slice y.A1 y.n1 y.c1, .slice y.A2 y.n2 y.c2] 56)
  have N2 := Bk.new_ (w.alloc (.cells #[.slice x.A1 x.n1 x.c1, .slice x.A2 x.n2 x.c2] 56)) 56 #[.slice y.A1 y.n1 y.c1, .slice y.A2 y.n2 y.c2]
  have hb2 := hb1.alloc hb1.size (.cells #[.slice y.A1 y.n1 y.c1, .slice y.A2 y.n2 y.c2] 56)
  rw [World.size_alloc] at N2
  have q1 := N1.cell
  have q2 := N2.cell
  have HC := Lib.hid (c_bCompare _ (c := x.c1) (c2 := y.c1) (hx.1.below hb2 hB) (hy.1.below hb2 hB2))
  have Hb := Lib.hid hb2
  clear N1 N2 hb1 hb2
  unfold Pr.val
  go_enter Try.func37, Try.ntmps37
  go_wp2_with (first | (go_at_call 38; refine HC.out.mono ?_; rintro e w1 ⟨rfl, rfl⟩))
  go_ret
  exact ⟨rfl, Hb.out⟩
end Go.Proofs.Ytedelkifadonjaa
