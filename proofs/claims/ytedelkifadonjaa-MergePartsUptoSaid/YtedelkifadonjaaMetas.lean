/- Words for lists of files' metas, as they lie in memory. -/
import Derived.Test.YtedelkifadonjaaWide
namespace Go.Lec
open Go.RowKit

/-- A file's meta: its five cells, and the bytes that its two slices read as. -/
structure Mt where
  num : Int
  size : Int
  cnt : Int
  A1 : Option Addr
  n1 : Nat
  c1 : Nat
  first : List UInt8
  A2 : Option Addr
  n2 : Nat
  c2 : Nat
  last : List UInt8

/-- Its cells. -/
def Mt.cs (m : Mt) : List Value := [.int .i64 m.num, .int .i64 m.size, .int .i64 m.cnt, .slice m.A1 m.n1 m.c1, .slice m.A2 m.n2 m.c2]
theorem Mt.cs_len (m : Mt) : m.cs.length = 5 := rfl
theorem Mt.cs_one (m : Mt) : ∀ u ∈ m.cs, u.oneCell' = true := by
  intro u hu
  simp only [Mt.cs, List.mem_cons, List.not_mem_nil, or_false] at hu
  rcases hu with rfl | rfl | rfl | rfl | rfl <;> rfl
/-- Its value. -/
def Mt.val (m : Mt) : Value := .agg #[.int .i64 m.num, .int .i64 m.size, .int .i64 m.cnt, .slice m.A1 m.n1 m.c1, .slice m.A2 m.n2 m.c2]
/-- Its slices read as its bytes. -/
def Mt.ok (w : World) (B : Nat) (m : Mt) : Prop := Rd w B m.A1 m.n1 (bcs m.first) ∧ Rd w B m.A2 m.n2 (bcs m.last) ∧ m.n1 ≤ m.c1 ∧ m.n2 ≤ m.c2 ∧ m.n1 ≤ 140737488355328 ∧ m.n2 ≤ 140737488355328

section
variable {w w' : World} {B B' n c : Nat} {A : Option Addr} {L : List Mt} {m : Mt}
theorem Mt.ok.more (h : m.ok w B) (hB : B ≤ B') : m.ok w B' := ⟨h.1.more hB, h.2.1.more hB, h.2.2⟩
theorem Mt.ok.below (h : m.ok w B) (hb : Below B' w w') (hB : B ≤ B') : m.ok w' B := ⟨h.1.below hb hB, h.2.1.below hb hB, h.2.2⟩
theorem Mt.ok.alloc (h : m.ok w B) (hB : B ≤ w.heap.size) (o : Obj) : m.ok (w.alloc o) B := ⟨h.1.alloc hB o, h.2.1.alloc hB o, h.2.2⟩
theorem Mt.ok.drewN (h : m.ok w B) (k : Nat) : m.ok (w.drewN k) B := h

/-- The slice '.slice A n c' reads as the metas L, all below block B. -/
def Mts (w : World) (B : Nat) (A : Option Addr) (n : Nat) (L : List Mt) : Prop := RdK w B 5 A n (L.flatMap Mt.cs) ∧ ∀ m ∈ L, m.ok w B
theorem Mts.len (h : Mts w B A n L) : L.length = n := by
  have := h.1.1
  rw [flat_len Mt.cs_len] at this
  omega
theorem Mts.nil_ : Mts w B A 0 [] := ⟨RdK.nil_, fun _ h => by cases h⟩
theorem Mts.more (h : Mts w B A n L) (hB : B ≤ B') : Mts w B' A n L := ⟨h.1.more hB, fun m hm => (h.2 m hm).more hB⟩
theorem Mts.below (h : Mts w B A n L) (hb : Below B' w w') (hB : B ≤ B') : Mts w' B A n L := ⟨h.1.below hb hB, fun m hm => (h.2 m hm).below hb hB⟩
theorem Mts.alloc (h : Mts w B A n L) (hB : B ≤ w.heap.size) (o : Obj) : Mts (w.alloc o) B A n L := ⟨h.1.alloc hB o, fun m hm => (h.2 m hm).alloc hB o⟩
theorem Mts.drew (h : Mts w B A n L) : Mts w.drew B A n L := h
theorem Mts.drewN (h : Mts w B A n L) (k : Nat) : Mts (w.drewN k) B A n L := h
/-- One meta of a slice: its five cells. -/
theorem Mts.at (h : Mts w B A n L) {k : Nat} (hk : k < n) : ∃ b o, A = some ⟨b, o, none⟩ ∧ b < B ∧ ∀ i (hi : i < L.length) j u, L[i].cs[j]? = some u → w.cell? ⟨b, o + (5 * i + j), none⟩ = some u := by
  obtain ⟨b, o, e, hb, hc⟩ := h.1.2 (by omega)
  refine ⟨b, o, e, hb, fun i hi j u hu => hc _ _ ?_⟩
  rw [flat_get Mt.cs_len L i j L[i] (List.getElem?_eq_getElem hi) ?_]
  · exact hu
  · have := (List.getElem?_eq_some_iff.1 hu).1
    rwa [Mt.cs_len] at this
/-- Meta k, its cells in whatever world keeps them. -/
theorem Mts.cell5 (h : Mts w B A n L) {k : Nat} (hk : k < n) : ∃ b o m, A = some ⟨b, o, none⟩ ∧ b < B ∧ L[k]? = some m ∧ L.take (k + 1) = L.take k ++ [m] ∧ m.ok w B ∧ ∀ W : World, Below B w W →
    W.cell? ⟨b, o + k * 5, none⟩ = some (.int .i64 m.num) ∧ W.cell? ⟨b, o + k * 5 + 1, none⟩ = some (.int .i64 m.size) ∧ W.cell? ⟨b, o + k * 5 + 2, none⟩ = some (.int .i64 m.cnt) ∧
    W.cell? ⟨b, o + k * 5 + 3, none⟩ = some (.slice m.A1 m.n1 m.c1) ∧ W.cell? ⟨b, o + k * 5 + 4, none⟩ = some (.slice m.A2 m.n2 m.c2) := by
  obtain ⟨b, o, e, hb, hc⟩ := h.at hk
  have hkL : k < L.length := by rw [h.len]; exact hk
  refine ⟨b, o, L[k], e, hb, List.getElem?_eq_getElem hkL, by rw [List.take_succ_eq_append_getElem hkL], h.2 _ (List.getElem_mem hkL), fun W hW => ?_⟩
  have g := fun j u (hu : L[k].cs[j]? = some u) => (hW.cell (p := ⟨b, o + (5 * k + j), none⟩) hb).trans (hc k hkL j u hu)
  rw [show o + k * 5 = o + (5 * k + 0) by omega]
  refine ⟨g 0 _ rfl, ?_, ?_, ?_, ?_⟩
  · exact g 1 _ rfl
  · exact g 2 _ rfl
  · exact g 3 _ rfl
  · exact g 4 _ rfl
theorem Mts.ok_at (h : Mts w B A n L) {i : Nat} (hi : i < L.length) : L[i].ok w B := h.2 _ (List.getElem_mem hi)
end

/-- What a meta says, wherever it lies. -/
def Mt.pl (m : Mt) : Int × Int × Int × List UInt8 × List UInt8 := (m.num, m.size, m.cnt, m.first, m.last)
/-- Its bytes lie elsewhere than in a row. -/
def Mt.away (X : Option Nat) (m : Mt) : Prop := (0 < m.n1 → ∀ a, m.A1 = some a → some a.block ≠ X) ∧ (0 < m.n2 → ∀ a, m.A2 = some a → some a.block ≠ X)
theorem Rd.grownX {w w' : World} {B n : Nat} {A : Option Addr} {xs : List Value} {X : Option Nat} (h : Rd w B A n xs) (hB : B ≤ w.heap.size) (ha : 0 < n → ∀ a, A = some a → some a.block ≠ X) (hg : w.grownBy w' X) : Rd w' B A n xs :=
  ⟨h.1, fun hn => by
    obtain ⟨b, o, e, hb, hc⟩ := h.2 hn
    exact ⟨b, o, e, hb, fun i u hu => (World.cell?_of_block (hg.block b (by omega) (ha hn _ e))).trans (hc i u hu)⟩⟩
theorem Mt.ok.grownX {w w' : World} {B : Nat} {X : Option Nat} {m : Mt} (h : m.ok w B) (hB : B ≤ w.heap.size) (ha : m.away X) (hg : w.grownBy w' X) : m.ok w' B :=
  ⟨h.1.grownX hB ha.1 hg, h.2.1.grownX hB ha.2 hg, h.2.2⟩
theorem Mt.away.next {w : World} {B : Nat} {X X' : Option Nat} {m : Mt} (h : m.away X) (ho : m.ok w B) (hx : X' = X ∨ ∃ g, X' = some g ∧ B ≤ g) : m.away X' := by
  rcases hx with rfl | ⟨g, rfl, hg⟩
  · exact h
  · constructor
    · intro hn a ha e
      obtain ⟨b, o, e2, hb, _⟩ := ho.1.2 hn
      rw [e2] at ha
      cases ha
      injection e with e
      dsimp only at e
      omega
    · intro hn a ha e
      obtain ⟨b, o, e2, hb, _⟩ := ho.2.1.2 hn
      rw [e2] at ha
      cases ha
      injection e with e
      dsimp only at e
      omega
theorem Own.ge {w : World} {B n c : Nat} {e : TypeId} {A : Option Addr} {xs : List Value} (h : Own w B e (.slice A n c) xs) (a : Addr) (ha : A = some a) : B ≤ a.block := by
  rcases h.2 with ⟨hv, _⟩ | ⟨g, cap, cur, hv, hb, _⟩
  · simp only [Value.slice.injEq] at hv
    rw [hv.1] at ha
    cases ha
  · simp only [Value.slice.injEq] at hv
    rw [hv.1] at ha
    cases ha
    exact hb
/-- Its bytes lie from a block on. -/
def Mt.hi (B : Nat) (m : Mt) : Prop := (∀ a, m.A1 = some a → B ≤ a.block) ∧ (∀ a, m.A2 = some a → B ≤ a.block)
theorem Mt.hi.mono {B B' : Nat} {m : Mt} (h : m.hi B) (hB : B' ≤ B) : m.hi B' := ⟨fun a e => Nat.le_trans hB (h.1 a e), fun a e => Nat.le_trans hB (h.2 a e)⟩
theorem Rd.setLow {w : World} {B n : Nat} {A : Option Addr} {xs : List Value} (h : Rd w B A n xs) {p : Addr} (hi : ∀ a, A = some a → p.block < a.block) (u : Value) : Rd (w.setCell p u) B A n xs :=
  ⟨h.1, fun hn => by
    obtain ⟨b, o, e, hb, hc⟩ := h.2 hn
    have := hi _ e
    dsimp only at this
    exact ⟨b, o, e, hb, fun i x hx => (World.cell?_of_block (Below.heap_setCell w p u b (by omega))).trans (hc i x hx)⟩⟩
theorem Mt.ok.setLow {w : World} {B C : Nat} {m : Mt} (h : m.ok w B) (hi : m.hi C) {p : Addr} (hp : p.block < C) (u : Value) : m.ok (w.setCell p u) B :=
  ⟨h.1.setLow (fun a e => Nat.lt_of_lt_of_le hp (hi.1 a e)) u, h.2.1.setLow (fun a e => Nat.lt_of_lt_of_le hp (hi.2 a e)) u, h.2.2⟩
/-- Metas alike. -/
def Mt.same (a b : Mt) : Bool := a.num == b.num && a.size == b.size && a.cnt == b.cnt && a.first == b.first && a.last == b.last

/-- How many bytes files have, as the program reckons it. -/
def mtSize (L : List Mt) : Int := L.foldl (fun n m => n + min (max m.size 0) (1152921504606846976 - n)) 0
theorem mtSize_snoc (L : List Mt) (m : Mt) : mtSize (L ++ [m]) = mtSize L + min (max m.size 0) (1152921504606846976 - mtSize L) := by simp [mtSize]
theorem mtSize_rng (L : List Mt) : 0 ≤ mtSize L ∧ mtSize L ≤ 1152921504606846976 := by
  have : ∀ (L : List Mt) (n : Int), 0 ≤ n ∧ n ≤ 1152921504606846976 → 0 ≤ L.foldl (fun n m => n + min (max m.size 0) (1152921504606846976 - n)) n ∧ L.foldl (fun n m => n + min (max m.size 0) (1152921504606846976 - n)) n ≤ 1152921504606846976 := by
    intro L
    induction L with
    | nil => intro n h; exact h
    | cons m L ih => intro n h; exact ih (n + min (max m.size 0) (1152921504606846976 - n)) (by omega)
  exact this L 0 (by omega)
end Go.Lec
