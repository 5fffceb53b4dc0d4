/- Layer 1: words for memory in which some blocks turn; and how a file system lies in it. -/
import Derived.Test.YtgilnjngphhhlaaGreatFsPlain
import Derived.Test.YtgilnjngphhhlaaGreatWide
import Derived.Maps.OwnSet
import Derived.Maps.RangeWalk
namespace Go.Lec
open Go.RowKit
/-- Of what was there in w, nothing has turned in w' but in the blocks of X. -/
structure KbP (X : Nat → Prop) (w w' : World) : Prop where
  os : w'.os = w.os
  tape : w'.tape = w.tape
  output : w'.output = w.output
  size : w.heap.size ≤ w'.heap.size
  block : ∀ k, k < w.heap.size → ¬ X k → w'.heap[k]? = w.heap[k]?
section
variable {X X' I : Nat → Prop} {a w w' : World} {B n k : Nat} {A : Option Addr} {xs : List Value} {e : TypeId} {v : Value}
theorem KbP.refl (X : Nat → Prop) (w : World) : KbP X w w := ⟨rfl, rfl, rfl, Nat.le_refl _, fun _ _ _ => rfl⟩
theorem KbP.of_below (h : Below a.heap.size a w) : KbP X a w := ⟨h.os, h.tape, h.output, h.size, fun k hk _ => h.block k hk⟩
theorem KbP.of_kb {S : List Nat} (h : Kb S a w) (hS : ∀ b ∈ S, X b) : KbP X a w := ⟨h.os, h.tape, h.output, h.size, fun k hk hn => h.block k hk fun hm => hn (hS k hm)⟩
theorem KbP.of_grown {row : Option Nat} (h : a.grownBy w row) (hr : ∀ g, row = some g → X g) : KbP X a w :=
  ⟨h.os, h.tape, h.output, h.size, fun k hk hn => h.block k hk fun e => hn (hr k e.symm)⟩
theorem KbP.drew (h : KbP X a w) : KbP X a w.drew := ⟨h.os, h.tape, h.output, h.size, h.block⟩
theorem KbP.drewN (h : KbP X a w) (n : Nat) : KbP X a (w.drewN n) := ⟨h.os, h.tape, h.output, h.size, h.block⟩
theorem KbP.trans (h : KbP X a w) (k : KbP X' w w') (hS : ∀ b, X' b → X b ∨ a.heap.size ≤ b) : KbP X a w' :=
  ⟨k.os.trans h.os, k.tape.trans h.tape, k.output.trans h.output, Nat.le_trans h.size k.size,
    fun b hb hn => (k.block b (Nat.lt_of_lt_of_le hb h.size) (fun hin => by rcases hS b hin with h1 | h1 <;> first | exact hn h1 | omega)).trans (h.block b hb hn)⟩
theorem KbP.then_ (h : KbP X a w) (hb : Below B w w') (hB : a.heap.size ≤ B) : KbP X a w' :=
  ⟨hb.os.trans h.os, hb.tape.trans h.tape, hb.output.trans h.output, Nat.le_trans h.size hb.size, fun k hk hn => (hb.block k (by omega)).trans (h.block k hk hn)⟩
theorem KbP.after (h : KbP X a w) (hb : Below w.heap.size w w') : KbP X a w' := h.then_ hb h.size
theorem KbP.alloc (h : KbP X a w) (o : Obj) : KbP X a (w.alloc o) := h.after ((Below.refl _ _).alloc (Nat.le_refl _) o)
theorem KbP.setCell (h : KbP X a w) {p : Addr} (hp : X p.block ∨ a.heap.size ≤ p.block) (u : Value) : KbP X a (w.setCell p u) :=
  ⟨h.os, h.tape, h.output, by have := h.size; simp; omega, fun k hk hn => (Below.heap_setCell w p u k (by rcases hp with hp | hp <;> (intro e; subst e; first | exact hn hp | omega))).trans (h.block k hk hn)⟩
theorem KbP.grown {row : Option Nat} (h : KbP X a w) (hg : w.grownBy w' row) (hr : ∀ g, row = some g → X g ∨ a.heap.size ≤ g) : KbP X a w' :=
  h.trans (X' := fun g => row = some g) (KbP.of_grown hg fun _ e => e) (fun b e => hr b e)
theorem KbP.more (h : KbP X a w) (hS : ∀ b, X b → X' b) : KbP X' a w := ⟨h.os, h.tape, h.output, h.size, fun k hk hn => h.block k hk fun hm => hn (hS k hm)⟩
theorem KbP.below (h : KbP X a w) (hS : ∀ b, X b → B ≤ b) (hB : B ≤ a.heap.size) : Below B a w :=
  ⟨h.os, h.tape, h.output, h.size, fun k hk => h.block k (by omega) fun hm => by have := hS k hm; omega⟩
theorem KbP.cell (h : KbP X a w) {p : Addr} (hp : p.block < a.heap.size) (hn : ¬ X p.block) : w.cell? p = a.cell? p := World.cell?_of_block (h.block _ hp hn)
theorem Bk.kbP {b : Nat} {t : TypeId} {cs : Array Value} (h : Bk w b t cs) (hk : KbP X w w') (hS : ¬ X b) : Bk w' b t cs := (hk.block b h.lt hS).trans h
theorem Rd.kbP (h : Rd w w.heap.size A n xs) (hk : KbP X w w') (hS : 0 < n → ∀ p, A = some p → ¬ X p.block) : Rd w' w'.heap.size A n xs :=
  ⟨h.1, fun hn => by
    obtain ⟨b, o, e, hb, hc⟩ := h.2 hn
    exact ⟨b, o, e, Nat.lt_of_lt_of_le hb hk.size, fun i u hu => (hk.cell (p := ⟨b, o + i, none⟩) hb (hS hn ⟨b, o, none⟩ e)).trans (hc i u hu)⟩⟩
theorem OwnK.kbP (h : OwnK w B e k v n xs) (hk : KbP X w w') (hS : ∀ g, v.ownBlock = some g → ¬ X g) : OwnK w' B e k v n xs := by
  refine ⟨h.1, ?_⟩
  rcases h.2 with h2 | ⟨g, cap, cur, rfl, hg, hh, r⟩
  · exact .inl h2
  · exact .inr ⟨g, cap, cur, rfl, hg, (hk.block g (Array.getElem?_eq_some_iff.1 hh).1 (hS g rfl)).trans hh, r⟩
theorem ownsMap_kbP {H : Type} {P : Program} {t : TypeId} {R : Value → Option (DataW H × List MemPlace)} {b m : Nat} {D : DataW H} (h : w.ownsMap P t R b m D) (hk : KbP X w w') (hS : ¬ X b) : w'.ownsMap P t R b m D := by
  have hlt := h.lt
  obtain ⟨es, clock, hb, F, hs, hD⟩ := h
  exact ⟨es, clock, (hk.block b hlt hS).trans hb, F, hs, hD⟩
/-- A slice that reads as a list, in blocks of I. -/
structure RdP (I : Nat → Prop) (w : World) (A : Option Addr) (n : Nat) (xs : List Value) : Prop where
  rd : Rd w w.heap.size A n xs
  lie : 0 < n → ∀ p, A = some p → I p.block
theorem RdP.kbP (h : RdP I w A n xs) (hk : KbP X w w') (hI : ∀ b, I b → ¬ X b) : RdP I w' A n xs := ⟨h.rd.kbP hk fun hn p e => hI _ (h.lie hn p e), h.lie⟩
theorem RdP.more {I' : Nat → Prop} (h : RdP I w A n xs) (hI : ∀ b, I b → I' b) : RdP I' w A n xs := ⟨h.rd, fun hn p e => hI _ (h.lie hn p e)⟩
theorem RdP.nil_ : RdP I w A 0 [] := ⟨⟨rfl, fun h => absurd h (by omega)⟩, fun h => absurd h (by omega)⟩
theorem RdP.lt (h : RdP I w A n xs) : 0 < n → ∀ p, A = some p → p.block < w.heap.size := fun hn p e => by
  obtain ⟨b, o, e', hb, _⟩ := h.rd.2 hn
  rw [e] at e'; cases e'; exact hb
/-- A row that was just laid is readable, and new. -/
theorem RdP.new_ {c : Nat} {B : Nat} (h : w.ownsRow B e 1 (.slice A n c) n xs) : RdP (fun b => B ≤ b) w A n xs := by
  have hl : xs.length = n := by have := h.1; omega
  refine ⟨?_, fun hn p hp => ?_⟩
  · subst hl; exact Own.rd h
  · subst hp; exact (World.ownsRow.lt h p.block rfl).1
/-- What is in the new blocks lies in whatever holds of them. -/
theorem RdP.fresh {B : Nat} (h : RdP (fun b => B ≤ b) w A n xs) (hI : ∀ b, B ≤ b → I b) : RdP I w A n xs := h.more hI
end
end Go.Lec
namespace Go.Fsy
open Go.Maps
/-- How a pointer in a map reads: by its block's number. -/
def ptrR : Value → Option (DataW Unit × List MemPlace)
  | .pointer none => some (.nil, [])
  | .pointer (some ⟨b, 0, none⟩) => some (.lit (.int .i64 b), [])
  | _ => none
theorem ptrR_inv {v : Value} {b : Nat} {ps : List MemPlace} (h : ptrR v = some (.lit (.int .i64 b), ps)) : v = .pointer (some ⟨b, 0, none⟩) := by
  unfold ptrR at h
  split at h
  · simp at h
  · simp only [Option.some.injEq, Prod.mk.injEq, DataW.lit.injEq, Lit.int.injEq] at h
    have : _ = b := Int.ofNat_inj.1 h.1.2
    rw [this]
  · cases h
theorem ptrR_nil {v : Value} {ps : List MemPlace} (h : ptrR v = some (.nil, ps)) : v = .pointer none := by
  unfold ptrR at h
  split at h
  · rfl
  · simp at h
  · cases h
def strL (n : Bs) : Lit := .string n
theorem strL_key (n : Bs) : WideAt.IsKeyLit (strL n) := trivial
theorem strL_ne {a b : Bs} (h : a ≠ b) : strL a ≠ strL b := fun e => h (by simpa [strL] using e)
def svl (n : Bs) : Value := .string ⟨n.toArray⟩
/-- A map that reads as a directory: names, and the blocks of their files. -/
structure Rep (fid : Nat → Nat) (D : DataW Unit) (l : Dir) : Prop where
  map : Tidy D
  size : Maps.size D = l.length
  has : ∀ n, Maps.has D (strL n) = (node l n).isSome
  at_ : ∀ n i, node l n = some i → ∀ z, D.atKey (strL n) z = .lit (.int .i64 (fid i))
theorem node_without_same (l : Dir) (n : Bs) : node (without l n) n = none := by
  unfold node without
  rw [Option.map_eq_none_iff, List.find?_eq_none]
  intro p hp
  have := (List.mem_filter.1 hp).2
  simpa using this
theorem node_without_other {l : Dir} {n m : Bs} (h : m ≠ n) : node (without l n) m = node l m := by
  unfold node without
  congr 1
  rw [List.find?_filter]
  congr 1
  funext p
  by_cases hp : p.1 = m
  · have h1 : (p.1 == m) = true := by rw [hp]; simp
    have h2 : (p.1 != n) = true := by rw [hp]; simpa using h
    rw [h1, h2]; simp
  · have h1 : (p.1 == m) = false := by rw [beq_eq_false_iff_ne]; exact hp
    rw [h1]; simp
theorem node_put_same {l : Dir} {n : Bs} {i : Nat} : node (without l n ++ [(n, i)]) n = some i := by
  have h := node_without_same l n
  unfold node at h ⊢
  rw [Option.map_eq_none_iff] at h
  rw [List.find?_append, h]
  simp
theorem node_put_other {l : Dir} {n m : Bs} {i : Nat} (h : m ≠ n) : node (without l n ++ [(n, i)]) m = node l m := by
  rw [← node_without_other (l := l) h]
  unfold node
  rw [List.find?_append]
  have : [(n, i)].find? (fun p => p.1 == m) = none := by simp [Ne.symm h]
  rw [this, Option.or_none]
theorem len_without {l : Dir} (h : (l.map (·.1)).Nodup) (n : Bs) : (without l n).length + (if (node l n).isSome then 1 else 0) = l.length := by
  induction l with
  | nil => simp [without, node]
  | cons p l ih =>
    rw [List.map_cons, List.nodup_cons] at h
    have ih := ih h.2
    by_cases hp : p.1 = n
    · have hn : node l n = none := by
        cases hc : node l n with
        | none => rfl
        | some i => exact absurd (List.mem_map.2 ⟨_, node_some hc, rfl⟩) (by rw [← hp]; exact h.1)
      rw [hn] at ih
      have h1 : without (p :: l) n = without l n := by simp [without, hp]
      have h2 : node (p :: l) n = some p.2 := by simp [node, hp]
      rw [h1, h2]
      simp at ih ⊢
      omega
    · have h1 : without (p :: l) n = p :: without l n := by simp [without, hp]
      have h2 : node (p :: l) n = node l n := by
        unfold node
        rw [List.find?_cons]
        have : (p.1 == n) = false := by rw [beq_eq_false_iff_ne]; exact hp
        rw [this]
      rw [h1, h2, List.length_cons, List.length_cons]
      omega
theorem Rep.nil (fid : Nat → Nat) : Rep fid (.map []) [] := ⟨tidy_empty, rfl, fun n => rfl, fun n i h => by cases h⟩
theorem Rep.del {fid : Nat → Nat} {D : DataW Unit} {l : Dir} (h : Rep fid D l) (hl : (l.map (·.1)).Nodup) (n : Bs) : Rep fid (D.del (strL n)) (without l n) := by
  refine ⟨h.map.del _, ?_, ?_, ?_⟩
  · have h1 := size_del (k := strL n) h.map
    have h2 := len_without hl n
    rw [h.has, h.size] at h1
    split at h1 <;> rename_i hc <;> simp only [hc, if_true] at h2 <;> first | omega | (simp at h2; omega)
  · intro m
    by_cases hm : m = n
    · subst hm; rw [has_del_same, node_without_same]; rfl
    · rw [has_del_other (strL_ne hm), node_without_other hm, h.has]
  · intro m i hi z
    by_cases hm : m = n
    · subst hm; rw [node_without_same] at hi; cases hi
    · rw [node_without_other hm] at hi
      rw [atKey_del_other (strL_ne hm), h.at_ m i hi]
theorem Rep.put {fid : Nat → Nat} {D : DataW Unit} {l : Dir} (h : Rep fid D l) (hl : (l.map (·.1)).Nodup) (n : Bs) (i : Nat) : Rep fid (D.put (strL n) (.lit (.int .i64 (fid i)))) (without l n ++ [(n, i)]) := by
  refine ⟨h.map.put (strL_key n) _, ?_, ?_, ?_⟩
  · have h1 := size_put (k := strL n) h.map (.lit (.int .i64 (fid i)))
    have h2 := len_without hl n
    rw [h.has, h.size] at h1
    rw [h1, List.length_append, List.length_singleton]
    split <;> rename_i hc <;> simp only [hc, if_true] at h2 <;> first | omega | (simp at h2; omega)
  · intro m
    by_cases hm : m = n
    · subst hm; rw [has_put_same h.map.isMap (strL_key m), node_put_same]; rfl
    · rw [has_put_other (strL_ne hm), node_put_other hm, h.has]
  · intro m j hj z
    by_cases hm : m = n
    · subst hm
      rw [node_put_same] at hj
      cases hj
      rw [atKey_put_same h.map.isMap (strL_key m)]
    · rw [node_put_other hm] at hj
      rw [atKey_put_other (strL_ne hm), h.at_ m j hj]
theorem Rep.fids {f g : Nat → Nat} {D : DataW Unit} {l : Dir} (h : Rep f D l) (he : ∀ p ∈ l, f p.2 = g p.2) : Rep g D l :=
  ⟨h.map, h.size, h.has, fun n i hi z => by rw [h.at_ n i hi, he _ (node_some hi)]⟩
end Go.Fsy
