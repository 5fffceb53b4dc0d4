/- Maps keyed by pointers: what a look-up finds, what a store leaves. Nothing here speaks of the program. -/
import Derived.Test.YtgilnjngphhhlaaGreatFsMem
import Derived.LaidEqlPtr
import Derived.MapKept
namespace Go.Lec
open Go.RowKit Go.Fsy
/-- Block b is a map whose entries are these, in this order: pointers to blocks, and values. -/
def KmP (w : World) (b : Nat) (L : List (Nat × Value)) : Prop := ∃ es clock, w.heap[b]? = some (.map es clock) ∧ es.toList.map (fun e => (e.key, e.val)) = L.map (fun p => (Value.pointer (some ⟨p.1, 0, none⟩), p.2))
/-- Blocks that are plain cells. -/
def plainB (w : World) (b : Nat) : Prop := ∃ cs t, w.heap[b]? = some (.cells cs t (0, 0))
theorem KmP.kbP {X : Nat → Prop} {w w' : World} {b : Nat} {L : List (Nat × Value)} (h : KmP w b L) (hk : KbP X w w') (hX : ¬ X b) : KmP w' b L := by
  obtain ⟨es, clock, hb, he⟩ := h
  exact ⟨es, clock, (hk.block b (Array.getElem?_eq_some_iff.1 hb).1 hX).trans hb, he⟩
theorem KmP.lt {w : World} {b : Nat} {L : List (Nat × Value)} (h : KmP w b L) : b < w.heap.size := by
  obtain ⟨es, clock, hb, he⟩ := h
  exact (Array.getElem?_eq_some_iff.1 hb).1
theorem KmP.new_ (w : World) : KmP (w.alloc (.map #[] 0)) w.heap.size [] := ⟨#[], 0, (MapKept.heap_alloc w _).1, rfl⟩
def findP : List (Nat × Value) → Nat → Nat → Option (Nat × Value)
  | [], _, _ => none
  | p :: L, x, i => if x = p.1 then some (i, p.2) else findP L x (i + 1)
def valP (L : List (Nat × Value)) (x : Nat) : Option Value := (L.find? fun p => p.1 == x).map (·.2)
theorem findP_val : ∀ (L : List (Nat × Value)) (x i : Nat), (findP L x i).map (·.2) = valP L x
  | [], _, _ => rfl
  | p :: L, x, i => by
    rw [findP]
    by_cases h : x = p.1
    · rw [if_pos h]; simp [valP, h]
    · rw [if_neg h, findP_val L x (i + 1)]
      have : (p.1 == x) = false := by rw [beq_eq_false_iff_ne]; exact Ne.symm h
      simp [valP, this]
section
variable {P : Program} {w : World} {t k e te : TypeId} {j : TypeInfo}
theorem run_equal_ptr (hp : P.underlying k = some (.pointer te)) (hte : P.info? te = some j) (hsz : j.size ≠ 0) {a b : Nat} (ha : plainB w a) (hb : plainB w b) :
    (Op.equal k (.pointer (some ⟨a, 0, none⟩)) (.pointer (some ⟨b, 0, none⟩))).run P w = .ok (decide (a = b)) w := by
  obtain ⟨ca, ta, ha⟩ := ha
  obtain ⟨cb, tb, hb⟩ := hb
  by_cases h : a = b
  · subst h
    have h : ∀ d : Nat, (Op.equalIn (d + 1) k (.pointer (some ⟨a, 0, none⟩)) (.pointer (some ⟨a, 0, none⟩))).run P w = .ok true w := fun d => by
      simp [Op.equalIn, run_underlying hp, sizeOf, typeInfo, hte, run_sameAddr_same]
    simp [Op.equal, Op.maxDepth, h 9999]
  · have h1 : (⟨a, 0, none⟩ : Addr) ≠ ⟨b, 0, none⟩ := fun e => h (by injection e)
    have h2 : ∀ d : Nat, (Op.equalIn (d + 1) k (.pointer (some ⟨a, 0, none⟩)) (.pointer (some ⟨b, 0, none⟩))).run P w = .ok false w := fun d => by
      simp [Op.equalIn, run_underlying hp, sizeOf, typeInfo, hte, hsz, run_sameAddr_other w h1 ha hb]
    simp [Op.equal, Op.maxDepth, h2 9999, h]
theorem run_findAsking (hp : P.underlying k = some (.pointer te)) (hte : P.info? te = some j) (hsz : j.size ≠ 0) {x : Nat} (hx : plainB w x) :
    ∀ (l : List MapEntry) (L : List (Nat × Value)) (i : Nat), l.map (fun e => (e.key, e.val)) = L.map (fun p => (Value.pointer (some ⟨p.1, 0, none⟩), p.2)) → (∀ p ∈ L, plainB w p.1) → (Instr.findAsking k (.pointer (some ⟨x, 0, none⟩)) l i).run P w = .ok (findP L x i) w
  | [], [], i, _, _ => rfl
  | [], p :: L, i, h, _ => by simp at h
  | m :: l, [], i, h, _ => by simp at h
  | m :: l, p :: L, i, h, hL => by
    simp only [List.map_cons, List.cons.injEq, Prod.mk.injEq] at h
    have hr := run_findAsking hp hte hsz hx l L (i + 1) h.2 (fun q hq => hL q (List.mem_cons_of_mem _ hq))
    have he := run_equal_ptr (w := w) hp hte hsz hx (hL p List.mem_cons_self)
    rw [Instr.findAsking, findP]
    simp only [h.1.1, h.1.2, Sem.run_bind, he, Result.andThen_ok]
    by_cases hxp : x = p.1
    · simp [hxp]
    · simp [hxp, hr]
theorem run_findKey_ptr (hp : P.underlying k = some (.pointer te)) (hte : P.info? te = some j) (hsz : j.size ≠ 0) {x : Nat} (hx : plainB w x) {l : List MapEntry} {L : List (Nat × Value)} (h : l.map (fun e => (e.key, e.val)) = L.map (fun p => (Value.pointer (some ⟨p.1, 0, none⟩), p.2))) (hL : ∀ p ∈ L, plainB w p.1) :
    (Instr.findKey k (.pointer (some ⟨x, 0, none⟩)) l).run P w = .ok (findP L x 0) w := by
  have hr := run_findAsking hp hte hsz hx l L 0 h hL
  cases l with
  | nil =>
    cases L with
    | nil => simp [Instr.findKey, run_underlying hp, Instr.findNow, findP]
    | cons p L => simp at h
  | cons m l =>
    cases L with
    | nil => simp at h
    | cons p L =>
      simp only [List.map_cons, List.cons.injEq, Prod.mk.injEq] at h
      have hn : Instr.findNow (.pointer te) (.pointer (some ⟨x, 0, none⟩)) (m :: l) 0 = none := by
        simp [Instr.findNow, Instr.sameNow]
      simp [Instr.findKey, run_underlying hp, hn, hr]
theorem run_lookup_ptr (hm : P.underlying t = some (.map k e)) (hp : P.underlying k = some (.pointer te)) (hte : P.info? te = some j) (hsz : j.size ≠ 0) {z : Value} (hz : (zeroValue e).run P w = .ok z w) {b x : Nat} {L : List (Nat × Value)} (h : KmP w b L) (hx : plainB w x) (hL : ∀ p ∈ L, plainB w p.1) :
    (Instr.lookup t (.map (some b)) (.pointer (some ⟨x, 0, none⟩)) false).run P w = .ok ((valP L x).getD z) w := by
  obtain ⟨es, clock, hb, he⟩ := h
  have hf := run_findKey_ptr hp hte hsz hx he hL
  have hck : ∀ em : Bool, (Instr.checkKey em 10000 k (.pointer (some ⟨x, 0, none⟩))).run P w = .ok () w := fun em => by
    rw [show (10000 : Nat) = 9999 + 1 from rfl, Instr.checkKey]
    simp [run_underlying hp]
  rw [← findP_val L x 0]
  simp [Instr.lookup, run_underlying hm, MapKept.run_getObj_map hb, hck, hf]
  cases findP L x 0 with
  | none => simp [hz]
  | some r => simp
theorem run_store_ptr (hm : P.underlying t = some (.map k e)) (hp : P.underlying k = some (.pointer te)) (hte : P.info? te = some j) (hsz : j.size ≠ 0) {b x : Nat} {L : List (Nat × Value)} {v : Value} (h : KmP w b L) (hx : plainB w x) (hL : ∀ p ∈ L, plainB w p.1) (hn : valP L x = none) :
    ∃ w', (Instr.mapUpdate t (.map (some b)) (.pointer (some ⟨x, 0, none⟩)) v).run P w = .ok () w' ∧ KmP w' b (L ++ [(x, v)]) ∧ KbP (fun q => q = b) w w' := by
  obtain ⟨es, clock, hb, he⟩ := h
  have hf := run_findKey_ptr hp hte hsz hx he hL
  have hno : findP L x 0 = none := by
    have := findP_val L x 0
    rw [hn] at this
    cases hc : findP L x 0 with
    | none => rfl
    | some r => rw [hc] at this; cases this
  have hck : (Instr.checkKey false 10000 k (.pointer (some ⟨x, 0, none⟩))).run P w = .ok () w := by
    rw [show (10000 : Nat) = 9999 + 1 from rfl, Instr.checkKey]
    simp [run_underlying hp]
  refine ⟨{ w with heap := w.heap.setIfInBounds b (.map (es.push { key := .pointer (some ⟨x, 0, none⟩), val := v, born := clock }) (clock + 1)) }, ?_, ?_, ?_⟩
  · simp [Instr.mapUpdate, run_underlying hm, MapKept.run_getObj_map hb, hck, hf, hno, MapKept.run_setObj_map _ hb]
  · have hlt := (Array.getElem?_eq_some_iff.1 hb).1
    refine ⟨es.push { key := .pointer (some ⟨x, 0, none⟩), val := v, born := clock }, clock + 1, by simp [hlt], ?_⟩
    rw [Array.toList_push, List.map_append, he, List.map_append]
    rfl
  · refine ⟨rfl, rfl, rfl, by simp, fun q hq hn => ?_⟩
    simp [Ne.symm hn]
end
end Go.Lec
