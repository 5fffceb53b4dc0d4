/- Layer 1: a directory's names, in order: the walk. -/
import Derived.Test.YtgilnjngphhhlaaGreatFsSh
import Derived.Deep.QuietTactic
import Derived.BigQuiet
import Derived.Test.YtgilnjngphhhlaaGreatFsC
import Derived.Shelf.SlMaps.Clone
namespace Go.Fsy
open Go.Maps Go.Sort
theorem perm_of_sub {α : Type} [BEq α] [LawfulBEq α] : ∀ {a b : List α}, a.Nodup → (∀ x ∈ a, x ∈ b) → b.length ≤ a.length → a.Perm b
  | [], b, _, _, hl => by
    have : b = [] := List.eq_nil_of_length_eq_zero (by simpa using hl)
    rw [this]
  | x :: a, b, hn, hs, hl => by
    have hx : x ∈ b := hs x List.mem_cons_self
    have hp := List.perm_cons_erase hx
    rw [List.nodup_cons] at hn
    have hle := hp.length_eq
    rw [List.length_cons] at hle hl
    refine ((perm_of_sub (b := b.erase x) hn.2 (fun y hy => ?_) (by omega)).cons x).trans hp.symm
    exact (List.mem_erase_of_ne (fun e => hn.1 (by rw [← e]; exact hy))).2 (hs y (List.mem_cons_of_mem _ hy))
theorem strKeys_perm {fid : Nat → Nat} {D : DataW Unit} {l : Dir} (h : Rep fid D l) (hl : (l.map (·.1)).Nodup) : (l.map (·.1)).Perm (strKeys D) := by
  obtain ⟨es, rfl⟩ := h.map.isMap
  have hs := h.size
  rw [size_eq] at hs
  refine perm_of_sub hl (fun x hx => ?_) (by simp [strKeys, hs])
  obtain ⟨p, hp, rfl⟩ := List.mem_map.1 hx
  have hn := node_of_mem hl (show (p.1, p.2) ∈ l from hp)
  have hh := h.has p.1
  rw [hn, has_eq] at hh
  obtain ⟨q, hq, hk⟩ := List.any_eq_true.1 (show es.any (fun q => q.1.sameKey (strL p.1)) = true from hh)
  have : q.1 = strL p.1 := WideAt.sameKey_eq hk
  exact List.mem_map.2 ⟨q, hq, by rw [this]; rfl⟩
theorem namesOf_len (l : Dir) : (namesOf l).length = l.length := by simp [namesOf]
end Go.Fsy
namespace Go.Proofs.YtgilnjngphhhlaaGreat
open Go.RowKit Go.Lec Go.Fsy Go.Op Go.Maps Go.Sort
/-- What names answers. -/
def NamesP (w : World) (l : Dir) (e : Ending) (w' : World) : Prop := ∃ A c, e = .returned (.slice A l.length c) ∧ l.length ≤ c ∧ RdP (fun b => w.heap.size ≤ b) w' A l.length ((namesOf l).map svl) ∧ Below w.heap.size w w'
set_option maxRecDepth 40000 in
set_option maxHeartbeats 800000 in
theorem c_names (w : World) {b k : Nat} {D : DataW Unit} {fid : Nat → Nat} {l : Dir} (hm : w.ownsMap Tryz.prog 9 ptrR b k D) (hr : Rep fid D l) (hl : (l.map (·.1)).Nodup) (hn : l.length ≤ 1099511627776) :
    Calls Tryz.prog 48 #[.map (some b)] w (NamesP w l) := by
  have hK := (callsIn_wide (n := 5)).1 (Tryz.maps_Keys_60 (some b) w)
  have hS := (callsIn_wide (n := 5)).1 (Tryz.slices_Sorted_keys_59_60 b k D ptrR w hm (by rw [hr.size]; unfold maxLen; omega) (by rw [hr.size]; omega))
  have HS := Lib.hid (hS.mono (R' := fun e w' => ∃ A c, e = .returned (.slice A l.length c) ∧ l.length ≤ c ∧ RdP (fun b => w.heap.size ≤ b) w' A l.length ((namesOf l).map svl) ∧ Below (w.alloc (.cells #[.map (some b)] 66)).heap.size (w.alloc (.cells #[.map (some b)] 66)) w') (by
    rintro e w' ⟨v, ss, rfl, hp, ho, _, hb⟩
    have hps := hp.trans (strKeys_perm hr hl).symm
    have hlen : ss.length = l.length := by have := hps.length_eq; simpa using this
    have hms : ss.mergeSort (fun x y => decide (x ≤ y)) = namesOf l := mergeSort_of_perm hps
    rw [hlen] at ho
    rw [hms] at ho
    have ho1 : OwnK w' _ 9 1 v l.length ((namesOf l).map svl) := ho
    obtain ⟨A, c, rfl, hc⟩ := ho1.shape
    refine ⟨A, c, rfl, hc, ?_, hb⟩
    exact (RdP.new_ ho1).more (fun b h => by simp at h; omega)))
  have hb0 := (Below.refl w.heap.size w).alloc (Nat.le_refl _) (.cells #[.map (some b)] 66)
  have HK := Lib.hid hK
  clear hK hS hm hr hl hn
  go_enter Tryz.func48, Tryz.ntmps48
  go_wp2_with (first | (go_at_call 60; (with_reducible refine HK.out.mono ?_); rintro e w1 ⟨rfl, rfl⟩) | (go_at_call 59; (with_reducible refine HS.out.mono ?_); rintro e w2 ⟨A2, c2, rfl, hc2, hR2, hb2⟩))
  go_ret
  exact ⟨_, _, rfl, hc2, hR2, hb0.trans (hb2.mono hb0.size)⟩
end Go.Proofs.YtgilnjngphhhlaaGreat
/- Layer 1: what a death needs: the next number; a map keyed by files. -/
namespace Go.Fsy
theorem keepAt_of {l : List Int} (h : l.length ≠ 0) (i : Nat) : keepAt l i = l.getD (i % l.length) 0 := by rw [keepAt, if_neg h]
end Go.Fsy
namespace Go.Proofs.YtgilnjngphhhlaaGreat
open Go.RowKit Go.Lec Go.Fsy Go.Op Go.Maps
/-- What the next number leaves. -/
def NextP (w : World) (ab : Nat) (l : List Int) (i : Nat) (e : Ending) (w' : World) : Prop := e = .returned (.int .i64 (keepAt l i)) ∧ Bk w' ab 3 #[.int .i64 (adv l i : Nat)] ∧ KbP (fun b => b = ab) w w'
set_option maxRecDepth 40000 in
set_option maxHeartbeats 800000 in
theorem c_next (w : World) {fb ab pb cK i : Nat} {AK : Option Addr} {l : List Int} (q0 : w.cell? ⟨pb, 0, none⟩ = some (.pointer (some ⟨fb, 0, none⟩))) (q2 : w.cell? ⟨fb, 2, none⟩ = some (.slice AK l.length cK)) (hr : Rd w w.heap.size AK l.length (ics l)) (hA : Bk w ab 3 #[.int .i64 (i : Int)]) (hi : i ≤ 2199023255552) (hl : l.length ≤ 1099511627776) :
    Calls Tryz.prog 45 #[.pointer (some ⟨pb, 0, none⟩), .pointer (some ⟨ab, 0, none⟩)] w (NextP w ab l i) := by
  have qa := hA.cell 0
  have za := hA.frz 0
  obtain ⟨n, hn⟩ : ∃ n, n = l.length := ⟨_, rfl⟩
  by_cases h0 : n = 0
  · have hk : keepAt l i = 0 := by rw [keepAt, if_pos (by omega)]
    have ha : adv l i = i := by rw [adv, if_pos (by omega)]
    have Hk := Lib.hid hk
    have Ha := Lib.hid ha
    rw [← hn, h0] at q2
    clear hr hk ha hn h0
    go_enter Tryz.func45, Tryz.ntmps45
    go_wp2
    go_ret
    exact ⟨by rw [Hk.out]; rfl, by rw [Ha.out]; exact hA, KbP.refl _ _⟩
  · have hk := keepAt_of (l := l) (by omega) i
    have ha : adv l i = i + 1 := by rw [adv, if_neg (by omega)]
    have hlt : i % n < n := Nat.mod_lt _ (by omega)
    obtain ⟨r, hrr⟩ : ∃ r, r = i % n := ⟨_, rfl⟩
    rw [← hn, ← hrr] at hk
    rw [← hrr] at hlt
    obtain ⟨b, o, rfl, _, qe⟩ := hr.int (k := r) (by omega)
    have hm : (i : Int) % (n : Int) = (r : Int) := by rw [hrr, Int.natCast_emod]
    have hz : ((n : Int) == 0) = false := by rw [beq_eq_false_iff_ne]; omega
    rw [← hk] at qe
    obtain ⟨kv, hkv⟩ : ∃ kv, kv = keepAt l i := ⟨_, rfl⟩
    rw [← hkv] at qe
    have Hkv := Lib.hid hkv
    have Ha := Lib.hid ha
    have Hm := Lib.hid hm
    rw [← hn] at q2
    have i1 : (0 : Int) ≤ (r : Int) := by omega
    have i2 : (r : Int) < (n : Int) := by omega
    clear hr hk ha hn hrr hkv
    go_enter Tryz.func45, Tryz.ntmps45
    go_wp2
    go_quiet (fail)
    go_wp2
    go_ret
    exact ⟨by rw [← Hkv.out]; rfl, by rw [Ha.out]; exact (hA.drewN _).set_ 0 _, ((KbP.refl (fun b => b = ab) w).drewN _).setCell (p := ⟨ab, 0, none⟩) (.inl rfl) _⟩
end Go.Proofs.YtgilnjngphhhlaaGreat
/- Layer 1: maps.Clone at a directory's map: the walk. -/
namespace Go.Proofs.YtgilnjngphhhlaaGreat
open Go.RowKit Go.Lec Go.Fsy Go.Op Go.Maps
set_option maxRecDepth 40000 in
set_option maxHeartbeats 800000 in
theorem c_mapClone (w : World) {b k : Nat} {D : DataW Unit} (hm : w.ownsMap Tryz.prog 9 ptrR b k D) :
    Calls Tryz.prog 43 #[.map (some b)] w fun e w' => e = .returned (.map (some w.heap.size)) ∧ w'.ownsMap Tryz.prog 9 ptrR w.heap.size k D ∧ Below w.heap.size w w' := by
  obtain ⟨es, clock, hb, F, hs, hD⟩ := hm
  have hq := fun w => run_eql_map_nil_sl (P := Tryz.prog) w 66 _ _ (some b) Tryz.underlying66
  have hB : Below w.heap.size w (w.alloc (.map es clock)) := (Below.refl _ w).alloc (Nat.le_refl _) _
  have HN := Lib.hid (show (w.alloc (.map es clock)).ownsMap Tryz.prog 9 ptrR w.heap.size k D from ⟨es, clock, (MapKept.heap_alloc w _).1, F, hs, hD⟩)
  clear F hs hD
  go_enter Tryz.func43, Tryz.ntmps43
  go_wp2
  rw [run_callFunc_extern Tryz.func58 (by kernel_rfl) (by kernel_rfl) (by kernel_rfl) (e := Extern.MapsClone.clone) (by kernel_rfl), run_maps_clone_sl w 66 hb]
  simp only [Result.andThen]
  rw [Oper.upon_value]
  go_wp2
  rw [run_typeAssert_map_sl _ 66 20 _ _ _ Tryz.underlying66]
  simp only [Result.andThen]
  rw [Oper.upon_value]
  go_wp2
  go_ret
  exact ⟨rfl, HN.out, hB⟩
end Go.Proofs.YtgilnjngphhhlaaGreat
