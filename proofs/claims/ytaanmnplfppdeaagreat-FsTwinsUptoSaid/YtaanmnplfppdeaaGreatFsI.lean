/- Layer 1: a directory's names, in order: the walk. -/
import Derived.Test.YtaanmnplfppdeaaGreatFsSh
namespace Go.Fsy
open Go.Maps Go.Sort
theorem perm_of_sub {α : Type} [BEq α] [LawfulBEq α] : ∀ {a b : List α}, a.Nodup → (∀ x ∈ a, x ∈ b) → b.length ≤ a.length → a.Perm b
  | [], b, _, _, hl => by
    have : b = [] := List.eq_nil_of_length_eq_zero (by simpa using hl)
    rw [this]
  | x :: a, b, hn, hs, hl => by
    have hx : x ∈ b := hs x List.mem_cons_self
    have hp := List.perm_cons_erase hx
    rw [List.nodup_cons] at hn
    have hle := hp.length_eq
    rw [List.length_cons] at hle hl
    refine ((perm_of_sub (b := b.erase x) hn.2 (fun y hy => ?_) (by omega)).cons x).trans hp.symm
    exact (List.mem_erase_of_ne (fun e => hn.1 (by rw [← e]; exact hy))).2 (hs y (List.mem_cons_of_mem _ hy))
theorem strKeys_perm {fid : Nat → Nat} {D : DataW Unit} {l : Dir} (h : Rep fid D l) (hl : (l.map (·.1)).Nodup) : (l.map (·.1)).Perm (strKeys D) := by
  obtain ⟨es, rfl⟩ := h.map.isMap
  have hs := h.size
  rw [size_eq] at hs
  refine perm_of_sub hl (fun x hx => ?_) (by simp [strKeys, hs])
  obtain ⟨p, hp, rfl⟩ := List.mem_map.1 hx
  have hn := node_of_mem hl (show (p.1, p.2) ∈ l from hp)
  have hh := h.has p.1
  rw [hn, has_eq] at hh
  obtain ⟨q, hq, hk⟩ := List.any_eq_true.1 (show es.any (fun q => q.1.sameKey (strL p.1)) = true from hh)
  have : q.1 = strL p.1 := WideAt.sameKey_eq hk
  exact List.mem_map.2 ⟨q, hq, by rw [this]; rfl⟩
theorem namesOf_len (l : Dir) : (namesOf l).length = l.length := by simp [namesOf]
end Go.Fsy
namespace Go.Proofs.YtaanmnplfppdeaaGreat
open Go.RowKit Go.Lec Go.Fsy Go.Op Go.Maps Go.Sort
/-- What names answers. -/
def NamesP (w : World) (l : Dir) (e : Ending) (w' : World) : Prop := ∃ A c, e = .returned (.slice A l.length c) ∧ l.length ≤ c ∧ RdP (fun b => w.heap.size ≤ b) w' A l.length ((namesOf l).map svl) ∧ Below w.heap.size w w'
set_option maxRecDepth 40000 in
set_option maxHeartbeats 800000 in
theorem c_names (w : World) {b k : Nat} {D : DataW Unit} {fid : Nat → Nat} {l : Dir} (hm : w.ownsMap Tryz.prog 9 ptrR b k D) (hr : Rep fid D l) (hl : (l.map (·.1)).Nodup) (hn : l.length ≤ 1099511627776) :
    Calls Tryz.prog 34 #[.map (some b)] w (NamesP w l) := by
  have hK := (callsIn_wide (n := 5)).1 (Tryz.maps_Keys_69 (some b) w)
  have hS := (callsIn_wide (n := 5)).1 (Tryz.slices_Sorted_keys_68_69 b k D ptrR w hm (by rw [hr.size]; unfold maxLen; omega) (by rw [hr.size]; omega))
  have HS := Lib.hid (hS.mono (R' := fun e w' => ∃ A c, e = .returned (.slice A l.length c) ∧ l.length ≤ c ∧ RdP (fun b => w.heap.size ≤ b) w' A l.length ((namesOf l).map svl) ∧ Below (w.alloc (.cells #[.map (some b)] 70)).heap.size (w.alloc (.cells #[.map (some b)] 70)) w') (by
    rintro e w' ⟨v, ss, rfl, hp, ho, _, hb⟩
    have hps := hp.trans (strKeys_perm hr hl).symm
    have hlen : ss.length = l.length := by have := hps.length_eq; simpa using this
    have hms : ss.mergeSort (fun x y => decide (x ≤ y)) = namesOf l := mergeSort_of_perm hps
    rw [hlen] at ho
    rw [hms] at ho
    have ho1 : OwnK w' _ 9 1 v l.length ((namesOf l).map svl) := ho
    obtain ⟨A, c, rfl, hc⟩ := ho1.shape
    refine ⟨A, c, rfl, hc, ?_, hb⟩
    exact (RdP.new_ ho1).more (fun b h => by simp at h; omega)))
  have hb0 := (Below.refl w.heap.size w).alloc (Nat.le_refl _) (.cells #[.map (some b)] 70)
  have HK := Lib.hid hK
  clear hK hS hm hr hl hn
  go_enter Tryz.func34, Tryz.ntmps34
  go_wp2_with (first | (go_at_call 69; (with_reducible refine HK.out.mono ?_); rintro e w1 ⟨rfl, rfl⟩) | (go_at_call 68; (with_reducible refine HS.out.mono ?_); rintro e w2 ⟨A2, c2, rfl, hc2, hR2, hb2⟩))
  go_ret
  exact ⟨_, _, rfl, hc2, hR2, hb0.trans (hb2.mono hb0.size)⟩
end Go.Proofs.YtaanmnplfppdeaaGreat
