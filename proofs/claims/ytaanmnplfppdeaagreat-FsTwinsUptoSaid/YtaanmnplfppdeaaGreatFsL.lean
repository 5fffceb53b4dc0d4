/- Layer 1: maps.Clone at a directory's map: the walk. -/
import Derived.Test.YtaanmnplfppdeaaGreatFsC
import Derived.Shelf.SlMaps.Clone
namespace Go.Proofs.YtaanmnplfppdeaaGreat
open Go.RowKit Go.Lec Go.Fsy Go.Op Go.Maps
set_option maxRecDepth 40000 in
set_option maxHeartbeats 800000 in
theorem c_mapClone (w : World) {b k : Nat} {D : DataW Unit} (hm : w.ownsMap Tryz.prog 9 ptrR b k D) :
    Calls Tryz.prog 41 #[.map (some b)] w fun e w' => e = .returned (.map (some w.heap.size)) ∧ w'.ownsMap Tryz.prog 9 ptrR w.heap.size k D ∧ Below w.heap.size w w' := by
  obtain ⟨es, clock, hb, F, hs, hD⟩ := hm
  have hq := fun w => run_eql_map_nil_sl (P := Tryz.prog) w 70 _ _ (some b) Tryz.underlying70
  have hB : Below w.heap.size w (w.alloc (.map es clock)) := (Below.refl _ w).alloc (Nat.le_refl _) _
  have HN := Lib.hid (show (w.alloc (.map es clock)).ownsMap Tryz.prog 9 ptrR w.heap.size k D from ⟨es, clock, (MapKept.heap_alloc w _).1, F, hs, hD⟩)
  clear F hs hD
  go_enter Tryz.func41, Tryz.ntmps41
  go_wp2
  rw [run_callFunc_extern Tryz.func77 (by kernel_rfl) (by kernel_rfl) (by kernel_rfl) (e := Extern.MapsClone.clone) (by kernel_rfl), run_maps_clone_sl w 70 hb]
  simp only [Result.andThen]
  rw [Oper.upon_value]
  go_wp2
  rw [run_typeAssert_map_sl _ 70 20 _ _ _ Tryz.underlying70]
  simp only [Result.andThen]
  rw [Oper.upon_value]
  go_wp2
  go_ret
  exact ⟨rfl, HN.out, hB⟩
end Go.Proofs.YtaanmnplfppdeaaGreat
