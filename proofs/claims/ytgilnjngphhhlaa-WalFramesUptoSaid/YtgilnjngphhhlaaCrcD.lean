/- Layer 3: the table is made, once: the slow road, and the quick one. -/
import Derived.Test.YtgilnjngphhhlaaCrcC
import Derived.Laws.NewBlocks
namespace Go.Proofs.Ytgilnjngphhhlaa
open Go.RowKit Go.Lec

theorem c_Load0 (w : World) (a : Addr) (hc : w.cell? a = some (.int .u32 0)) : Calls Try.prog 33 #[.pointer (some a)] w fun e w' => e = .returned (.bool false) ∧ w' = w := by
  have hl := run_call_load (P := Try.prog) Try.func36 (by kernel_rfl) (by kernel_rfl) (by kernel_rfl) .u32 (by kernel_rfl) (w := w) (a := a) (x := 0) hc
  go_enter Try.func33, Try.ntmps33
  go_wp2
  go_ret
  exact ⟨rfl, rfl⟩
theorem c_Load1 (w : World) (a : Addr) (hc : w.cell? a = some (.int .u32 1)) : Calls Try.prog 33 #[.pointer (some a)] w fun e w' => e = .returned (.bool true) ∧ w' = w := by
  have hl := run_call_load (P := Try.prog) Try.func36 (by kernel_rfl) (by kernel_rfl) (by kernel_rfl) .u32 (by kernel_rfl) (w := w) (a := a) (x := 1) hc
  go_enter Try.func33, Try.ntmps33
  go_wp2
  go_ret
  exact ⟨rfl, rfl⟩

/-- What the slow road leaves. -/
def MadePost (w : World) (b : Nat) (cs : Array Value) (e : Ending) (w' : World) : Prop :=
  e = .returned (.tuple #[]) ∧ Kb [b] w w' ∧ ∃ cs', Bk w' b 63 cs' ∧ tabTo cs' 256 ∧ cs'[0]? = cs[0]? ∧ cs'[1]? = some (.int .u32 1) ∧ cs'[2]? = some (.int .i32 0)

set_option maxRecDepth 100000 in
set_option maxHeartbeats 1600000 in
theorem c_doSlow (w : World) (b : Nat) (cs : Array Value) (m : Int) (hm : 0 ≤ m ∧ m ≤ 1000) (hB : Bk w b 63 cs) (hs : cs.size = 261) (h1 : cs[1]? = some (.int .u32 0)) (h2 : cs[2]? = some (.int .i32 0)) (h4 : cs[4]? = some (.int .i32 m)) :
    Calls Try.prog 34 #[.pointer (some ⟨b, 1, none⟩), .func (.func 31) #[.pointer (some ⟨b, 0, none⟩)] #[]] w (MadePost w b cs) := by
  have hB1 := hB.set_ 2 (.int .i32 1)
  have e1 : (cs.setIfInBounds 2 (.int .i32 1))[1]? = some (.int .u32 0) := by rw [Array.getElem?_setIfInBounds, if_neg (by omega)]; exact h1
  have e2 : (cs.setIfInBounds 2 (.int .i32 1))[2]? = some (.int .i32 1) := by rw [Array.getElem?_setIfInBounds, if_pos rfl, if_pos (by omega)]
  have e4 : (cs.setIfInBounds 2 (.int .i32 1))[4]? = some (.int .i32 m) := by rw [Array.getElem?_setIfInBounds, if_neg (by omega)]; exact h4
  have e0 : (cs.setIfInBounds 2 (.int .i32 1))[0]? = cs[0]? := by rw [Array.getElem?_setIfInBounds, if_neg (by omega)]
  have HLd := Lib.hid (c_Load0 (w.setCell ⟨b, 2, none⟩ (.int .i32 1)) ⟨b, 1, none⟩ ((hB1.cell 1).trans e1))
  have hnot : ∀ (x : Bool) (w : World), (Op.unary .not (.bool x)).run Try.prog w = .ok (.bool (!x)) w := fun _ _ => rfl
  have HL := Lib.hid (lock_free ⟨b, 2, none⟩ w ((hB.cell 2).trans h2) (hB.frz 2))
  have HRk := Lib.hid (c_reckon (w.setCell ⟨b, 2, none⟩ (.int .i32 1)) b _ m hm hB1 (by simpa using hs) e4)
  have H1 := Lib.hid e1
  have H2 := Lib.hid e2
  have H0 := Lib.hid e0
  have HK0 : Kb [b] w (w.setCell ⟨b, 2, none⟩ (.int .i32 1)) := (Kb.refl [b] w).setCell (.inl (List.mem_singleton.2 rfl)) _
  clear hm h1 h2 h4 e0 e1 e2 e4
  go_enter_defers Try.func34, Try.ntmps34
  go_wp2_with (first
    | (go_at_call 37; refine HL.out.mono ?_; rintro e w' ⟨rfl, rfl⟩)
    | (go_at_call 33; refine HLd.out.mono ?_; rintro e w' ⟨rfl, rfl⟩)
    | (go_at_call 31; refine HRk.out.mono ?_; rintro e w2 ⟨rfl, hK, cs2, hB2, ht2, h42⟩))
  have g1 : cs2[1]? = some (.int .u32 0) := (h42 1 (by omega)).trans H1.out
  have g2 : cs2[2]? = some (.int .i32 1) := (h42 2 (by omega)).trans H2.out
  have g0 : cs2[0]? = cs[0]? := (h42 0 (by omega)).trans H0.out
  have hs2 := ht2.1
  have hB3 : Bk (w2.drew.setCell ⟨b, 1, none⟩ (.int .u32 1)) b 63 (cs2.setIfInBounds 1 (.int .u32 1)) := hB2.drew.set_ 1 _
  have g3 : (cs2.setIfInBounds 1 (.int .u32 1))[2]? = some (.int .i32 1) := by rw [Array.getElem?_setIfInBounds, if_neg (by omega)]; exact g2
  have hB4 := hB3.set_ 2 (.int .i32 0)
  go_wp2
  refine leaves_cons (f := 39) (args := #[.pointer (some ⟨b, 1, none⟩), .bool true]) (by simp) (by simp [go_sem]) ?_
  refine (store_deferred ⟨b, 1, none⟩ (.int .u32 0) .returning w2 ((hB2.cell 1).trans g1) (hB2.frz 1)).mono ?_
  rintro e u' w'' ⟨rfl, rfl, rfl⟩
  refine leaves_cons (f := 38) (args := #[.pointer (some ⟨b, 2, none⟩)]) (by simp [settle]) (by simp [go_sem]) ?_
  refine (unlock_deferred ⟨b, 2, none⟩ _ _ ((hB3.cell 2).trans g3) (hB3.frz 2)).mono ?_
  rintro e u' w'' ⟨rfl, rfl, rfl⟩
  have k1 : Kb [b] w w2 := HK0.trans hK (fun x hx => .inl hx)
  have kB : b = b ∨ w.heap.size ≤ b := .inl rfl
  have hK' : Kb [b] w ((w2.drew.setCell ⟨b, 1, none⟩ (.int .u32 1)).setCell ⟨b, 2, none⟩ (.int .i32 0)) := (k1.drew.setCell (.inl (List.mem_singleton.2 rfl)) _).setCell (.inl (List.mem_singleton.2 rfl)) _
  have hT : tabTo ((cs2.setIfInBounds 1 (.int .u32 1)).setIfInBounds 2 (.int .i32 0)) 256 := ⟨by simpa using hs2, fun j hj => by
    rw [Array.getElem?_setIfInBounds, if_neg (by omega), Array.getElem?_setIfInBounds, if_neg (by omega)]; exact ht2.2 j hj⟩
  have q0 : ((cs2.setIfInBounds 1 (.int .u32 1)).setIfInBounds 2 (.int .i32 0))[0]? = cs[0]? := by
    rw [Array.getElem?_setIfInBounds, if_neg (by omega), Array.getElem?_setIfInBounds, if_neg (by omega)]; exact g0
  have q1 : ((cs2.setIfInBounds 1 (.int .u32 1)).setIfInBounds 2 (.int .i32 0))[1]? = some (.int .u32 1) := by
    rw [Array.getElem?_setIfInBounds, if_neg (by omega), Array.getElem?_setIfInBounds, if_pos rfl, if_pos (by omega)]
  have q2 : ((cs2.setIfInBounds 1 (.int .u32 1)).setIfInBounds 2 (.int .i32 0))[2]? = some (.int .i32 0) := by
    rw [Array.getElem?_setIfInBounds, if_pos rfl, if_pos (by simp; omega)]
  have hfin : MadePost w b cs (.returned (.tuple #[])) ((w2.drew.setCell ⟨b, 1, none⟩ (.int .u32 1)).setCell ⟨b, 2, none⟩ (.int .i32 0)) := ⟨rfl, hK', _, hB4, hT, q0, q1, q2⟩
  simp [Leaves, settle, results, Try.results34]
  exact hfin
end Go.Proofs.Ytgilnjngphhhlaa
