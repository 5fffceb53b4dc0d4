/- Layer 3: the table is made, once. -/
import Derived.Test.YtgilnjngphhhlaaGreatCrcB
import Derived.Tactics
import Derived.Tactics2
import Derived.Defers
import Derived.RegionTactic
import Derived.RegionCalls
import Derived.Laws.NewBlocks
import Derived.RangeFuncNested
import Derived.RangeFuncBound
import Derived.RangeFuncCalls
import Derived.RangeFuncLeaves
import Derived.RangeFuncBox
import Derived.Shelf.Abstract
import Derived.Shelf.RegionOpen
import Derived.OwnWalkIn
import Derived.TacticsInMore
import Derived.LoopNIn
import Derived.LoopIn
namespace Go.Proofs.YtgilnjngphhhlaaGreat
open Go.RowKit Go.Lec

theorem race_disable (w : World) : (callFunc 107 #[]).run Tryz.prog w = .ok (.value (.tuple #[])) w := run_call_mark0 Tryz.func107 (by kernel_rfl) (by kernel_rfl) (by kernel_rfl) .disable (by kernel_rfl) w
theorem race_enable (w : World) : (callFunc 109 #[]).run Tryz.prog w = .ok (.value (.tuple #[])) w := run_call_mark0 Tryz.func109 (by kernel_rfl) (by kernel_rfl) (by kernel_rfl) .enable (by kernel_rfl) w
theorem race_acquire (a : Addr) (w : World) : (callFunc 110 #[.pointer (some a)]).run Tryz.prog w = .ok (.value (.tuple #[])) w := run_call_marked Tryz.func110 (by kernel_rfl) (by kernel_rfl) (by kernel_rfl) .acquire (by kernel_rfl) a w
theorem race_release (a : Addr) (w : World) : (callFunc 112 #[.pointer (some a)]).run Tryz.prog w = .ok (.value (.tuple #[])) w := run_call_marked Tryz.func112 (by kernel_rfl) (by kernel_rfl) (by kernel_rfl) .releaseMerge (by kernel_rfl) a w

/-- 'done' is stored, entered as a deferred call. -/
theorem store_deferred (a : Addr) (x : Value) (u : FrameMode) (w : World) (hc : w.cell? a = some x) (hz : w.frozen? a = false) :
    CallsD Tryz.prog 100 #[.pointer (some a), .bool true] u w fun e u' w' => u' = u ∧ (e = .returned (.tuple #[]) ∧ w' = w.drew.setCell a (.int .u32 1)) := by
  have hc' : w.drew.cell? a = some x := by go_simp
  have hz' : w.drew.frozen? a = false := by go_simp
  have hst := run_call_store (P := Tryz.prog) Tryz.func105 (by kernel_rfl) (by kernel_rfl) (by kernel_rfl) (by kernel_rfl) (k := .u32) (y := 1) hc' hz'
  go_enter_d Tryz.func100, Tryz.ntmps100
  go_wp2
  go_region_calls
  all_goals (go_end0; exact ⟨rfl, rfl⟩)

set_option maxRecDepth 20000 in
/-- The lock is let go, entered as a deferred call, nobody waiting. -/
theorem unlock_deferred (a : Addr) (u : FrameMode) (w : World) (hc : w.cell? a = some (.int .i32 1)) (hz : w.frozen? a = false) :
    CallsD Tryz.prog 99 #[.pointer (some a)] u w fun e u' w' => u' = u ∧ (e = .returned (.tuple #[]) ∧ w' = w.setCell a (.int .i32 0)) := by
  have hd := race_disable
  have he := race_enable
  have hr := race_release
  have hadd := run_call_add (P := Tryz.prog) Tryz.func101 (by kernel_rfl) (by kernel_rfl) (by kernel_rfl) .i32 (by kernel_rfl) (y := -1) (s := 0) hc hz (by simp [go_sem]; rfl)
  have hcv := run_convert_to_unsafe (P := Tryz.prog) (src := 188) (dst := 191) Tryz.underlying188 Tryz.underlying191 (by kernel_rfl) hc
  go_enter_d Tryz.func99, Tryz.ntmps99
  go_wp2
  go_end0
  go_wp2
  go_end0
  exact ⟨rfl, rfl⟩

set_option maxRecDepth 20000 in
/-- The lock is taken, being free. -/
theorem lock_free (a : Addr) (w : World) (hc : w.cell? a = some (.int .i32 0)) (hz : w.frozen? a = false) :
    Calls Tryz.prog 98 #[.pointer (some a)] w fun e w' => e = .returned (.tuple #[]) ∧ w' = w.setCell a (.int .i32 1) := by
  have hd := race_disable
  have he := race_enable
  have ha := race_acquire
  have hcas := run_call_cas_hit (P := Tryz.prog) Tryz.func108 (by kernel_rfl) (by kernel_rfl) (by kernel_rfl) .i32 (by kernel_rfl) (y := 1) hc hz
  have hc' : (w.setCell a (.int .i32 1)).cell? a = some (.int .i32 1) := World.cell?_setCell_same w a _ hc
  have hcv := run_convert_to_unsafe (P := Tryz.prog) (src := 188) (dst := 191) Tryz.underlying188 Tryz.underlying191 (by kernel_rfl) hc'
  go_enter Tryz.func98, Tryz.ntmps98
  go_wp2
  first | go_end0 | (simp only [Exit.inBlock, Exit.then]; refine bodyPost_ret (results_none rfl _ _ _) rfl ?_) | refine bodyPost_ret (results_none rfl _ _ _) rfl ?_
  go_wp2
  go_end0
  exact ⟨rfl, rfl⟩
end Go.Proofs.YtgilnjngphhhlaaGreat
/- Layer 3: the table is made, once: the slow road, and the quick one. -/
namespace Go.Proofs.YtgilnjngphhhlaaGreat
open Go.RowKit Go.Lec

theorem c_Load0 (w : World) (a : Addr) (hc : w.cell? a = some (.int .u32 0)) : Calls Tryz.prog 88 #[.pointer (some a)] w fun e w' => e = .returned (.bool false) ∧ w' = w := by
  have hl := run_call_load (P := Tryz.prog) Tryz.func97 (by kernel_rfl) (by kernel_rfl) (by kernel_rfl) .u32 (by kernel_rfl) (w := w) (a := a) (x := 0) hc
  go_enter Tryz.func88, Tryz.ntmps88
  go_wp2
  go_ret
  exact ⟨rfl, rfl⟩
theorem c_Load1 (w : World) (a : Addr) (hc : w.cell? a = some (.int .u32 1)) : Calls Tryz.prog 88 #[.pointer (some a)] w fun e w' => e = .returned (.bool true) ∧ w' = w := by
  have hl := run_call_load (P := Tryz.prog) Tryz.func97 (by kernel_rfl) (by kernel_rfl) (by kernel_rfl) .u32 (by kernel_rfl) (w := w) (a := a) (x := 1) hc
  go_enter Tryz.func88, Tryz.ntmps88
  go_wp2
  go_ret
  exact ⟨rfl, rfl⟩

/-- What the slow road leaves. -/
def MadePost (w : World) (b : Nat) (cs : Array Value) (e : Ending) (w' : World) : Prop :=
  e = .returned (.tuple #[]) ∧ Kb [b] w w' ∧ ∃ cs', Bk w' b 128 cs' ∧ tabTo cs' 256 ∧ cs'[0]? = cs[0]? ∧ cs'[1]? = some (.int .u32 1) ∧ cs'[2]? = some (.int .i32 0)

set_option maxRecDepth 100000 in
set_option maxHeartbeats 1600000 in
theorem c_doSlow (w : World) (b : Nat) (cs : Array Value) (m : Int) (hm : 0 ≤ m ∧ m ≤ 1000) (hB : Bk w b 128 cs) (hs : cs.size = 261) (h1 : cs[1]? = some (.int .u32 0)) (h2 : cs[2]? = some (.int .i32 0)) (h4 : cs[4]? = some (.int .i32 m)) :
    Calls Tryz.prog 89 #[.pointer (some ⟨b, 1, none⟩), .func (.func 75) #[.pointer (some ⟨b, 0, none⟩)] #[]] w (MadePost w b cs) := by
  have hB1 := hB.set_ 2 (.int .i32 1)
  have e1 : (cs.setIfInBounds 2 (.int .i32 1))[1]? = some (.int .u32 0) := by rw [Array.getElem?_setIfInBounds, if_neg (by omega)]; exact h1
  have e2 : (cs.setIfInBounds 2 (.int .i32 1))[2]? = some (.int .i32 1) := by rw [Array.getElem?_setIfInBounds, if_pos rfl, if_pos (by omega)]
  have e4 : (cs.setIfInBounds 2 (.int .i32 1))[4]? = some (.int .i32 m) := by rw [Array.getElem?_setIfInBounds, if_neg (by omega)]; exact h4
  have e0 : (cs.setIfInBounds 2 (.int .i32 1))[0]? = cs[0]? := by rw [Array.getElem?_setIfInBounds, if_neg (by omega)]
  have HLd := Lib.hid (c_Load0 (w.setCell ⟨b, 2, none⟩ (.int .i32 1)) ⟨b, 1, none⟩ ((hB1.cell 1).trans e1))
  have hnot : ∀ (x : Bool) (w : World), (Op.unary .not (.bool x)).run Tryz.prog w = .ok (.bool (!x)) w := fun _ _ => rfl
  have HL := Lib.hid (lock_free ⟨b, 2, none⟩ w ((hB.cell 2).trans h2) (hB.frz 2))
  have HRk := Lib.hid (c_reckon (w.setCell ⟨b, 2, none⟩ (.int .i32 1)) b _ m hm hB1 (by simpa using hs) e4)
  have H1 := Lib.hid e1
  have H2 := Lib.hid e2
  have H0 := Lib.hid e0
  have HK0 : Kb [b] w (w.setCell ⟨b, 2, none⟩ (.int .i32 1)) := (Kb.refl [b] w).setCell (.inl (List.mem_singleton.2 rfl)) _
  clear hm h1 h2 h4 e0 e1 e2 e4
  go_enter_defers Tryz.func89, Tryz.ntmps89
  go_wp2_with (first
    | (go_at_call 98; refine HL.out.mono ?_; rintro e w' ⟨rfl, rfl⟩)
    | (go_at_call 88; refine HLd.out.mono ?_; rintro e w' ⟨rfl, rfl⟩)
    | (go_at_call 75; refine HRk.out.mono ?_; rintro e w2 ⟨rfl, hK, cs2, hB2, ht2, h42⟩))
  have g1 : cs2[1]? = some (.int .u32 0) := (h42 1 (by omega)).trans H1.out
  have g2 : cs2[2]? = some (.int .i32 1) := (h42 2 (by omega)).trans H2.out
  have g0 : cs2[0]? = cs[0]? := (h42 0 (by omega)).trans H0.out
  have hs2 := ht2.1
  have hB3 : Bk (w2.drew.setCell ⟨b, 1, none⟩ (.int .u32 1)) b 128 (cs2.setIfInBounds 1 (.int .u32 1)) := hB2.drew.set_ 1 _
  have g3 : (cs2.setIfInBounds 1 (.int .u32 1))[2]? = some (.int .i32 1) := by rw [Array.getElem?_setIfInBounds, if_neg (by omega)]; exact g2
  have hB4 := hB3.set_ 2 (.int .i32 0)
  go_wp2
  refine leaves_cons (f := 100) (args := #[.pointer (some ⟨b, 1, none⟩), .bool true]) (by simp) (by simp [go_sem]) ?_
  refine (store_deferred ⟨b, 1, none⟩ (.int .u32 0) .returning w2 ((hB2.cell 1).trans g1) (hB2.frz 1)).mono ?_
  rintro e u' w'' ⟨rfl, rfl, rfl⟩
  refine leaves_cons (f := 99) (args := #[.pointer (some ⟨b, 2, none⟩)]) (by simp [settle]) (by simp [go_sem]) ?_
  refine (unlock_deferred ⟨b, 2, none⟩ _ _ ((hB3.cell 2).trans g3) (hB3.frz 2)).mono ?_
  rintro e u' w'' ⟨rfl, rfl, rfl⟩
  have k1 : Kb [b] w w2 := HK0.trans hK (fun x hx => .inl hx)
  have kB : b = b ∨ w.heap.size ≤ b := .inl rfl
  have hK' : Kb [b] w ((w2.drew.setCell ⟨b, 1, none⟩ (.int .u32 1)).setCell ⟨b, 2, none⟩ (.int .i32 0)) := (k1.drew.setCell (.inl (List.mem_singleton.2 rfl)) _).setCell (.inl (List.mem_singleton.2 rfl)) _
  have hT : tabTo ((cs2.setIfInBounds 1 (.int .u32 1)).setIfInBounds 2 (.int .i32 0)) 256 := ⟨by simpa using hs2, fun j hj => by
    rw [Array.getElem?_setIfInBounds, if_neg (by omega), Array.getElem?_setIfInBounds, if_neg (by omega)]; exact ht2.2 j hj⟩
  have q0 : ((cs2.setIfInBounds 1 (.int .u32 1)).setIfInBounds 2 (.int .i32 0))[0]? = cs[0]? := by
    rw [Array.getElem?_setIfInBounds, if_neg (by omega), Array.getElem?_setIfInBounds, if_neg (by omega)]; exact g0
  have q1 : ((cs2.setIfInBounds 1 (.int .u32 1)).setIfInBounds 2 (.int .i32 0))[1]? = some (.int .u32 1) := by
    rw [Array.getElem?_setIfInBounds, if_neg (by omega), Array.getElem?_setIfInBounds, if_pos rfl, if_pos (by omega)]
  have q2 : ((cs2.setIfInBounds 1 (.int .u32 1)).setIfInBounds 2 (.int .i32 0))[2]? = some (.int .i32 0) := by
    rw [Array.getElem?_setIfInBounds, if_pos rfl, if_pos (by simp; omega)]
  have hfin : MadePost w b cs (.returned (.tuple #[])) ((w2.drew.setCell ⟨b, 1, none⟩ (.int .u32 1)).setCell ⟨b, 2, none⟩ (.int .i32 0)) := ⟨rfl, hK', _, hB4, hT, q0, q1, q2⟩
  simp [Leaves, settle, results, Tryz.results89]
  exact hfin
end Go.Proofs.YtgilnjngphhhlaaGreat
/- Layer 3: a table is made; it is ready. -/
namespace Go.Lec
open Go.RowKit
/-- A bytes' place is no part of a table. -/
def Apart (A : Option Addr) (b : Nat) : Prop := ∀ a, A = some a → a.block ≠ b
/-- Bytes that lie elsewhere stay, whatever becomes of a block. -/
theorem Rd.kb1 {w w' : World} {B n b : Nat} {A : Option Addr} {xs : List Value} (h : Rd w B A n xs) (hk : Kb [b] w w') (hB : B ≤ w.heap.size) (ha : Apart A b) : Rd w' B A n xs := by
  refine ⟨h.1, fun hn => ?_⟩
  obtain ⟨b', o, e, hb, hc⟩ := h.2 hn
  refine ⟨b', o, e, hb, fun i u hu => ?_⟩
  exact (hk.cell (p := ⟨b', o + i, none⟩) (Nat.lt_of_lt_of_le hb hB) (fun hm => ha _ e (List.mem_singleton.1 hm))).trans (hc i u hu)
end Go.Lec
namespace Go.Proofs.YtgilnjngphhhlaaGreat
open Go.RowKit Go.Lec

section
variable {w w' : World} {b : Nat}
/-- The table's cells: new, or made. -/
def tabNew (cs : Array Value) : Prop := cs.size = 261 ∧ cs[0]? = some (.int .i64 1) ∧ cs[1]? = some (.int .u32 0) ∧ cs[2]? = some (.int .i32 0) ∧ cs[4]? = some (.int .i32 0)
def tabMade (cs : Array Value) : Prop := tabTo cs 256 ∧ cs[0]? = some (.int .i64 1) ∧ cs[1]? = some (.int .u32 1)
def TabM (w : World) (b : Nat) : Prop := ∃ cs, Bk w b 128 cs ∧ tabMade cs
def Tab (w : World) (b : Nat) : Prop := ∃ cs, Bk w b 128 cs ∧ (tabNew cs ∨ tabMade cs)
theorem TabM.tab (h : TabM w b) : Tab w b := by obtain ⟨cs, hB, ht⟩ := h; exact ⟨cs, hB, .inr ht⟩
theorem Tab.lt (h : Tab w b) : b < w.heap.size := by obtain ⟨cs, hB, ht⟩ := h; exact hB.lt
theorem Tab.below {B : Nat} (h : Tab w b) (hb : Below B w w') (hB : b < B) : Tab w' b := by obtain ⟨cs, hB', ht⟩ := h; exact ⟨cs, hB'.below hb hB, ht⟩
theorem Tab.drew (h : Tab w b) : Tab w.drew b := h
theorem Tab.alloc (h : Tab w b) (o : Obj) : Tab (w.alloc o) b := by obtain ⟨cs, hB', ht⟩ := h; exact ⟨cs, hB'.alloc o, ht⟩

end

/-- The table's zero value. -/
def tabZero : Array Value := #[.int .i64 0, .int .u32 0, .int .i32 0, .int .u32 0, .int .i32 0] ++ Array.replicate 256 (.int .u32 0)
theorem zero_tab (w : World) : (zeroValue 128).run Tryz.prog w = .ok (.agg tabZero) w := by kernel_rfl
theorem c_New (w : World) : Calls Tryz.prog 35 #[] w fun e w' => e = .returned (.pointer (some ⟨w.heap.size, 0, none⟩)) ∧ Tab w' w.heap.size ∧ Below w.heap.size w w' ∧ w'.heap.size = w.heap.size + 1 := by
  have hz := zero_tab w
  have hsz : tabZero.size = 261 := by kernel_rfl
  have hne : ¬ tabZero = #[] := fun h => by rw [h] at hsz; exact absurd hsz (by decide)
  have hnew : tabNew (tabZero.setIfInBounds 0 (.int .i64 1)) := ⟨by rw [Array.size_setIfInBounds, hsz], by rw [Array.getElem?_setIfInBounds, if_pos rfl, if_pos (by omega)],
    by rw [Array.getElem?_setIfInBounds, if_neg (by omega)]; kernel_rfl, by rw [Array.getElem?_setIfInBounds, if_neg (by omega)]; kernel_rfl, by rw [Array.getElem?_setIfInBounds, if_neg (by omega)]; kernel_rfl⟩
  generalize tabZero = z at *
  go_enter Tryz.func35, Tryz.ntmps35
  go_wp2
  go_ret
  refine ⟨rfl, ⟨_, Bk.new_ w _ _, .inl hnew⟩, (Below.refl _ _).alloc (Nat.le_refl _) _, by simp⟩

theorem c_Do (w : World) (b : Nat) (h : Tab w b) :
    Calls Tryz.prog 74 #[.pointer (some ⟨b, 1, none⟩), .func (.func 75) #[.pointer (some ⟨b, 0, none⟩)] #[]] w fun e w' => e = .returned (.tuple #[]) ∧ Kb [b] w w' ∧ TabM w' b ∧ (TabM w b → Below w.heap.size w w') := by
  obtain ⟨cs, hB, ht | ht⟩ := h
  · have hno : ¬ TabM w b := by
      rintro ⟨cs', hB', ht'⟩
      have h1 := hB.cell 1
      rw [hB'.cell 1, ht'.2.2, ht.2.2.1] at h1
      simp at h1
    have Hno := Lib.hid hno
    clear hno
    obtain ⟨hs, h0, h1, h2, h4⟩ := ht
    have HL := Lib.hid (c_Load0 w ⟨b, 1, none⟩ ((hB.cell 1).trans h1))
    have HS := Lib.hid (c_doSlow w b cs 0 (by omega) hB hs h1 h2 h4)
    have hnot : ∀ (x : Bool) (w : World), (Op.unary .not (.bool x)).run Tryz.prog w = .ok (.bool (!x)) w := fun _ _ => rfl
    have H0 := Lib.hid h0
    clear h0 h1 h2 h4
    go_enter Tryz.func74, Tryz.ntmps74
    go_wp2_with (first
      | (go_at_call 88; refine HL.out.mono ?_; rintro e w' ⟨rfl, rfl⟩)
      | (go_at_call 89; refine HS.out.mono ?_; rintro e w' ⟨rfl, hK, cs', hB', ht', h0', h1', h2'⟩))
    go_end0
    exact ⟨rfl, hK, ⟨cs', hB', ht', h0'.trans H0.out, h1'⟩, fun h => absurd h Hno.out⟩
  · obtain ⟨ht, h0, h1⟩ := ht
    have HL := Lib.hid (c_Load1 w ⟨b, 1, none⟩ ((hB.cell 1).trans h1))
    have hnot : ∀ (x : Bool) (w : World), (Op.unary .not (.bool x)).run Tryz.prog w = .ok (.bool (!x)) w := fun _ _ => rfl
    have H0 := Lib.hid h0
    have H1 := Lib.hid h1
    clear h0 h1
    go_enter Tryz.func74, Tryz.ntmps74
    go_wp2_with (go_at_call 88; refine HL.out.mono ?_; rintro e w' ⟨rfl, rfl⟩)
    go_end0
    exact ⟨rfl, Kb.refl _ _, ⟨cs, hB, ht, H0.out, H1.out⟩, fun _ => Below.refl _ _⟩

theorem c_ready (w : World) (b : Nat) (h : Tab w b) :
    Calls Tryz.prog 69 #[.pointer (some ⟨b, 0, none⟩)] w fun e w' => e = .returned (.bool true) ∧ Kb [b] w w' ∧ TabM w' b ∧ (TabM w b → Below w.heap.size w w') := by
  have h0 : w.cell? ⟨b, 0, none⟩ = some (.int .i64 1) := by
    obtain ⟨cs, hB, ht | ht⟩ := h
    · exact (hB.cell 0).trans ht.2.1
    · exact (hB.cell 0).trans ht.2.1
  have HD := Lib.hid (c_Do w b h)
  have hmf : ∀ (fn : Fn) (first cap : Array Value) (w : World), (Instr.makeFunc fn first cap).run Tryz.prog w = .ok (.func fn first cap) w := fun _ _ _ _ => rfl
  go_enter Tryz.func69, Tryz.ntmps69
  go_wp2_with (go_at_call 74; refine HD.out.mono ?_; rintro e w' ⟨rfl, hK, hT, hNo⟩; replace hNo := Lib.hid hNo)
  go_ret
  exact ⟨rfl, hK, hT, hNo.out⟩
end Go.Proofs.YtgilnjngphhhlaaGreat
/- Layer 3: bytes, one by one, to whoever asks. -/
namespace Go.Lec
open Go.RowKit
theorem grown_of_below {w w' : World} (h : Below w.heap.size w w') : w.grownBy w' none := ⟨h.os, h.tape, h.output, h.size, fun k hk _ => h.block k hk⟩
/-- A block of cells abides what a loop over a function does beside. -/
theorem Bk.kept {w w' : World} {b : Nat} {t : TypeId} {cs : Array Value} {row : Option Nat} (h : Bk w b t cs) (hg : w.grownBy w' row) (hr : ∀ r, row = some r → ∃ o : Obj, w.heap[r]? = some o ∧ o.isCells = false) : Bk w' b t cs :=
  (grownBy_keeps_cells hg hr h rfl).trans h
theorem Rd.kept {w w' : World} {B n : Nat} {A : Option Addr} {xs : List Value} {row : Option Nat} (h : Rd w B A n xs) (hg : w.grownBy w' row) (hr : ∀ r, row = some r → ∃ o : Obj, w.heap[r]? = some o ∧ o.isCells = false) : Rd w' B A n xs :=
  ⟨h.1, fun hn => by obtain ⟨b, o, e, hb, hc⟩ := h.2 hn; exact ⟨b, o, e, hb, fun i u hu => cell_kept (hc i u hu) hg hr⟩⟩
theorem keeps_of_below {w w' : World} (h : Below w.heap.size w w') (B : Nat) : KeepsFrom B w w' := ⟨h.size, fun k o _ hk _ => (h.block k (Array.getElem?_eq_some_iff.1 hk).1).trans hk⟩
end Go.Lec
namespace Go.Proofs.YtgilnjngphhhlaaGreat
open Go.RowKit Go.Lec Go.Shelf
attribute [local go_sem] Oper.semAt_some

theorem c_Values (w : World) (A : Option Addr) (n c : Nat) : Calls Tryz.prog 70 #[.slice A n c] w fun e w' => e = .returned (.func (.func 76) #[] #[.pointer (some ⟨w.heap.size, 0, none⟩)]) ∧ w' = w.alloc (.cells #[.slice A n c] 22) := by
  have hmf : ∀ (fn : Fn) (first cap : Array Value) (w : World), (Instr.makeFunc fn first cap).run Tryz.prog w = .ok (.func fn first cap) w := fun _ _ _ _ => rfl
  go_enter Tryz.func70, Tryz.ntmps70
  go_wp2
  go_ret
  exact ⟨rfl, rfl⟩

set_option maxRecDepth 100000 in
set_option maxHeartbeats 2000000 in
theorem values1_in (n : Nat) (hn : 1 ≤ n) (l Bs n₀ : Nat) {B N c : Nat} {A : Option Addr} {L : List UInt8} (J Jx : List UInt8 → World → Prop) (W : World) (hN : N ≤ 1099511627776)
    (hY : ∀ pre x W, J pre W → pre.length < L.length → YieldAt Fence.wide (n - 1) Tryz.prog l #[.int .u8 (x.toNat : Int)] W fun e W' =>
      (e = .returned (.bool true) ∧ J (pre ++ [x]) W' ∧ Below n₀ W W') ∨ (e = .returned (.bool false) ∧ Jx (pre ++ [x]) W'))
    (hBs : Bk W Bs 22 #[.slice A N c]) (hr : Rd W n₀ A N (bcs L)) (h0 : J [] W) :
    CallsIn Fence.wide n Tryz.prog 76 #[.func (.yield l) #[] #[], .pointer (some ⟨Bs, 0, none⟩)] W fun e W' => (∃ v, e = .returned v) ∧
      ((∃ ys, ys = L ∧ J ys W') ∨ (∃ pre, (∃ k, k ≤ L.length ∧ pre = L.take k) ∧ Jx pre W')) := by
  have hln := hr.1
  rw [bcs_length] at hln
  have Hln := Lib.hid hln; clear hln
  have qs := hBs.cell
  refine callsIn_of_wp Tryz.func76 rfl trivial ?_ rfl
  simp only [Tryz.ntmps76, List.size_toArray, List.length_cons, List.length_nil, Nat.reduceAdd, Nat.reduceSub, Array.replicate_succ, Array.replicate_zero, List.push_toArray, List.append_toArray, List.nil_append, List.cons_append]
  gi_wp2
  gi_loopw [7] (fun i wr => ∃ k : Nat, k ≤ N ∧ i = .int .i64 k ∧ J (L.take k) wr ∧ Below n₀ W wr) (fun i _ => N - (intOf i).toNat)
  case atStart => exact ⟨0, Nat.zero_le _, rfl, h0, Below.refl _ _⟩
  case round =>
    obtain ⟨k, hk, rfl, hJs, hnx⟩ := hrel
    clear qs
    by_cases hlt : k < N
    · obtain ⟨b, o, rfl, hbB, hcell⟩ := (hr.below hnx (Nat.le_refl _)).byte (k := k) hlt
      have hkl : k < L.length := by rw [Hln.out]; exact hlt
      have hc := hcell k hkl
      have Htk := Lib.hid (List.take_succ_eq_append_getElem hkl)
      obtain ⟨fn, tmps, assign, body, hy, hR⟩ := hY _ L[k] wr hJs (by rw [List.length_take]; omega)
      clear hcell hY hr
      gi_wp2
      refine hR.mono ?_
      rintro e W3 (⟨rfl, hJ3, hk3⟩ | ⟨rfl, hJx3⟩)
      · gi_wp2
        go_roundw
        case rel => exact ⟨k + 1, by omega, by go_num, by rw [Htk.out]; exact hJ3, hnx.trans hk3⟩
        case measure => simp [intOf]; omega
      · gi_wp2
        refine bodyPost_ret (results_none rfl _ _ _) rfl ?_
        exact ⟨⟨_, rfl⟩, .inr ⟨_, ⟨k + 1, hkl, rfl⟩, by rw [Htk.out]; exact hJx3⟩⟩
    · obtain rfl : k = N := by omega
      clear hY
      gi_wp2
      go_end0
      have he : L.take k = L := List.take_of_length_le (by rw [Hln.out]; exact Nat.le_refl _)
      exact ⟨⟨_, rfl⟩, .inl ⟨_, rfl, he ▸ hJs⟩⟩
/-- 'Values' hands back a value that tells the bytes one by one, and stops where it is told to. -/
theorem values_stops (n : Nat) (hn : 1 ≤ n) (Bs n₀ : Nat) {B N c : Nat} {A : Option Addr} {L : List UInt8} (w : World) (hBs : Bk w Bs 22 #[.slice A N c]) (hr : Rd w n₀ A N (bcs L)) (hN : N ≤ 1099511627776) (hn₀ : n₀ ≤ w.heap.size) :
    SeqStopsK Fence.wide n Tryz.prog 76 #[.pointer (some ⟨Bs, 0, none⟩)] (fun x : UInt8 => #[Value.int .u8 (x.toNat : Int)]) (Below n₀) (fun ys => ys = L) (fun pre => ∃ k, k ≤ L.length ∧ pre = L.take k) L.length w := fun l J Jx W hW hJ _ hY h0 =>
  values1_in n hn l Bs n₀ (B := B) J Jx W hN hY (hBs.below hW hBs.lt) (hr.below hW hn₀) h0
end Go.Proofs.YtgilnjngphhhlaaGreat
