/- Layer 3: a table is made; it is ready. -/
import Derived.Test.YtgilnjngphhhlaaCrcD
namespace Go.Lec
open Go.RowKit
/-- A bytes' place is no part of a table. -/
def Apart (A : Option Addr) (b : Nat) : Prop := ∀ a, A = some a → a.block ≠ b
/-- Bytes that lie elsewhere stay, whatever becomes of a block. -/
theorem Rd.kb1 {w w' : World} {B n b : Nat} {A : Option Addr} {xs : List Value} (h : Rd w B A n xs) (hk : Kb [b] w w') (hB : B ≤ w.heap.size) (ha : Apart A b) : Rd w' B A n xs := by
  refine ⟨h.1, fun hn => ?_⟩
  obtain ⟨b', o, e, hb, hc⟩ := h.2 hn
  refine ⟨b', o, e, hb, fun i u hu => ?_⟩
  exact (hk.cell (p := ⟨b', o + i, none⟩) (Nat.lt_of_lt_of_le hb hB) (fun hm => ha _ e (List.mem_singleton.1 hm))).trans (hc i u hu)
end Go.Lec
namespace Go.Proofs.Ytgilnjngphhhlaa
open Go.RowKit Go.Lec

section
variable {w w' : World} {b : Nat}
/-- The table's cells: new, or made. -/
def tabNew (cs : Array Value) : Prop := cs.size = 261 ∧ cs[0]? = some (.int .i64 1) ∧ cs[1]? = some (.int .u32 0) ∧ cs[2]? = some (.int .i32 0) ∧ cs[4]? = some (.int .i32 0)
def tabMade (cs : Array Value) : Prop := tabTo cs 256 ∧ cs[0]? = some (.int .i64 1) ∧ cs[1]? = some (.int .u32 1)
def TabM (w : World) (b : Nat) : Prop := ∃ cs, Bk w b 63 cs ∧ tabMade cs
def Tab (w : World) (b : Nat) : Prop := ∃ cs, Bk w b 63 cs ∧ (tabNew cs ∨ tabMade cs)
theorem TabM.tab (h : TabM w b) : Tab w b := by obtain ⟨cs, hB, ht⟩ := h; exact ⟨cs, hB, .inr ht⟩
theorem Tab.lt (h : Tab w b) : b < w.heap.size := by obtain ⟨cs, hB, ht⟩ := h; exact hB.lt
theorem Tab.below {B : Nat} (h : Tab w b) (hb : Below B w w') (hB : b < B) : Tab w' b := by obtain ⟨cs, hB', ht⟩ := h; exact ⟨cs, hB'.below hb hB, ht⟩
theorem Tab.drew (h : Tab w b) : Tab w.drew b := h
theorem Tab.alloc (h : Tab w b) (o : Obj) : Tab (w.alloc o) b := by obtain ⟨cs, hB', ht⟩ := h; exact ⟨cs, hB'.alloc o, ht⟩

end

/-- The table's zero value. -/
def tabZero : Array Value := #[.int .i64 0, .int .u32 0, .int .i32 0, .int .u32 0, .int .i32 0] ++ Array.replicate 256 (.int .u32 0)
theorem zero_tab (w : World) : (zeroValue 63).run Try.prog w = .ok (.agg tabZero) w := by kernel_rfl
theorem c_New (w : World) : Calls Try.prog 12 #[] w fun e w' => e = .returned (.pointer (some ⟨w.heap.size, 0, none⟩)) ∧ Tab w' w.heap.size ∧ Below w.heap.size w w' ∧ w'.heap.size = w.heap.size + 1 := by
  have hz := zero_tab w
  have hsz : tabZero.size = 261 := by kernel_rfl
  have hne : ¬ tabZero = #[] := fun h => by rw [h] at hsz; exact absurd hsz (by decide)
  have hnew : tabNew (tabZero.setIfInBounds 0 (.int .i64 1)) := ⟨by rw [Array.size_setIfInBounds, hsz], by rw [Array.getElem?_setIfInBounds, if_pos rfl, if_pos (by omega)],
    by rw [Array.getElem?_setIfInBounds, if_neg (by omega)]; kernel_rfl, by rw [Array.getElem?_setIfInBounds, if_neg (by omega)]; kernel_rfl, by rw [Array.getElem?_setIfInBounds, if_neg (by omega)]; kernel_rfl⟩
  generalize tabZero = z at *
  go_enter Try.func12, Try.ntmps12
  go_wp2
  go_ret
  refine ⟨rfl, ⟨_, Bk.new_ w _ _, .inl hnew⟩, (Below.refl _ _).alloc (Nat.le_refl _) _, by simp⟩

theorem c_Do (w : World) (b : Nat) (h : Tab w b) :
    Calls Try.prog 30 #[.pointer (some ⟨b, 1, none⟩), .func (.func 31) #[.pointer (some ⟨b, 0, none⟩)] #[]] w fun e w' => e = .returned (.tuple #[]) ∧ Kb [b] w w' ∧ TabM w' b ∧ (TabM w b → Below w.heap.size w w') := by
  obtain ⟨cs, hB, ht | ht⟩ := h
  · have hno : ¬ TabM w b := by
      rintro ⟨cs', hB', ht'⟩
      have h1 := hB.cell 1
      rw [hB'.cell 1, ht'.2.2, ht.2.2.1] at h1
      simp at h1
    have Hno := Lib.hid hno
    clear hno
    obtain ⟨hs, h0, h1, h2, h4⟩ := ht
    have HL := Lib.hid (c_Load0 w ⟨b, 1, none⟩ ((hB.cell 1).trans h1))
    have HS := Lib.hid (c_doSlow w b cs 0 (by omega) hB hs h1 h2 h4)
    have hnot : ∀ (x : Bool) (w : World), (Op.unary .not (.bool x)).run Try.prog w = .ok (.bool (!x)) w := fun _ _ => rfl
    have H0 := Lib.hid h0
    clear h0 h1 h2 h4
    go_enter Try.func30, Try.ntmps30
    go_wp2_with (first
      | (go_at_call 33; refine HL.out.mono ?_; rintro e w' ⟨rfl, rfl⟩)
      | (go_at_call 34; refine HS.out.mono ?_; rintro e w' ⟨rfl, hK, cs', hB', ht', h0', h1', h2'⟩))
    go_end0
    exact ⟨rfl, hK, ⟨cs', hB', ht', h0'.trans H0.out, h1'⟩, fun h => absurd h Hno.out⟩
  · obtain ⟨ht, h0, h1⟩ := ht
    have HL := Lib.hid (c_Load1 w ⟨b, 1, none⟩ ((hB.cell 1).trans h1))
    have hnot : ∀ (x : Bool) (w : World), (Op.unary .not (.bool x)).run Try.prog w = .ok (.bool (!x)) w := fun _ _ => rfl
    have H0 := Lib.hid h0
    have H1 := Lib.hid h1
    clear h0 h1
    go_enter Try.func30, Try.ntmps30
    go_wp2_with (go_at_call 33; refine HL.out.mono ?_; rintro e w' ⟨rfl, rfl⟩)
    go_end0
    exact ⟨rfl, Kb.refl _ _, ⟨cs, hB, ht, H0.out, H1.out⟩, fun _ => Below.refl _ _⟩

theorem c_ready (w : World) (b : Nat) (h : Tab w b) :
    Calls Try.prog 27 #[.pointer (some ⟨b, 0, none⟩)] w fun e w' => e = .returned (.bool true) ∧ Kb [b] w w' ∧ TabM w' b ∧ (TabM w b → Below w.heap.size w w') := by
  have h0 : w.cell? ⟨b, 0, none⟩ = some (.int .i64 1) := by
    obtain ⟨cs, hB, ht | ht⟩ := h
    · exact (hB.cell 0).trans ht.2.1
    · exact (hB.cell 0).trans ht.2.1
  have HD := Lib.hid (c_Do w b h)
  have hmf : ∀ (fn : Fn) (first cap : Array Value) (w : World), (Instr.makeFunc fn first cap).run Try.prog w = .ok (.func fn first cap) w := fun _ _ _ _ => rfl
  go_enter Try.func27, Try.ntmps27
  go_wp2_with (go_at_call 30; refine HD.out.mono ?_; rintro e w' ⟨rfl, hK, hT, hNo⟩; replace hNo := Lib.hid hNo)
  go_ret
  exact ⟨rfl, hK, hT, hNo.out⟩
end Go.Proofs.Ytgilnjngphhhlaa
