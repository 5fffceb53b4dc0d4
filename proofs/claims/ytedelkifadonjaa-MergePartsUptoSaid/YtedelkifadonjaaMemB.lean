/- More words for memory: cuts of a slice at an index as the walk spells it. -/
import Derived.Test.YtedelkifadonjaaMem
import Derived.Lib.SlBytesConst
namespace Go.Lec
open Go.RowKit
/-- 's[k:]', the index as the walk spells it. -/
theorem run_cutI {P : Program} {t e : TypeId} {z : Value} {by_ : Nat} (hT : SlT P t e z by_) {w : World} {B n c : Nat} {A : Option Addr} {xs : List Value} (hr : Rd w B A n xs) (hc : n ≤ c) (k : Nat) (hk : k ≤ n) (kl : IntKind) (K : Int) (hK : K = (k : Int)) :
    ∃ A', (∀ W : World, (Instr.slice t (.slice A n c) (some (.int kl K)) none none).run P W = .ok (.slice A' (n - k) (c - k)) W) ∧ Rd w B A' (n - k) (xs.drop k) := by
  subst hK
  exact run_cut hT hr hc hk kl
/-- 's[j:k]', likewise. -/
theorem run_cut2I {P : Program} {t e : TypeId} {z : Value} {by_ : Nat} (hT : SlT P t e z by_) {w : World} {B n c : Nat} {A : Option Addr} {xs : List Value} (hr : Rd w B A n xs) (hc : n ≤ c) (j k : Nat) (hj : j ≤ k) (hk : k ≤ n) (kl kh : IntKind) (J K : Int) (hJ : J = (j : Int)) (hK : K = (k : Int)) :
    ∃ A', (∀ W : World, (Instr.slice t (.slice A n c) (some (.int kl J)) (some (.int kh K)) none).run P W = .ok (.slice A' (k - j) (c - j)) W) ∧ Rd w B A' (k - j) ((xs.take k).drop j) := by
  subst hJ
  subst hK
  exact run_cut2 hT hr hc hj hk kl kh
/-- 's[:k]', likewise: it lies where it lay. -/
theorem run_cutH {P : Program} {t e : TypeId} {z : Value} {by_ : Nat} (hT : SlT P t e z by_) (A : Option Addr) (n c k : Nat) (hk : k ≤ c) (kh : IntKind) (K : Int) (hK : K = (k : Int)) (W : World) :
    (Instr.slice t (.slice A n c) none (some (.int kh K)) none).run P W = .ok (.slice A k c) W := by
  subst hK
  obtain ⟨i, hi, _, hsz, _⟩ := hT.info
  rw [run_slice_h (P := P) (w := W) t A n c (by rw [hT.elem_]; exact hT.ut) kh k (by omega) (by omega)]
  cases A <;> simp [sizeOf, typeInfo, hT.elem_, hi, hsz, sliced, Result.andThen, Addr.add_zero']
theorem bcs_take (l : List UInt8) (k : Nat) : bcs (l.take k) = (bcs l).take k := by simp [bcs]
theorem Own.shapeN {w : World} {B n : Nat} {e : TypeId} {v : Value} {xs : List Value} (h : Own w B e v xs) (hn : xs.length = n) : ∃ A c, v = .slice A n c ∧ n ≤ c := by
  subst hn
  exact h.shape
/-- The bytes of a constant text, which has just been laid, marked behind its last cell. -/
theorem Rd.litM (w : World) (cs : List Value) (e : TypeId) (fr : Nat × Nat) : Rd (w.alloc (.cells cs.toArray e fr)) (w.heap.size + 1) (some ⟨w.heap.size, 0, none⟩) cs.length cs :=
  ⟨rfl, fun _ => ⟨_, _, rfl, Nat.lt_succ_self _, fun i u hu => by
    rw [Nat.zero_add, cell_of_row _ w.heap.size i cs.toArray e fr (heap_alloc_new w _)]
    simpa using hu⟩⟩
end Go.Lec
