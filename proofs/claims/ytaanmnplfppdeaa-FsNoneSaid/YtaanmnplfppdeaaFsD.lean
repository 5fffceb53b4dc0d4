/- Layer 1: New, and what tells numbers alone: the walks. -/
import Derived.Test.YtaanmnplfppdeaaFsC
namespace Go.Proofs.Ytaanmnplfppdeaa
open Go.RowKit Go.Lec Go.Fsy Go.Op
/-- What New answers: a file system in new memory. -/
def NewP (w : World) (s : St) (e : Ending) (w' : World) : Prop :=
  ∃ fb X I, e = .returned (ptrV fb) ∧ FsP X I w' fb s ∧ (∀ b, X b → w.heap.size ≤ b) ∧ (∀ b, I b → w.heap.size ≤ b) ∧ Below w.heap.size w w'
set_option maxRecDepth 40000 in
set_option maxHeartbeats 1600000 in
theorem c_FsNew (w : World) {I : Nat → Prop} {p : Pl} {AK AF AU : Option Addr} {cK cF cU : Nat} (h : PlOk I w p AK cK AF cF AU cU) (n1 : p.keep.length ≤ 1099511627776) (n2 : p.fail.length ≤ 1099511627776) (n3 : p.full.length ≤ 1099511627776) :
    Calls Try.prog 21 #[plV p AK cK AF cF AU cU] w (NewP w (new p)) := by
  have hmm := @run_makeMap Try.prog
  have hb0 := (Below.refl w.heap.size w).alloc (Nat.le_refl _) (.cells #[.int .i64 p.crash, .slice AK p.keep.length cK, .slice AF p.fail.length cF, .slice AU p.full.length cU, .int .i64 p.room] 25)
  have h0 : PlOk (fun _ => True) (w.alloc (.cells #[.int .i64 p.crash, .slice AK p.keep.length cK, .slice AF p.fail.length cF, .slice AU p.full.length cU, .int .i64 p.room] 25)) p AK cK AF cF AU cU :=
    ⟨(h.rk.kbP (X := fun _ => False) (KbP.of_below hb0) (fun _ _ h => h)).more (fun _ _ => trivial), (h.rf.kbP (X := fun _ => False) (KbP.of_below hb0) (fun _ _ h => h)).more (fun _ _ => trivial), (h.ru.kbP (X := fun _ => False) (KbP.of_below hb0) (fun _ _ h => h)).more (fun _ _ => trivial), h.nk, h.nf, h.nu⟩
  have HT := Lib.hid (c_twin _ h0 n1 n2 n3)
  clear h h0 n1 n2 n3
  unfold plV at HT ⊢
  go_enter Try.func21, Try.ntmps21
  go_wp2_with (first | (go_at_call 31; (with_reducible refine HT.out.mono ?_); rintro e w1 ⟨A1, c1, A2, c2, A3, c3, rfl, hP, hb1⟩; unfold plV))
  have hz : w.heap.size < w1.heap.size := by have := hb1.size; simp at this; omega
  have hlie : ∀ b, (w.alloc (.cells #[.int .i64 p.crash, .slice AK p.keep.length cK, .slice AF p.fail.length cF, .slice AU p.full.length cU, .int .i64 p.room] 25)).heap.size ≤ b → w.heap.size ≤ b := fun b h => by simp at h; omega
  have hbw := hb0.trans (hb1.mono hb0.size)
  have M1 := World.ownsMap_made (H := Unit) w1 Try.prog 9 ptrR
  have M2 := World.ownsMap_made (H := Unit) (w1.alloc (.map #[] 0)) Try.prog 9 ptrR
  rw [World.size_alloc] at M2
  have hB2 := (((Below.refl w1.heap.size w1).alloc (Nat.le_refl _) (.map #[] 0)).alloc (by simp) (.map #[] 0)).alloc (by simp; omega) (.cells (fsCs (new p) ⟨A1, c1, A2, c2, A3, c3, w1.heap.size, w1.heap.size + 1, .map [], .map [], .slice none 0 0, fun _ => 0, fun _ => .slice none 0 0⟩) 38)
  have HB := Bk.new_ ((w1.alloc (.map #[] 0)).alloc (.map #[] 0)) 38 (fsCs (new p) ⟨A1, c1, A2, c2, A3, c3, w1.heap.size, w1.heap.size + 1, .map [], .map [], .slice none 0 0, fun _ => 0, fun _ => .slice none 0 0⟩)
  rw [World.size_alloc, World.size_alloc] at HB
  have hf : KbP (fun _ => False) w1 (((w1.alloc (.map #[] 0)).alloc (.map #[] 0)).alloc (.cells (fsCs (new p) ⟨A1, c1, A2, c2, A3, c3, w1.heap.size, w1.heap.size + 1, .map [], .map [], .slice none 0 0, fun _ => 0, fun _ => .slice none 0 0⟩) 38)) := KbP.of_below hB2
  go_ret
  refine ⟨w1.heap.size + 1 + 1, fun b => b = w1.heap.size ∨ b = w1.heap.size + 1 ∨ b = w1.heap.size + 1 + 1, fun b => w.heap.size ≤ b ∧ b < w1.heap.size, rfl, ⟨⟨A1, c1, A2, c2, A3, c3, w1.heap.size, w1.heap.size + 1, .map [], .map [], .slice none 0 0, fun _ => 0, fun _ => .slice none 0 0⟩, ?_⟩, fun b hb => by omega, fun b hb => hb.1, hbw.trans (hB2.mono (by omega))⟩
  have lie : ∀ {A : Option Addr} {l : List Int}, RdP (fun b => (w.alloc (.cells #[.int .i64 p.crash, .slice AK p.keep.length cK, .slice AF p.fail.length cF, .slice AU p.full.length cU, .int .i64 p.room] 25)).heap.size ≤ b) w1 A l.length (ics l) → RdP (fun b => w.heap.size ≤ b ∧ b < w1.heap.size) (((w1.alloc (.map #[] 0)).alloc (.map #[] 0)).alloc (.cells (fsCs (new p) ⟨A1, c1, A2, c2, A3, c3, w1.heap.size, w1.heap.size + 1, .map [], .map [], .slice none 0 0, fun _ => 0, fun _ => .slice none 0 0⟩) 38)) A l.length (ics l) := fun h => by
    have h1 : RdP (fun b => w.heap.size ≤ b ∧ b < w1.heap.size) w1 _ _ _ := ⟨h.rd, fun hn q e => ⟨hlie _ (h.lie hn q e), h.lt hn q e⟩⟩
    exact h1.kbP hf (fun _ _ h => h)
  have hal : ∀ i, ¬ alive (new p) i := by
    rintro i (⟨n, h⟩ | ⟨n, h⟩ | ⟨m, h, _⟩) <;> cases h
  exact ⟨HB, lie hP.rk, lie hP.rf, lie hP.ru, hP.nk, hP.nf, hP.nu, (M1.alloc _).alloc _, M2.alloc _, Rep.nil _, Rep.nil _, OwnK.nil_ _ _ _ _,
    fun i h => absurd h (hal i), fun i j h => absurd h (hal i), fun i j g h => absurd h (hal i), (by show w1.heap.size ≠ w1.heap.size + 1; omega),
    .inr (.inr rfl), .inl rfl, .inr (.inl rfl), (fun g h => by cases h), (fun b h1 h2 => by omega), (fun b h => by simp; omega)⟩
end Go.Proofs.Ytaanmnplfppdeaa
