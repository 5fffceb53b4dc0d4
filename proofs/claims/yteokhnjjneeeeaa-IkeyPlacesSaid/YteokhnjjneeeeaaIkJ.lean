/- Layer 16: Decode. -/
import Derived.Test.YteokhnjjneeeeaaIkI
namespace Go.Proofs.Yteokhnjjneeeeaa
open Go.RowKit Go.Lec

/-- The closure that Decode hands to 'guarded'. -/
def DecClo (W : World) (b1 : Nat) (l : List UInt8) (e : Ending) (w' : World) : Prop :=
  (∃ K v, dec l = .ok K ∧ e = .returned (.tuple #[]) ∧ Bk w' b1 24 #[.int .i64 K.ep, v, .int .i64 K.sq, .int .i64 K.kd, .string ⟨K.txt.toArray⟩] ∧ Own w' W.heap.size 5 v (bcs K.srt) ∧ Kb [b1] W w') ∨
  (∃ err, dec l = .error err ∧ e = .panicked [{ v := failVal err, recovered := false }] ∧ Kb [b1] W w')

set_option maxHeartbeats 400000 in
theorem c_DecClo (W : World) (b0 b1 : Nat) {B : Nat} {A : Option Addr} {n c : Nat} {l : List UInt8} (hr : Rd W B A n (bcs l)) (hB : B ≤ W.heap.size) (hc : n ≤ c) (hn : n ≤ 1099511627)
    (h0 : W.cell? ⟨b0, 0, none⟩ = some (.slice A n c)) (h1 : Bk W b1 24 #[.int .i64 0, .slice none 0 0, .int .i64 0, .int .i64 0, .string ⟨#[]⟩]) :
    Calls Try.prog 30 #[.pointer (some ⟨b0, 0, none⟩), .pointer (some ⟨b1, 0, none⟩)] W (DecClo W b1 l) := by
  have l1 := h1.lt
  go_enter Try.func30, Try.ntmps30
  go_wp2_with fail
  refine (c_decode W hr hB hc hn).mono ?_
  rintro e w1 (⟨K, v, hu, rfl, hown, hb⟩ | ⟨err, hu, rfl, hb⟩)
  · have HK := h1.below hb l1
    have hk := HK.cell
    have hkz := HK.frz
    have Hu := Lib.hid hu; clear hu
    obtain ⟨Av, cv, rfl, _⟩ := hown.shape
    unfold keyVal
    go_wp2
    go_end0
    refine .inl ⟨K, .slice Av (bcs K.srt).length cv, Hu.out, rfl, ?_, ?_, ?_⟩
    · exact ((((HK.set_ 0 _).set_ 1 _).set_ 2 _).set_ 3 _).set_ 4 _
    · exact ownsRow_setCell_below (ownsRow_setCell_below (ownsRow_setCell_below (ownsRow_setCell_below (ownsRow_setCell_below hown l1 _) l1 _) l1 _) l1 _) l1 _
    · exact (((((Kb.of_below hb).setCell (.inl (by simp)) _).setCell (.inl (by simp)) _).setCell (.inl (by simp)) _).setCell (.inl (by simp)) _).setCell (.inl (by simp)) _
  · go_wp2
    exact ⟨rfl, .inr ⟨err, hu, rfl, Kb.of_below hb⟩⟩

/-- What Decode's call of 'guarded' leaves. -/
def DecG (w : World) (l : List UInt8) (e : Ending) (w' : World) : Prop :=
  Bk w' (w.heap.size + 1) 24 #[.int .i64 0, .slice none 0 0, .int .i64 0, .int .i64 0, .string ⟨#[]⟩] ∧ Below w.heap.size w w' ∧
  ((∃ K v, dec l = .ok K ∧ e = .returned (.int .i64 0) ∧ Bk w' (w.heap.size + 1 + 1) 24 #[.int .i64 K.ep, v, .int .i64 K.sq, .int .i64 K.kd, .string ⟨K.txt.toArray⟩] ∧ Own w' (w.heap.size + 4) 5 v (bcs K.srt)) ∨
  (∃ err, dec l = .error err ∧ e = .returned (.int .i64 err)))

theorem c_DecG (w : World) {B : Nat} {A : Option Addr} {n c : Nat} {l : List UInt8} (hr : Rd w B A n (bcs l)) (hB : B ≤ w.heap.size) (hc : n ≤ c) (hn : n ≤ 1099511627) :
    Calls Try.prog 29 #[.func (.func 30) #[] #[.pointer (some ⟨w.heap.size, 0, none⟩), .pointer (some ⟨w.heap.size + 1 + 1, 0, none⟩)]]
      (((w.alloc (.cells #[.slice A n c] 22)).alloc (.cells #[.int .i64 0, .slice none 0 0, .int .i64 0, .int .i64 0, .string ⟨#[]⟩] 24)).alloc (.cells #[.int .i64 0, .slice none 0 0, .int .i64 0, .int .i64 0, .string ⟨#[]⟩] 24)) (DecG w l) := by
  obtain ⟨HA, HR, HK, hsz, hBl⟩ := Bk.new3 w 22 #[.slice A n c] 24 #[.int .i64 0, .slice none 0 0, .int .i64 0, .int .i64 0, .string ⟨#[]⟩] 24 #[.int .i64 0, .slice none 0 0, .int .i64 0, .int .i64 0, .string ⟨#[]⟩]
  generalize (((w.alloc (.cells #[.slice A n c] 22)).alloc (.cells #[.int .i64 0, .slice none 0 0, .int .i64 0, .int .i64 0, .string ⟨#[]⟩] 24)).alloc (.cells #[.int .i64 0, .slice none 0 0, .int .i64 0, .int .i64 0, .string ⟨#[]⟩] 24)) = W at *
  have HE := Bk.new_ W 27 #[.int .i64 0]
  refine (c_guarded W 30 _ (DecClo (W.alloc (.cells #[.int .i64 0] 27)) (w.heap.size + 1 + 1) l) ?_ ?_ ?_).mono ?_
  · intro w; simp [go_sem]
  · refine c_DecClo _ w.heap.size (w.heap.size + 1 + 1) (B := B) (A := A) (n := n) (c := c) ((hr.below hBl hB).alloc (by omega) _) (by simp; omega) hc hn ((HA.alloc _).cell 0) (HK.alloc _)
  · rintro e w' (⟨K, v, hu, rfl, h1, ho, hk⟩ | ⟨err, hu, rfl, hk⟩)
    · have := HE.kb hk (by simp; omega)
      exact ⟨.inl rfl, this.cell 0, this.frz 0⟩
    · have := HE.kb hk (by simp; omega)
      exact ⟨.inr ⟨_, rfl⟩, this.cell 0, this.frz 0⟩
  · rintro e w' ⟨e0, w0, (⟨K, v, hu, rfl, h1, ho, hk⟩ | ⟨err, hu, rfl, hk⟩), he⟩
    · rcases he with ⟨_, rfl, rfl⟩ | ⟨err, h, _⟩
      · refine ⟨((HR.alloc _).kb hk (by simp)).far (by dsimp only; omega) _, ?_, .inl ⟨K, v, hu, rfl, h1.far (by dsimp only; omega) _, ?_⟩⟩
        · exact ((hBl.alloc (by omega) _).trans (hk.below (by simp; omega) (by simp; omega))).setCell (by dsimp only; omega) _
        · refine ownsRow_setCell_below (base := w.heap.size + 4) ?_ (by dsimp only; omega) _
          have := ho
          rw [World.size_alloc, hsz] at this
          exact this
      · cases h
    · rcases he with ⟨h, _⟩ | ⟨err', h, rfl, rfl⟩
      · cases h
      · simp [failVal] at h
        subst h
        refine ⟨((HR.alloc _).kb hk (by simp)).far (by dsimp only; omega) _, ?_, .inr ⟨err, hu, rfl⟩⟩
        exact ((hBl.alloc (by omega) _).trans (hk.below (by simp; omega) (by simp; omega))).setCell (by dsimp only; omega) _

/-- Two results: a key and an error. -/
def RDecPost (w : World) (l : List UInt8) (e : Ending) (w' : World) : Prop :=
  (∃ K v, dec l = .ok K ∧ e = .returned (.tuple #[keyVal K v, .int .i64 0]) ∧ Own w' w.heap.size 5 v (bcs K.srt) ∧ Below w.heap.size w w') ∨
  (∃ err, dec l = .error err ∧ e = .returned (.tuple #[.agg #[.int .i64 0, .slice none 0 0, .int .i64 0, .int .i64 0, .string ⟨#[]⟩], .int .i64 err]) ∧ Below w.heap.size w w')

theorem dec_err {l : List UInt8} {err : Int} (h : dec l = .error err) : err = 160 ∨ err = 2 := by
  unfold dec at h
  repeat' split at h
  all_goals first | (injection h with h; omega) | (injection h)

set_option maxHeartbeats 800000 in
theorem c_Decode (w : World) {B : Nat} {A : Option Addr} {n c : Nat} {l : List UInt8} (hr : Rd w B A n (bcs l)) (hB : B ≤ w.heap.size) (hc : n ≤ c) (hn : n ≤ 1099511627) :
    Calls Try.prog 10 #[.slice A n c] w (RDecPost w l) := by
  have hmf : ∀ (fn : Fn) (first cap : Array Value) (w : World), (Instr.makeFunc fn first cap).run Try.prog w = .ok (.func fn first cap) w := fun _ _ _ _ => rfl
  go_enter Try.func10, Try.ntmps10
  go_wp2_with fail
  refine (c_DecG w hr hB hc hn).mono ?_
  rintro e w1 ⟨HR, hb, (⟨K, v, hu, rfl, HK, ho⟩ | ⟨err, hu, rfl⟩)⟩
  · have Hu := Lib.hid hu; clear hu
    obtain ⟨Av, cv, rfl, _⟩ := ho.shape
    have hk := HK.cell
    have hR := HR.cell
    have hRz := HR.frz
    go_wp2
    refine bodyPost_ret (v := .tuple #[keyVal K (.slice Av (bcs K.srt).length cv), .int .i64 0]) ?_ rfl ?_
    · simp [results, Try.results10, keyVal, go_sem, hR]
    · refine .inl ⟨K, _, Hu.out, rfl, ?_, ?_⟩
      · refine Own.mono (B := w.heap.size + 4) ?_ (by omega)
        exact ownsRow_setCell_below (ownsRow_setCell_below (ownsRow_setCell_below (ownsRow_setCell_below (ownsRow_setCell_below ho (by dsimp only; omega) _) (by dsimp only; omega) _) (by dsimp only; omega) _) (by dsimp only; omega) _) (by dsimp only; omega) _
      · exact (((((hb.setCell (by dsimp only; omega) _).setCell (by dsimp only; omega) _).setCell (by dsimp only; omega) _).setCell (by dsimp only; omega) _).setCell (by dsimp only; omega) _)
  · have hR := HR.cell
    have hRz := HR.frz
    have hne : (err != 0) = true := by rcases dec_err hu with rfl | rfl <;> rfl
    go_wp2
    refine bodyPost_ret (v := .tuple #[.agg #[.int .i64 0, .slice none 0 0, .int .i64 0, .int .i64 0, .string ⟨#[]⟩], .int .i64 err]) ?_ rfl ?_
    · simp [results, Try.results10, go_sem, hR]
    · refine .inr ⟨err, hu, rfl, ?_⟩
      exact (((((hb.setCell (by dsimp only; omega) _).setCell (by dsimp only; omega) _).setCell (by dsimp only; omega) _).setCell (by dsimp only; omega) _).setCell (by dsimp only; omega) _)
end Go.Proofs.Yteokhnjjneeeeaa
