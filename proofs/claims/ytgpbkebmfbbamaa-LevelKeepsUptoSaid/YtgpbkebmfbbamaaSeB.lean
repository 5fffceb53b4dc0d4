/- Layer 24, LevelSees: a number among numbers; a pair in memory of its own. -/
import Derived.Test.YtgpbkebmfbbamaaSeA
namespace Go.Lec
open Go.RowKit
/-- Numbers' cells. -/
def ics (l : List Int) : List Value := l.map fun x => .int .i64 x
theorem ics_length (l : List Int) : (ics l).length = l.length := by simp [ics]
theorem Rd.intAt {w : World} {B n k : Nat} {A : Option Addr} {l : List Int} (h : Rd w B A n (ics l)) (hk : k < n) : ∃ b o, A = some ⟨b, o, none⟩ ∧ b < B ∧ ∀ j (hj : j < l.length), w.cell? ⟨b, o + j, none⟩ = some (.int .i64 l[j]) := by
  obtain ⟨b, o, e, hb, hc⟩ := h.2 (by omega)
  exact ⟨b, o, e, hb, fun j hj => hc j _ (by simp [ics, hj])⟩
end Go.Lec
namespace Go.Proofs.Ytgpbkebmfbbamaa
open Go.RowKit Go.Lec

theorem c_Index (w : World) {B : Nat} {A : Option Addr} {n c : Nat} {l : List Int} (x : Int) (hr : Rd w B A n (ics l)) (hB : B ≤ w.heap.size) (hn : n ≤ 1099511627776) :
    Calls Try.prog 59 #[.slice A n c, .int .i64 x] w fun e w' => (∃ r : Int, e = .returned (.int .i64 r) ∧ decide (0 ≤ r) = l.contains x) ∧ Below w.heap.size w w' := by
  have hln := hr.1
  rw [ics_length] at hln
  have Hln := Lib.hid hln
  clear hln
  go_enter Try.func59, Try.ntmps59
  go_wp2
  go_loopw [4, 8] (fun _ i wr => ∃ k : Nat, k ≤ n ∧ i = .int .i64 k ∧ Hid (∀ y ∈ l.take k, y ≠ x) ∧ Below w.heap.size w wr) (fun _ i _ => n - (intOf i).toNat)
  case atStart => exact ⟨0, Nat.zero_le _, rfl, Lib.hid (fun y hy => by simp at hy), Below.refl _ _⟩
  case round =>
    obtain ⟨k, hk, rfl, hno, hb⟩ := hrel
    by_cases hlt : k < n
    · obtain ⟨b, o, rfl, hbB, hcell⟩ := (hr.below hb hB).intAt hlt
      have hkl : k < l.length := by rw [Hln.out]; exact hlt
      have hc := hcell k hkl
      clear hcell
      obtain ⟨y, hy⟩ : ∃ y, y = l[k] := ⟨_, rfl⟩
      rw [← hy] at hc
      have Hy := Lib.hid hy
      clear hy
      by_cases hxy : x = y
      · subst hxy
        have hin : l.contains x = true := by simpa using (by rw [Hy.out]; exact List.getElem_mem hkl : x ∈ l)
        have Hin := Lib.hid hin
        clear hin
        go_wp2
        go_ret
        exact ⟨⟨_, rfl, by rw [Hin.out]; exact decide_eq_true (by omega)⟩, hb⟩
      · have hne : (x == y) = false := by simpa using hxy
        have hstep : ∀ z ∈ l.take (k + 1), z ≠ x := by
          rw [List.take_succ_eq_append_getElem hkl]
          intro z hz
          rcases List.mem_append.1 hz with hz | hz
          · exact hno.out z hz
          · rw [List.mem_singleton.1 hz, ← Hy.out]; exact fun h => hxy h.symm
        have HS := Lib.hid hstep
        clear hstep
        go_wp2
        go_roundw
        case rel => exact ⟨k + 1, by omega, by go_num, HS, hb⟩
        case measure => simp [intOf]; omega
    · obtain rfl : k = n := by omega
      have hin : l.contains x = false := by
        have := hno.out
        rw [List.take_of_length_le (by rw [Hln.out]; exact Nat.le_refl _)] at this
        simpa using fun h => this x h rfl
      have Hin := Lib.hid hin
      clear hin
      go_wp2
      go_ret
      exact ⟨⟨_, rfl, by rw [Hin.out]; rfl⟩, hb⟩

theorem c_Contains (w : World) {B : Nat} {A : Option Addr} {n c : Nat} {l : List Int} (x : Int) (hr : Rd w B A n (ics l)) (hB : B ≤ w.heap.size) (hn : n ≤ 1099511627776) :
    Calls Try.prog 38 #[.slice A n c, .int .i64 x] w fun e w' => e = .returned (.bool (l.contains x)) ∧ Below w.heap.size w w' := by
  have HI := Lib.hid (c_Index w (c := c) x hr hB hn)
  go_enter Try.func38, Try.ntmps38
  go_wp2_with (go_at_call 59; refine HI.out.mono ?_; rintro e w' ⟨⟨r, rfl, hrr⟩, hb⟩; replace hrr := Lib.hid hrr)
  go_ret
  exact ⟨by rw [← hrr.out]; rfl, hb⟩

/-- A pair in memory of its own. -/
def TwinPost (w : World) (k v : List UInt8) (e : Ending) (w' : World) : Prop := ∃ m : Pr, e = .returned (.agg #[.slice m.A1 m.n1 m.c1, .slice m.A2 m.n2 m.c2]) ∧ m.ok w' w'.heap.size ∧ m.hi w.heap.size ∧ m.pl = (k, v) ∧ Below w.heap.size w w'

set_option maxRecDepth 20000 in
set_option maxHeartbeats 1600000 in
theorem c_twin (w : World) {B : Nat} (m : Pr) (hm : m.ok w B) (hB : B ≤ w.heap.size) :
    Calls Try.prog 36 #[.agg #[.slice m.A1 m.n1 m.c1, .slice m.A2 m.n2 m.c2]] w (TwinPost w m.key m.vl) := by
  obtain ⟨h1, h2, hc1, hc2, hn1, hn2⟩ := hm
  go_enter Try.func36, Try.ntmps36
  go_wp2_with fail
  have bS := (Bk.new_ w 82 #[.slice m.A1 m.n1 m.c1, .slice m.A2 m.n2 m.c2]).alloc (.cells #[.slice none 0 0, .slice none 0 0] 82)
  have bT := Bk.new_ (w.alloc (.cells #[.slice m.A1 m.n1 m.c1, .slice m.A2 m.n2 m.c2] 82)) 82 #[.slice none 0 0, .slice none 0 0]
  have hb0 : Below w.heap.size w ((w.alloc (.cells #[.slice m.A1 m.n1 m.c1, .slice m.A2 m.n2 m.c2] 82)).alloc (.cells #[.slice none 0 0, .slice none 0 0] 82)) := ((Below.refl _ _).alloc (Nat.le_refl _) _).alloc (by simp) _
  have hz0 : ((w.alloc (.cells #[.slice m.A1 m.n1 m.c1, .slice m.A2 m.n2 m.c2] 82)).alloc (.cells #[.slice none 0 0, .slice none 0 0] 82)).heap.size = w.heap.size + 2 := by simp
  simp only [World.size_alloc] at bT
  obtain ⟨W0, hW0⟩ : ∃ W, W = (w.alloc (.cells #[.slice m.A1 m.n1 m.c1, .slice m.A2 m.n2 m.c2] 82)).alloc (.cells #[.slice none 0 0, .slice none 0 0] 82) := ⟨_, rfl⟩
  rw [← hW0] at bS bT hb0 hz0 ⊢
  clear hW0
  have hBW : B ≤ W0.drew.heap.size := by show B ≤ W0.heap.size; omega
  have HC1 := Lib.hid (c_Clone W0.drew (c := m.c1) (h1.below hb0 hB).drew hBW hn1)
  have HC2 : ∀ W, Below W0.drew.heap.size W0.drew W → Calls Try.prog 52 #[.slice m.A2 m.n2 m.c2] W (RetB 5 W m.vl) := fun W h => c_Clone W (c := m.c2) ((h2.below hb0 hB).drew.below h hBW) (Nat.le_trans hBW h.size) hn2
  have HC2 := Lib.hid HC2
  have HC := Lib.hid (fun (wc : World) (hk : Below (w.heap.size + 1) W0 wc) => (⟨(hk.cell (p := ⟨w.heap.size, 0, none⟩) (by dsimp only; omega)).trans (bS.cell 0), (hk.cell (p := ⟨w.heap.size, 1, none⟩) (by dsimp only; omega)).trans (bS.cell 1)⟩ :
    wc.cell? ⟨w.heap.size, 0, none⟩ = some (.slice m.A1 m.n1 m.c1) ∧ wc.cell? ⟨w.heap.size, 1, none⟩ = some (.slice m.A2 m.n2 m.c2)))
  go_region_held3 (fun W => W.cell? ⟨w.heap.size, 0, none⟩ = some (.slice m.A1 m.n1 m.c1) ∧ W.cell? ⟨w.heap.size, 1, none⟩ = some (.slice m.A2 m.n2 m.c2))
    ((refine HC.out _ ?_; first | exact (Below.refl _ _).drew | exact hq1 | exact hq2 | exact (hq2.setCell (Nat.le_refl _) _).setCell (Nat.le_refl _) _ | exact hq2.setCell (Nat.le_refl _) _))
    (first
      | (go_at_call 52; (with_reducible refine HC1.out.mono ?_); rintro e w1 ⟨v1, rfl, ho1, hb1⟩; obtain ⟨A1, c1, rfl, hc1'⟩ := ho1.shapeN (n := m.key.length) (bcs_length _); have hq1 : Below (w.heap.size + 1) W0 w1 := (Below.refl _ _).drew.trans (hb1.mono (by show _ ≤ W0.heap.size; omega)))
      | (go_at_call 52; (with_reducible refine (HC2.out _ hb1).mono ?_); rintro e w2 ⟨v2, rfl, ho2, hb2⟩; obtain ⟨A2, c2, rfl, hc2'⟩ := ho2.shapeN (n := m.vl.length) (bcs_length _); have hq2 : Below (w.heap.size + 1) W0 w2 := hq1.trans (hb2.mono (by have := hq1.size; omega)); have hz2 := hb2.size; have bT2 := (bT.drew.below hb1 (by show _ < W0.heap.size; omega)).below hb2 (by have := hb1.size; have h : W0.heap.size ≤ w1.heap.size := this; omega); have t0 := bT2.cell 0; have t1 := bT2.cell 1; have y0 := bT2.frz 0; have y1 := bT2.frz 1))
  have bT5 := (bT2.set_ 0 (.slice A1 m.key.length c1)).set_ 1 (.slice A2 m.vl.length c2)
  have g0 := bT5.cell 0
  have g1 := bT5.cell 1
  have hs1 : W0.drew.heap.size = w.heap.size + 2 := hz0
  have hs2 := hb1.size
  have o1 := ownsRow_setCell_below (ownsRow_setCell_below (ho1.below hb2 (Nat.le_refl _)) (a := ⟨w.heap.size + 1, 0, none⟩) (by dsimp only; omega) (.slice A1 m.key.length c1)) (a := ⟨w.heap.size + 1, 1, none⟩) (by dsimp only; omega) (.slice A2 m.vl.length c2)
  have o2 := ownsRow_setCell_below (ownsRow_setCell_below ho2 (a := ⟨w.heap.size + 1, 0, none⟩) (by dsimp only; omega) (.slice A1 m.key.length c1)) (a := ⟨w.heap.size + 1, 1, none⟩) (by dsimp only; omega) (.slice A2 m.vl.length c2)
  have hbf : Below w.heap.size w ((w2.setCell ⟨w.heap.size + 1, 0, none⟩ (.slice A1 m.key.length c1)).setCell ⟨w.heap.size + 1, 1, none⟩ (.slice A2 m.vl.length c2)) := ((hb0.trans (hq2.mono (Nat.le_succ _))).setCell (Nat.le_succ _) _).setCell (Nat.le_succ _) _
  have hge1 := fun a ha => (Lec.Own.ge ho1 a ha)
  have hge2 := fun a ha => (Lec.Own.ge ho2 a ha)
  have hl1 := h1.1
  have hl2 := h2.1
  rw [bcs_length] at hl1 hl2
  clear t0 t1 y0 y1
  go_wp2
  refine bodyPost_ret (v := .agg #[.slice A1 m.key.length c1, .slice A2 m.vl.length c2]) ?_ rfl ?_
  · simp [results, Try.results36, go_sem, g0, g1]
  · exact ⟨⟨A1, m.key.length, c1, m.key, A2, m.vl.length, c2, m.vl⟩, rfl, ⟨Lec.Own.rd o1, Lec.Own.rd o2, hc1', hc2', by dsimp only; omega, by dsimp only; omega⟩, ⟨fun a ha => by have := hge1 a ha; omega, fun a ha => by have := hge2 a ha; omega⟩, rfl, hbf⟩
end Go.Proofs.Ytgpbkebmfbbamaa
