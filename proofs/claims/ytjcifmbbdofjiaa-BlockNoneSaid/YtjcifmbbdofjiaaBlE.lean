/- Layer 20: a block read and checked: the walk of checked. -/
import Derived.Test.YtjcifmbbdofjiaaBlD
namespace Go.Lec
/-- A block read and checked. -/
def ckB (b : List UInt8) : Except Int (List En × List Nat) :=
  match unB b with
  | .error e => .error e
  | .ok (l, ps) => if whole l ps then .ok (l, ps) else .error 201
end Go.Lec
namespace Go.Proofs.Ytjcifmbbdofjiaa
open Go.RowKit Go.Lec Go.Op
/-- What checked answers, or throws. -/
def CkPost (w : World) (b : List UInt8) (e : Ending) (w' : World) : Prop :=
  (∃ (l : List En) (ps : List Nat) (A n c : _) (Ap np cp : _) (X : List Ex), ckB b = .ok (l, ps) ∧ e = .returned (.tuple #[.slice A n c, .slice Ap np cp]) ∧ Gth encEx (w.heap.size ≤ ·) w w' 74 X (.slice A n c) ∧ X.length = n ∧ X.map Ex.en = l ∧ Lec.Own w' w.heap.size 3 (.slice Ap np cp) (ncs ps) ∧ ps.length = np ∧ n ≤ 1048576 ∧ np ≤ 1048576 ∧ whole l ps = true) ∨
  (∃ err, ckB b = .error err ∧ e = .panicked [{ v := blFailVal err, recovered := false }] ∧ Below w.heap.size w w')

set_option maxRecDepth 40000 in
set_option maxHeartbeats 800000 in
theorem c_checked (w : World) {B n c : Nat} {A : Option Addr} {b : List UInt8} (hr : Rd w B A n (bcs b)) (hc : n ≤ c) (hB : B ≤ w.heap.size) (hn : n ≤ 1099511627776) :
    Calls Try.prog 33 #[.slice A n c] w (CkPost w b) := by
  go_enter Try.func33, Try.ntmps33
  go_wp2_with fail
  refine (c_read w hr hc hB hn).mono ?_
  rintro e w1 (⟨l, ps, A1, n1, c1, Ap, np, cp, X, hu, rfl, hG, hXl, hP⟩ | ⟨err, hu, rfl, hb1⟩)
  · obtain ⟨h1, h2⟩ := unB_len hu
    have hn1 : X.length = n1 := by
      obtain ⟨A', c', e', _⟩ := hG.own.shape
      injection e' with _ e2 _
      exact e2.symm
    have hpl : ps.length = np := by
      obtain ⟨A', c', e', _⟩ := hP.shape
      injection e' with _ e2 _
      rw [ncs_length] at e2
      exact e2.symm
    have hE := hG.els hn1
    have hPr := Lec.Own.rd hP
    have hnl : n1 ≤ 1048576 := by rw [← hXl, List.length_map] at h1; omega
    have hpl2 : np ≤ 1048576 := by omega
    have HC := Lib.hid (c_whole w1 (c := c1) (cp := cp) hE hPr (Nat.le_refl _) hnl hpl2)
    rw [hXl] at HC
    cases hw : whole l ps
    · have Hf := Lib.hid (show ckB b = .error 201 from by rw [ckB, hu]; simp only [hw]; rfl)
      rw [hw] at HC
      have hbw := hG.below
      clear hw hu hG hE hPr hXl hn1 hpl
      go_wp2_with (first | (go_at_call 57; refine HC.out.mono ?_; rintro e w2 ⟨rfl, hb2⟩) | (go_at_call 47; refine (c_blMust_no _ _ _ ?_).mono ?_; (first | rfl | (simp; done) | (simp; omega) | (simp [*]; done)); rintro e w' ⟨rfl, rfl⟩))
      exact ⟨rfl, .inr ⟨201, Hf.out, rfl, hbw.trans (hb2.mono hbw.size)⟩⟩
    · have Hf := Lib.hid (show ckB b = .ok (l, ps) from by rw [ckB, hu]; simp only [hw]; rfl)
      have Hw := Lib.hid hw
      rw [hw] at HC
      have HX := Lib.hid hXl
      have Hn1 := Lib.hid hn1
      have Hpl := Lib.hid hpl
      clear hw hu hE hPr hXl hn1 hpl
      go_wp2_with (first | (go_at_call 57; refine HC.out.mono ?_; rintro e w2 ⟨rfl, hb2⟩) | (go_at_call 47; refine (c_blMust_ok _ _ _ ?_).mono ?_; (first | rfl | (simp; done) | (simp; omega) | (simp [*]; done)); rintro e w' ⟨rfl, rfl⟩))
      go_ret2
      exact .inl ⟨l, ps, _, _, _, _, _, _, X, Hf.out, rfl, hG.grow hb2, Hn1.out, HX.out, hP.below hb2 (Nat.le_refl _), Hpl.out, hnl, hpl2, Hw.out⟩
  · have Hf := Lib.hid (show ckB b = .error err from by rw [ckB, hu])
    exact ⟨rfl, .inr ⟨err, Hf.out, rfl, hb1⟩⟩
end Go.Proofs.Ytjcifmbbdofjiaa
