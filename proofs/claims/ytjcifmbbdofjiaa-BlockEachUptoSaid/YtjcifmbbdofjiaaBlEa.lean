/- Layer 20: Each: the iterator. -/
import Derived.Test.YtjcifmbbdofjiaaRangeX
import Derived.Test.YtjcifmbbdofjiaaBlEc
namespace Go.Lec
open Go.RowKit
/-- Of the blocks that may have turned none did. -/
theorem below_of_kb {it : Nat} {t : TypeId} {cs : Array Value} {w w' : World} (h : Kb [it] w w') (b : Bk w it t cs) (b' : Bk w' it t cs) : Below w.heap.size w w' :=
  ⟨h.os, h.tape, h.output, h.size, fun k hk => by
    by_cases e : k = it
    · subst e; exact b'.trans b.symm
    · exact h.block k hk (by simp [e])⟩
end Go.Lec
namespace Go.Proofs.Ytjcifmbbdofjiaa
open Go.RowKit Go.Lec Go.Op Go.Shelf
attribute [local go_sem] Oper.semAt_some
set_option maxRecDepth 40000 in
theorem c_Each11 (w0 : World) {it L n c ev : Nat} {A : Option Addr} {X : List Ex} {p lk : Int} : LookOk w0 it L A n c X ev p lk 0 45 #[] := by
  intro k W hk hI hkb
  rw [Nat.zero_mul] at hI ⊢
  go_enter Try.func45, Try.ntmps45
  go_wp2
  go_end0
  exact ⟨rfl, hI, Kb.refl _ _⟩
/-- What a round is told. -/
def EaY (l : List En) (k0 : Nat) (pre : List Pr) (m : Pr) (W : World) : Prop :=
  m.ok W W.heap.size ∧ m.n1 ≤ 1048576 ∧ m.n2 ≤ 1048576 ∧ ∃ x, l[k0 + pre.length]? = some x ∧ m.pl = (x.key, x.val)
set_option maxRecDepth 100000 in
set_option maxHeartbeats 2000000 in
theorem each_X (n : Nat) (hn : 1 ≤ n) (bi bf : Nat) (w0 : World) {it L N c ev nk ck B : Nat} {A Ak : Option Addr} {X : List Ex} {p lk : Int} {key : List UInt8} (h : Itr w0 it L A N c X ev p lk) (hev : ev ≤ 1048576) (hev1 : 1 ≤ ev)
    (hr : Rd w0 B Ak nk (bcs key)) (hB : B ≤ w0.heap.size) (hkit : 0 < nk → ∀ a, Ak = some a → a.block ∉ [it]) (hBi : Bk w0 bi 45 #[.pointer (some ⟨it, 0, none⟩)]) (hBf : Bk w0 bf 25 #[.slice Ak nk ck]) (k0 : Nat) (hk0 : k0 = (findF (X.map Ex.en) ev key).1) :
    SeqX Try.prog n 44 #[.pointer (some ⟨bi, 0, none⟩), .pointer (some ⟨bf, 0, none⟩)] (fun m : Pr => #[.slice m.A1 m.n1 m.c1, .slice m.A2 m.n2 m.c2]) (EaY (X.map Ex.en) k0) (Below w0.heap.size) (fun xs => xs.length = N - k0) (fun _ => True) (N - k0) w0 := by
  intro l J Jx Jp W hW hJ hY h0
  have hXl : (X.map Ex.en).length = N := by rw [List.length_map]; exact h.els.2.1
  have hle := h.le
  have hk0N : k0 ≤ N := by rw [hk0]; have := findF_le (X.map Ex.en) ev key hev1; rwa [hXl] at this
  have lbi := hBi.lt
  have lbf := hBf.lt
  have HIt := Lib.hid (fun (V : World) (hV : Below w0.heap.size w0 V) => h.below hV)
  have HBi := Lib.hid (fun (V : World) (hV : Below w0.heap.size w0 V) => (hBi.below hV hBi.lt).cell 0)
  have q1 := HBi.out W hW
  have q2 := (hBf.below hW lbf).cell 0
  have i0 := (h.below hW).bk.cell 0
  have HIs := Lib.hid (c_Iis W it i0)
  have HFd := Lib.hid (show Calls Try.prog 41 #[.pointer (some ⟨it, 0, none⟩), .slice Ak nk ck, .func (.func 45) #[] #[]] W (fun e w2 => e = .returned (.int .i64 (k0 : Int)) ∧ Below W.heap.size W w2) from by
    refine (c_find W (δ := 0) (c_Each11 W) (fun _ _ => rfl) (h.below hW) hev hev1 (hr.below hW hB) (Nat.le_trans hB hW.size) hkit).mono ?_
    rintro e w2 ⟨rfl, h2, hk2⟩
    rw [Nat.zero_mul] at h2
    exact ⟨by rw [hk0], below_of_kb hk2 (h.below hW).bk (by have := h2.bk; simpa using this)⟩)
  clear hr hkit hk0 hBi hBf h
  refine callsIn_of_wp Try.func44 rfl trivial ?_ rfl
  simp only [Try.ntmps44, List.size_toArray, List.length_cons, List.length_nil, Nat.reduceAdd, Nat.reduceSub, Array.replicate_succ, Array.replicate_zero, List.push_toArray, List.append_toArray, List.nil_append, List.cons_append]
  gi_wp2_with (first
    | (refine ⟨trivial, ?_⟩; gi_at_call 39; refine (callsIn_wide.2 HIs.out).mono ?_; rintro e w1 ⟨rfl, hww⟩; obtain rfl := hww.symm)
    | (refine ⟨trivial, ?_⟩; gi_at_call 41; refine (callsIn_wide.2 HFd.out).mono ?_; rintro e w2 ⟨rfl, hb2⟩))
  have hb02 : Below w0.heap.size w0 w2 := hW.trans (hb2.mono hW.size)
  have h02 := hJ _ _ w2 none h0 (grown_of_below hb2) (fun r e => by cases e)
  clear q1 q2 i0 HIs HFd h0
  gi_loopw [4] (fun i wr => ∃ (k : Nat) (pre : List Pr), k ≤ N ∧ i = .int .i64 (k : Int) ∧ Hid (k0 + pre.length = k) ∧ J pre wr ∧ Below w0.heap.size w0 wr) (fun i _ => N - (intOf i).toNat)
  case atStart => exact ⟨k0, [], hk0N, rfl, Lib.hid rfl, h02, hb02⟩
  case round =>
    clear h02 hb02
    obtain ⟨k, pre, hk, rfl, Hpl, hJs, hnx⟩ := hrel
    have q1 := HBi.out wr hnx
    have hIw := HIt.out wr hnx
    have i1 := hIw.bk.cell 1
    have i0 := hIw.bk.cell 0
    by_cases hlt : k < N
    · have hki : (k : Int) < (N : Int) := by omega
      have hkx : k < (X.map Ex.en).length := by rw [hXl]; exact hlt
      obtain ⟨x, hx⟩ : ∃ x, (X.map Ex.en)[k]? = some x := ⟨_, List.getElem?_eq_getElem hkx⟩
      have HPr := Lib.hid (c_pair wr hIw hx)
      have Hx := Lib.hid hx
      have hsz := hnx.size
      clear hIw hx hkx
      gi_wp2_with (refine ⟨trivial, ?_⟩; gi_at_call 43; refine (callsIn_wide.2 HPr.out).mono ?_; rintro e w4 ⟨u, rfl, m, rfl, hmok, _, hmpl, hn1, hn2, hb4⟩; have hb5 := hb4.alloc hb4.size (.cells #[.slice m.A1 m.n1 m.c1, .slice m.A2 m.n2 m.c2] 35); have HB := Bk.new_ w4 35 #[.slice m.A1 m.n1 m.c1, .slice m.A2 m.n2 m.c2]; have g0 := HB.cell 0; have g1 := HB.cell 1; have hJ1 := hJ _ wr _ none hJs (grown_of_below hb5) (fun r e => by cases e); have hb6 := (Below.refl w4.heap.size w4).alloc (Nat.le_refl _) (.cells #[.slice m.A1 m.n1 m.c1, .slice m.A2 m.n2 m.c2] 35); obtain ⟨fn, tmps, assign, body, hy, hR⟩ := hY pre m _ hJ1 ⟨(hmok.below hb6 (Nat.le_refl _)).more hb6.size, hn1, hn2, x, by rw [Hpl.out]; exact Hx.out, hmpl⟩ (by have := Hpl.out; omega); clear hmok hmpl HB)
      refine hR.mono ?_
      rintro e W3 (⟨rfl, hJ3, hk3⟩ | ⟨rfl, hJx3⟩ | ⟨ch, rfl, hJp⟩)
      · gi_wp2
        go_roundw
        case rel => exact ⟨k + 1, _, by omega, by go_num, Lib.hid (by have := Hpl.out; rw [List.length_append, List.length_singleton]; omega), hJ3, hnx.trans ((hb5.mono hsz).trans hk3)⟩
        case measure => simp [intOf]; omega
      · gi_wp2
        refine bodyPost_ret (results_none rfl _ _ _) rfl ?_
        exact .inl ⟨⟨_, rfl⟩, .inr ⟨_, trivial, hJx3⟩⟩
      · exact ⟨rfl, .inr ⟨ch, rfl, hJp⟩⟩
    · obtain rfl : k = N := by omega
      gi_wp2
      go_end0
      exact .inl ⟨⟨_, rfl⟩, .inl ⟨_, by have := Hpl.out; omega, hJs⟩⟩
end Go.Proofs.Ytjcifmbbdofjiaa
