/- Layer 24: files that meet a range; the ends of files; two lists, one behind the other. -/
import Derived.Test.YtgpbkebmfbbamaaLvF
import Derived.Lib.AppendZeros
namespace Go.Lec
/-- Whether a file meets a range. -/
def meets (first last : List UInt8) (m : Mt) : Bool := decide (Lib.compareBytes m.first last ≤ 0) && decide (Lib.compareBytes first m.last ≤ 0)
/-- The ends of files. -/
def endF (L : List Mt) : List UInt8 := match minL (fun a b => Lib.compareBytes a.first b.first) L with | some m => m.first | none => []
def endL (L : List Mt) : List UInt8 := match minL (fun a b => Lib.compareBytes b.last a.last) L with | some m => m.last | none => []
end Go.Lec
namespace Go.Proofs.Ytgpbkebmfbbamaa
open Go.RowKit Go.Lec

set_option maxHeartbeats 800000 in
theorem c_takesAll (w : World) (m : Mt) : Calls Try.prog 33 #[.agg #[.int .i64 m.num, .int .i64 m.size, .int .i64 m.cnt, .slice m.A1 m.n1 m.c1, .slice m.A2 m.n2 m.c2]] w fun e w' => e = .returned (.bool true) ∧ Below w.heap.size w w' := by
  go_enter Try.func33, Try.ntmps33
  go_wp2
  go_ret
  exact ⟨rfl, (Below.refl _ _).alloc (Nat.le_refl _) _⟩

set_option maxHeartbeats 1600000 in
theorem c_Overlap1 (w : World) {B : Nat} {m : Mt} (hm : m.ok w B) (hB : B ≤ w.heap.size) {A1 A2 : Option Addr} {n1 c1 n2 c2 b1 b2 : Nat} {f l : List UInt8} (h1 : Bk w b1 22 #[.slice A1 n1 c1]) (h2 : Bk w b2 22 #[.slice A2 n2 c2])
    {B1 B2 : Nat} (hr1 : Rd w B1 A1 n1 (bcs f)) (hr2 : Rd w B2 A2 n2 (bcs l)) (hB1 : B1 ≤ w.heap.size) (hB2 : B2 ≤ w.heap.size) :
    Calls Try.prog 53 #[.agg #[.int .i64 m.num, .int .i64 m.size, .int .i64 m.cnt, .slice m.A1 m.n1 m.c1, .slice m.A2 m.n2 m.c2], .pointer (some ⟨b2, 0, none⟩), .pointer (some ⟨b1, 0, none⟩)] w fun e w' => e = .returned (.bool (meets f l m)) ∧ Below w.heap.size w w' := by
  have hk := (Bk.new_ w 44 #[.int .i64 m.num, .int .i64 m.size, .int .i64 m.cnt, .slice m.A1 m.n1 m.c1, .slice m.A2 m.n2 m.c2]).cell
  have q1 := (h1.alloc (.cells #[.int .i64 m.num, .int .i64 m.size, .int .i64 m.cnt, .slice m.A1 m.n1 m.c1, .slice m.A2 m.n2 m.c2] 44)).cell
  have q2 := (h2.alloc (.cells #[.int .i64 m.num, .int .i64 m.size, .int .i64 m.cnt, .slice m.A1 m.n1 m.c1, .slice m.A2 m.n2 m.c2] 44)).cell
  have hm' := hm.alloc hB (.cells #[.int .i64 m.num, .int .i64 m.size, .int .i64 m.cnt, .slice m.A1 m.n1 m.c1, .slice m.A2 m.n2 m.c2] 44)
  have r1 := hr1.alloc hB1 (.cells #[.int .i64 m.num, .int .i64 m.size, .int .i64 m.cnt, .slice m.A1 m.n1 m.c1, .slice m.A2 m.n2 m.c2] 44)
  have r2 := hr2.alloc hB2 (.cells #[.int .i64 m.num, .int .i64 m.size, .int .i64 m.cnt, .slice m.A1 m.n1 m.c1, .slice m.A2 m.n2 m.c2] 44)
  clear h1 h2 hr1 hr2 hm
  unfold meets
  obtain ⟨x, hx⟩ : ∃ x, x = Lib.compareBytes m.first l := ⟨_, rfl⟩
  obtain ⟨y, hy⟩ : ∃ y, y = Lib.compareBytes f m.last := ⟨_, rfl⟩
  rw [← hx, ← hy]
  have Hx := Lib.hid hx
  have Hy := Lib.hid hy
  clear hx hy
  by_cases h : x ≤ 0
  · rw [decide_eq_true h, Bool.true_and]
    go_enter Try.func53, Try.ntmps53
    go_wp2_with fail
    refine (c_bCompare _ hm'.1 r2).mono ?_
    rintro e w' ⟨rfl, rfl⟩
    rw [← Hx.out]
    go_wp2_with fail
    refine (c_bCompare _ r1 hm'.2.1).mono ?_
    rintro e w' ⟨rfl, rfl⟩
    rw [← Hy.out]
    go_wp2
    go_ret
    exact ⟨rfl, (Below.refl _ _).alloc (Nat.le_refl _) _⟩
  · rw [decide_eq_false h, Bool.false_and]
    go_enter Try.func53, Try.ntmps53
    go_wp2_with fail
    refine (c_bCompare _ hm'.1 r2).mono ?_
    rintro e w' ⟨rfl, rfl⟩
    rw [← Hx.out]
    go_wp2
    go_ret
    exact ⟨rfl, (Below.refl _ _).alloc (Nat.le_refl _) _⟩

set_option maxHeartbeats 1600000 in
theorem c_Overlap (w : World) {B : Nat} {A : Option Addr} {n c : Nat} {L : List Mt} (hr : Mts w B A n L) (hB : B ≤ w.heap.size) (hn : n ≤ 1099511627) {A1 A2 : Option Addr} {n1 c1 n2 c2 : Nat} {f l : List UInt8}
    {B1 B2 : Nat} (hr1 : Rd w B1 A1 n1 (bcs f)) (hr2 : Rd w B2 A2 n2 (bcs l)) (hB1 : B1 ≤ w.heap.size) (hB2 : B2 ≤ w.heap.size) :
    Calls Try.prog 30 #[.slice A n c, .slice A1 n1 c1, .slice A2 n2 c2] w (PickPost w (L.filter (meets f l))) := by
  have hmf : ∀ (fn : Fn) (first cap : Array Value) (w : World), (Instr.makeFunc fn first cap).run Try.prog w = .ok (.func fn first cap) w := fun _ _ _ _ => rfl
  have h1 := (Bk.new_ w 22 #[.slice A1 n1 c1]).alloc (.cells #[.slice A2 n2 c2] 22)
  have h2 := (Bk.new_ (w.alloc (.cells #[.slice A1 n1 c1] 22)) 22 #[.slice A2 n2 c2])
  rw [World.size_alloc] at h2
  have hb : Below w.heap.size w ((w.alloc (.cells #[.slice A1 n1 c1] 22)).alloc (.cells #[.slice A2 n2 c2] 22)) := ((Below.refl _ _).alloc (Nat.le_refl _) _).alloc (by simp) _
  have hs : ((w.alloc (.cells #[.slice A1 n1 c1] 22)).alloc (.cells #[.slice A2 n2 c2] 22)).heap.size = w.heap.size + 2 := by simp
  go_enter Try.func30, Try.ntmps30
  go_wp2_with fail
  obtain ⟨W0, hW⟩ : ∃ W, W = ((w.alloc (.cells #[.slice A1 n1 c1] 22)).alloc (.cells #[.slice A2 n2 c2] 22)) := ⟨_, rfl⟩
  rw [← hW] at h1 h2 hb hs ⊢
  clear hW
  refine (c_picked W0 (hr.below hb hB) (by omega) hn 53 #[.pointer (some ⟨w.heap.size + 1, 0, none⟩), .pointer (some ⟨w.heap.size, 0, none⟩)] (meets f l) (fun _ _ => by simp [go_sem]) ?_).mono ?_
  · intro W m hm hW
    have hWs := hW.size
    exact c_Overlap1 W (((hr.below hb hB).2 m hm).below hW (by omega)) (by omega) (h1.below hW (by omega)) (h2.below hW (by omega)) ((hr1.below hb hB1).below hW (by omega)) ((hr2.below hb hB2).below hW (by omega)) (by omega) (by omega)
  · rintro e w' ⟨A', n', c', L', rfl, hc', ho', hm', hpl', hhi', hb'⟩
    go_wp2
    go_ret
    exact ⟨A', n', c', L', rfl, hc', ho'.mono (by omega), hm', hpl', fun m hm => (hhi' m hm).mono (by omega), hb.trans (hb'.mono (by omega))⟩

theorem field3 (m : Mt) (w : World) : (Instr.field 44 (.agg #[.int .i64 m.num, .int .i64 m.size, .int .i64 m.cnt, .slice m.A1 m.n1 m.c1, .slice m.A2 m.n2 m.c2]) 3).run Try.prog w = .ok (.slice m.A1 m.n1 m.c1) w := by
  simp [Instr.field, part, asAgg, go_sem, run_underlying Try.underlying44]
theorem field4 (m : Mt) (w : World) : (Instr.field 44 (.agg #[.int .i64 m.num, .int .i64 m.size, .int .i64 m.cnt, .slice m.A1 m.n1 m.c1, .slice m.A2 m.n2 m.c2]) 4).run Try.prog w = .ok (.slice m.A2 m.n2 m.c2) w := by
  simp [Instr.field, part, asAgg, go_sem, run_underlying Try.underlying44]

/-- What 'ends' answers: the two ends, each in memory of its own. -/
def EndsPost (w : World) (f l : List UInt8) (e : Ending) (w' : World) : Prop :=
  ∃ A1 c1 A2 c2, e = .returned (.tuple #[.slice A1 f.length c1, .slice A2 l.length c2]) ∧ f.length ≤ c1 ∧ l.length ≤ c2 ∧ Own w' w.heap.size 5 (.slice A1 f.length c1) (bcs f) ∧ Own w' w.heap.size 5 (.slice A2 l.length c2) (bcs l) ∧ Below w.heap.size w w'

set_option maxHeartbeats 1600000 in
theorem c_ends (w : World) {B : Nat} {A : Option Addr} {n c : Nat} {L : List Mt} (hr : Mts w B A n L) (hB : B ≤ w.heap.size) (hn : n ≤ 1099511627) (h0 : 0 < n) :
    Calls Try.prog 29 #[.slice A n c] w (EndsPost w (endF L) (endL L)) := by
  obtain ⟨E1, hE1⟩ : ∃ E, E = endF L := ⟨_, rfl⟩
  obtain ⟨E2, hE2⟩ : ∃ E, E = endL L := ⟨_, rfl⟩
  rw [← hE1, ← hE2]
  have HE1 := Lib.hid hE1
  have HE2 := Lib.hid hE2
  clear hE1 hE2
  go_enter Try.func29, Try.ntmps29
  go_wp2_with fail
  refine (c_most w hr hB hn h0 49 (fun a b => Lib.compareBytes b.first a.first) (fun _ _ => by simp [go_sem]) ?_).mono ?_
  · intro W a b ha hb hW
    exact c_ends1 W ((hr.2 a ha).below hW hB) ((hr.2 b hb).below hW hB) (by have := hW.size; omega)
  rintro e w1 ⟨m1, hm1, rfl, hb1⟩
  have Hm1 := Lib.hid hm1
  have hf1 := field3 m1
  have hs1 := hb1.size
  clear hm1
  go_wp2_with fail
  refine (c_most w1 (hr.below hb1 hB) (by omega) hn h0 51 (fun a b => Lib.compareBytes a.last b.last) (fun _ _ => by simp [go_sem]) ?_).mono ?_
  · intro W a b ha hb hW
    exact c_ends2 W (((hr.2 a ha).below hb1 hB).below hW (by omega)) (((hr.2 b hb).below hb1 hB).below hW (by omega)) (by have := hW.size; omega)
  rintro e w2 ⟨m2, hm2, rfl, hb2⟩
  have hm1 := Hm1.out
  have hf2 := field4 m2
  have hs2 := hb2.size
  have ho1 := (((hr.2 m1 (minL_mem _ hm1)).below hb1 hB).below hb2 (by omega))
  have ho2 := (((hr.2 m2 (minL_mem _ hm2)).below hb1 hB).below hb2 (by omega))
  have he1 : m1.first = E1 := by rw [HE1.out]; unfold endF; rw [hm1]
  have he2 : m2.last = E2 := by rw [HE2.out]; unfold endL; rw [hm2]
  clear hm1 hm2
  obtain ⟨r1, -, -, -, k1, -⟩ := ho1
  obtain ⟨-, r2, -, -, -, k2⟩ := ho2
  rw [he1] at r1
  rw [he2] at r2
  clear he1 he2
  go_wp2_with fail
  refine (c_Clone w2 r1 (by omega) k1).mono ?_
  rintro e w3 ⟨v3, rfl, ho3, hb3⟩
  have hs3 := hb3.size
  obtain ⟨A3, c3, rfl, hc3⟩ := ho3.shapeN (bcs_length _)
  go_wp2_with fail
  refine (c_Clone w3 (r2.below hb3 (by omega)) (by omega) k2).mono ?_
  rintro e w4 ⟨v4, rfl, ho4, hb4⟩
  obtain ⟨A4, c4, rfl, hc4⟩ := ho4.shapeN (bcs_length _)
  go_wp2
  go_ret2
  exact ⟨A3, c3, A4, c4, rfl, hc3, hc4, (ho3.below hb4 (Nat.le_refl _)).mono (by omega), ho4.mono (by omega), ((hb1.trans (hb2.mono hs1)).trans (hb3.mono (by omega))).trans (hb4.mono (by omega))⟩
end Go.Proofs.Ytgpbkebmfbbamaa
