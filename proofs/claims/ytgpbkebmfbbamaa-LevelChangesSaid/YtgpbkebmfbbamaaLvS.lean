/- Layer 24: metas alike. -/
import Derived.Test.YtgpbkebmfbbamaaLvB
namespace Go.Proofs.Ytgpbkebmfbbamaa
open Go.RowKit Go.Lec

set_option maxHeartbeats 1600000 in
theorem c_SameMeta (w : World) {B : Nat} {a b : Mt} (ha : a.ok w B) (hb : b.ok w B) (hB : B ≤ w.heap.size) :
    Calls Try.prog 15 #[a.val, b.val] w fun e w' => e = .returned (.bool (a.same b)) ∧ Below w.heap.size w w' := by
  have hk1 := (Bk.new_ w 44 #[.int .i64 a.num, .int .i64 a.size, .int .i64 a.cnt, .slice a.A1 a.n1 a.c1, .slice a.A2 a.n2 a.c2])
  have hk2 := (Bk.new_ (w.alloc (.cells #[.int .i64 a.num, .int .i64 a.size, .int .i64 a.cnt, .slice a.A1 a.n1 a.c1, .slice a.A2 a.n2 a.c2] 44)) 44 #[.int .i64 b.num, .int .i64 b.size, .int .i64 b.cnt, .slice b.A1 b.n1 b.c1, .slice b.A2 b.n2 b.c2])
  have hk3 := hk1.alloc (.cells #[.int .i64 b.num, .int .i64 b.size, .int .i64 b.cnt, .slice b.A1 b.n1 b.c1, .slice b.A2 b.n2 b.c2] 44)
  have q2 := hk2.cell
  have q3 := hk3.cell
  rw [World.size_alloc] at q2
  have ha' := (ha.alloc hB (.cells #[.int .i64 a.num, .int .i64 a.size, .int .i64 a.cnt, .slice a.A1 a.n1 a.c1, .slice a.A2 a.n2 a.c2] 44)).alloc (by simp; omega) (.cells #[.int .i64 b.num, .int .i64 b.size, .int .i64 b.cnt, .slice b.A1 b.n1 b.c1, .slice b.A2 b.n2 b.c2] 44)
  have hb' := (hb.alloc hB (.cells #[.int .i64 a.num, .int .i64 a.size, .int .i64 a.cnt, .slice a.A1 a.n1 a.c1, .slice a.A2 a.n2 a.c2] 44)).alloc (by simp; omega) (.cells #[.int .i64 b.num, .int .i64 b.size, .int .i64 b.cnt, .slice b.A1 b.n1 b.c1, .slice b.A2 b.n2 b.c2] 44)
  have v1 := run_str (P := Try.prog) Try.underlying22 Try.underlying5 Try.underlying9 (c := a.c1) ha'.1
  have v2 := run_str (P := Try.prog) Try.underlying22 Try.underlying5 Try.underlying9 (c := a.c2) ha'.2.1
  have v3 := run_str (P := Try.prog) Try.underlying22 Try.underlying5 Try.underlying9 (c := b.c1) hb'.1
  have v4 := run_str (P := Try.prog) Try.underlying22 Try.underlying5 Try.underlying9 (c := b.c2) hb'.2.1
  clear ha' hb' hk1 hk2 hk3
  have hfin : ∀ (o1 o2 : Obj), Below w.heap.size w ((w.alloc o1).alloc o2) := fun o1 o2 => ((Below.refl _ _).alloc (Nat.le_refl _) _).alloc (by simp) _
  go_enter Try.func15, Try.ntmps15
  unfold Mt.val Mt.same
  cases h1 : (a.num == b.num)
  · go_wp2
    go_ret
    exact ⟨rfl, hfin _ _⟩
  cases h2 : (a.size == b.size)
  · go_wp2
    go_ret
    exact ⟨rfl, hfin _ _⟩
  cases h3 : (a.cnt == b.cnt)
  · go_wp2
    go_ret
    exact ⟨rfl, hfin _ _⟩
  cases h4 : (a.first == b.first)
  · go_wp2
    go_ret
    exact ⟨rfl, hfin _ _⟩
  cases h5 : (a.last == b.last)
  · go_wp2
    go_ret
    exact ⟨rfl, hfin _ _⟩
  · go_wp2
    go_ret
    exact ⟨rfl, hfin _ _⟩
end Go.Proofs.Ytgpbkebmfbbamaa
