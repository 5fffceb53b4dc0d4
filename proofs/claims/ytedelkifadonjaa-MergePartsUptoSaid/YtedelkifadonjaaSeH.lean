/- Layer 23: what is found alike: keys and lists that are alike are told alike. -/
import Derived.Test.YtedelkifadonjaaSeG
namespace Go.Proofs.Ytedelkifadonjaa
open Go.RowKit Go.Lec

set_option maxRecDepth 40000 in
set_option maxHeartbeats 800000 in
theorem c_SameKey (w : World) (K : Key) {B1 B2 c1 c2 : Nat} {A1 A2 : Option Addr} (h1 : Rd w B1 A1 (bcs K.srt).length (bcs K.srt)) (h2 : Rd w B2 A2 (bcs K.srt).length (bcs K.srt)) (hB1 : B1 ≤ w.heap.size) (hB2 : B2 ≤ w.heap.size) :
    Calls Try.prog 25 #[.agg #[.int .i64 K.ep, .slice A1 (bcs K.srt).length c1, .int .i64 K.sq, .int .i64 K.kd, .string ⟨K.txt.toArray⟩], .agg #[.int .i64 K.ep, .slice A2 (bcs K.srt).length c2, .int .i64 K.sq, .int .i64 K.kd, .string ⟨K.txt.toArray⟩]] w fun e w' => e = .returned (.bool true) ∧ Below w.heap.size w w' := by
  have hb := ((Below.refl w.heap.size w).alloc (Nat.le_refl _) (.cells #[.int .i64 K.ep, .slice A1 (bcs K.srt).length c1, .int .i64 K.sq, .int .i64 K.kd, .string ⟨K.txt.toArray⟩] 38)).alloc (by simp) (.cells #[.int .i64 K.ep, .slice A2 (bcs K.srt).length c2, .int .i64 K.sq, .int .i64 K.kd, .string ⟨K.txt.toArray⟩] 38)
  have q1 := ((Bk.new_ w 38 #[.int .i64 K.ep, .slice A1 (bcs K.srt).length c1, .int .i64 K.sq, .int .i64 K.kd, .string ⟨K.txt.toArray⟩]).alloc (.cells #[.int .i64 K.ep, .slice A2 (bcs K.srt).length c2, .int .i64 K.sq, .int .i64 K.kd, .string ⟨K.txt.toArray⟩] 38)).cell
  have q2 := (Bk.new_ (w.alloc (.cells #[.int .i64 K.ep, .slice A1 (bcs K.srt).length c1, .int .i64 K.sq, .int .i64 K.kd, .string ⟨K.txt.toArray⟩] 38)) 38 #[.int .i64 K.ep, .slice A2 (bcs K.srt).length c2, .int .i64 K.sq, .int .i64 K.kd, .string ⟨K.txt.toArray⟩]).cell
  have s1 := run_str (P := Try.prog) Try.underlying23 Try.underlying5 Try.underlying9 (c := c1) (h1.below hb hB1)
  have s2 := run_str (P := Try.prog) Try.underlying23 Try.underlying5 Try.underlying9 (c := c2) (h2.below hb hB2)
  rw [World.size_alloc] at q2
  go_enter Try.func25, Try.ntmps25
  go_wp2
  go_ret
  exact ⟨rfl, hb⟩
end Go.Proofs.Ytedelkifadonjaa
namespace Go.Lec
open Go.RowKit
/-- Entry k of what is found: its six cells. -/
theorem Els.fd {w : World} {B n k : Nat} {A : Option Addr} {F : List Fnd} (h : Els encFd w B A n F) (hk : k < n) : ∃ b o m, A = some ⟨b, o, none⟩ ∧ b < B ∧ F[k]? = some m ∧ F.take (k + 1) = F.take k ++ [m] ∧ (Rd w B m.A1 (bcs m.K.srt).length (bcs m.K.srt) ∧ Rd w B m.A2 m.n2 (bcs m.vl) ∧ (bcs m.K.srt).length ≤ m.c1 ∧ m.n2 ≤ m.c2) ∧ ∀ W : World, Below B w W →
    (W.cell? ⟨b, o + k * 6, none⟩ = some (.int .i64 m.K.ep) ∧ W.cell? ⟨b, o + k * 6 + 1, none⟩ = some (.slice m.A1 (bcs m.K.srt).length m.c1) ∧ W.cell? ⟨b, o + k * 6 + 2, none⟩ = some (.int .i64 m.K.sq) ∧ W.cell? ⟨b, o + k * 6 + 3, none⟩ = some (.int .i64 m.K.kd) ∧ W.cell? ⟨b, o + k * 6 + 4, none⟩ = some (.string ⟨m.K.txt.toArray⟩) ∧ W.cell? ⟨b, o + k * 6 + 5, none⟩ = some (.slice m.A2 m.n2 m.c2)) := by
  obtain ⟨b, o, m, e, hb, hm, ht, hok, hc⟩ := h.at hk
  refine ⟨b, o, m, e, hb, hm, ht, ⟨hok.1 _ (List.mem_cons_self), hok.1 _ (List.mem_cons_of_mem _ List.mem_cons_self), hok.2.1, hok.2.2⟩, fun W hW => ⟨hc W hW 0 _ rfl, hc W hW 1 _ rfl, hc W hW 2 _ rfl, hc W hW 3 _ rfl, hc W hW 4 _ rfl, hc W hW 5 _ rfl⟩⟩
end Go.Lec
namespace Go.Proofs.Ytedelkifadonjaa
open Go.RowKit Go.Lec

set_option maxRecDepth 40000 in
set_option maxHeartbeats 1600000 in
theorem c_Same (w : World) {B n1 n2 c1 c2 : Nat} {A1 A2 : Option Addr} {F1 F2 : List Fnd} (h1 : Els encFd w B A1 n1 F1) (h2 : Els encFd w B A2 n2 F2) (hB : B ≤ w.heap.size) (he : F1.map Fnd.pl = F2.map Fnd.pl) (hn : n1 ≤ 1099511627776) :
    Calls Try.prog 13 #[.slice A1 n1 c1, .slice A2 n2 c2] w fun e w' => e = .returned (.bool true) ∧ Below w.heap.size w w' := by
  obtain rfl : n1 = n2 := by rw [← h1.2.1, ← h2.2.1]; simpa using congrArg List.length he
  have He := Lib.hid he
  clear he
  go_enter Try.func13, Try.ntmps13
  go_wp2
  go_loopw [13] (fun i wr => ∃ k : Nat, k ≤ n1 ∧ i = .int .i64 k ∧ Below w.heap.size w wr) (fun i _ => n1 - (intOf i).toNat)
  case atStart => exact ⟨0, Nat.zero_le _, rfl, Below.refl _ _⟩
  case round =>
    obtain ⟨k, hk, rfl, hb⟩ := hrel
    by_cases hlt : k < n1
    · obtain ⟨b1, o1, m1, rfl, hbB1, hm1, -, ⟨r1, v1, -, -⟩, hc1⟩ := h1.fd hlt
      obtain ⟨b2, o2, m2, rfl, hbB2, hm2, -, ⟨r2, v2, -, -⟩, hc2⟩ := h2.fd hlt
      have hpl : m1.pl = m2.pl := by
        have := congrArg (fun l => l[k]?) He.out
        simpa [List.getElem?_map, hm1, hm2] using this
      clear hm1 hm2
      obtain ⟨K, D1, d1, D2, n2, d2, vl⟩ := m1
      obtain ⟨K', E1, e1, E2, n3, e2, vl'⟩ := m2
      simp only [Fnd.pl, Prod.mk.injEq] at hpl
      obtain ⟨rfl, rfl⟩ := hpl
      dsimp only at *
      have hC := fun (W : World) (hW : Below w.heap.size w W) => (And.intro (hc1 W (hW.mono hB)) (And.intro (hc2 W (hW.mono hB)) (And.intro (run_str (P := Try.prog) Try.underlying23 Try.underlying5 Try.underlying9 (c := d2) (v1.below hW hB)) (run_str (P := Try.prog) Try.underlying23 Try.underlying5 Try.underlying9 (c := e2) (v2.below hW hB)))))
      have HC := Lib.hid hC
      have HCall := Lib.hid (c_SameKey wr.drew K (c1 := d1) (c2 := e1) (r1.below hb hB).drew (r2.below hb hB).drew (Nat.le_trans hB hb.size) (Nat.le_trans hB hb.size))
      have i1 : (0 : Int) ≤ (k : Int) := by omega
      have i2 : (k : Int) < (n1 : Int) := by omega
      clear hC hc1 hc2 v1 v2 r1 r2
      go_wp2
      go_region_held3 (fun W => (
        W.cell? ⟨b1, o1 + k * 6, none⟩ = some (.int .i64 K.ep) ∧ W.cell? ⟨b1, o1 + k * 6 + 1, none⟩ = some (.slice D1 (bcs K.srt).length d1) ∧ W.cell? ⟨b1, o1 + k * 6 + 2, none⟩ = some (.int .i64 K.sq) ∧ W.cell? ⟨b1, o1 + k * 6 + 3, none⟩ = some (.int .i64 K.kd) ∧ W.cell? ⟨b1, o1 + k * 6 + 4, none⟩ = some (.string ⟨K.txt.toArray⟩) ∧ W.cell? ⟨b1, o1 + k * 6 + 5, none⟩ = some (.slice D2 n2 d2)
        ) ∧ (
        W.cell? ⟨b2, o2 + k * 6, none⟩ = some (.int .i64 K.ep) ∧ W.cell? ⟨b2, o2 + k * 6 + 1, none⟩ = some (.slice E1 (bcs K.srt).length e1) ∧ W.cell? ⟨b2, o2 + k * 6 + 2, none⟩ = some (.int .i64 K.sq) ∧ W.cell? ⟨b2, o2 + k * 6 + 3, none⟩ = some (.int .i64 K.kd) ∧ W.cell? ⟨b2, o2 + k * 6 + 4, none⟩ = some (.string ⟨K.txt.toArray⟩) ∧ W.cell? ⟨b2, o2 + k * 6 + 5, none⟩ = some (.slice E2 n3 e2)
        ) ∧ Sem.run Try.prog (convert 23 9 (.slice D2 n2 d2)) W = .ok (.string ⟨vl.toArray⟩) W ∧ Sem.run Try.prog (convert 23 9 (.slice E2 n3 e2)) W = .ok (.string ⟨vl.toArray⟩) W)
        ((refine HC.out _ ?_; first | exact hb.drew | exact hb.drew.trans (hbc.mono hb.size)))
        (first | (go_at_call 25; refine HCall.out.mono ?_; rintro e wc ⟨rfl, hbc⟩))
      have hb4 : Below w.heap.size w _ := hb.drew.trans (hbc.mono hb.size)
      go_wp2
      go_roundw
      case rel => exact ⟨k + 1, by omega, by go_num, hb4⟩
      case measure => simp [intOf]; omega
    · obtain rfl : k = n1 := by omega
      go_wp2
      go_ret
      exact ⟨rfl, hb⟩
end Go.Proofs.Ytedelkifadonjaa
