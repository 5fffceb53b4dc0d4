/- Layer 1: what a death needs: the next number; a map keyed by files. -/
import Derived.Test.YtaanmnplfppdeaaGreatFsI
import Derived.Deep.QuietTactic
import Derived.BigQuiet
namespace Go.Fsy
theorem keepAt_of {l : List Int} (h : l.length ≠ 0) (i : Nat) : keepAt l i = l.getD (i % l.length) 0 := by rw [keepAt, if_neg h]
end Go.Fsy
namespace Go.Proofs.YtaanmnplfppdeaaGreat
open Go.RowKit Go.Lec Go.Fsy Go.Op Go.Maps
/-- What the next number leaves. -/
def NextP (w : World) (ab : Nat) (l : List Int) (i : Nat) (e : Ending) (w' : World) : Prop := e = .returned (.int .i64 (keepAt l i)) ∧ Bk w' ab 3 #[.int .i64 (adv l i : Nat)] ∧ KbP (fun b => b = ab) w w'
set_option maxRecDepth 40000 in
set_option maxHeartbeats 800000 in
theorem c_next (w : World) {fb ab pb cK i : Nat} {AK : Option Addr} {l : List Int} (q0 : w.cell? ⟨pb, 0, none⟩ = some (.pointer (some ⟨fb, 0, none⟩))) (q2 : w.cell? ⟨fb, 2, none⟩ = some (.slice AK l.length cK)) (hr : Rd w w.heap.size AK l.length (ics l)) (hA : Bk w ab 3 #[.int .i64 (i : Int)]) (hi : i ≤ 2199023255552) (hl : l.length ≤ 1099511627776) :
    Calls Tryz.prog 70 #[.pointer (some ⟨pb, 0, none⟩), .pointer (some ⟨ab, 0, none⟩)] w (NextP w ab l i) := by
  have qa := hA.cell 0
  have za := hA.frz 0
  obtain ⟨n, hn⟩ : ∃ n, n = l.length := ⟨_, rfl⟩
  by_cases h0 : n = 0
  · have hk : keepAt l i = 0 := by rw [keepAt, if_pos (by omega)]
    have ha : adv l i = i := by rw [adv, if_pos (by omega)]
    have Hk := Lib.hid hk
    have Ha := Lib.hid ha
    rw [← hn, h0] at q2
    clear hr hk ha hn h0
    go_enter Tryz.func70, Tryz.ntmps70
    go_wp2
    go_ret
    exact ⟨by rw [Hk.out]; rfl, by rw [Ha.out]; exact hA, KbP.refl _ _⟩
  · have hk := keepAt_of (l := l) (by omega) i
    have ha : adv l i = i + 1 := by rw [adv, if_neg (by omega)]
    have hlt : i % n < n := Nat.mod_lt _ (by omega)
    obtain ⟨r, hrr⟩ : ∃ r, r = i % n := ⟨_, rfl⟩
    rw [← hn, ← hrr] at hk
    rw [← hrr] at hlt
    obtain ⟨b, o, rfl, _, qe⟩ := hr.int (k := r) (by omega)
    have hm : (i : Int) % (n : Int) = (r : Int) := by rw [hrr, Int.natCast_emod]
    have hz : ((n : Int) == 0) = false := by rw [beq_eq_false_iff_ne]; omega
    rw [← hk] at qe
    obtain ⟨kv, hkv⟩ : ∃ kv, kv = keepAt l i := ⟨_, rfl⟩
    rw [← hkv] at qe
    have Hkv := Lib.hid hkv
    have Ha := Lib.hid ha
    have Hm := Lib.hid hm
    rw [← hn] at q2
    have i1 : (0 : Int) ≤ (r : Int) := by omega
    have i2 : (r : Int) < (n : Int) := by omega
    clear hr hk ha hn hrr hkv
    go_enter Tryz.func70, Tryz.ntmps70
    go_wp2
    go_quiet (fail)
    go_wp2
    go_ret
    exact ⟨by rw [← Hkv.out]; rfl, by rw [Ha.out]; exact (hA.drewN _).set_ 0 _, ((KbP.refl (fun b => b = ab) w).drewN _).setCell (p := ⟨ab, 0, none⟩) (.inl rfl) _⟩
end Go.Proofs.YtaanmnplfppdeaaGreat
