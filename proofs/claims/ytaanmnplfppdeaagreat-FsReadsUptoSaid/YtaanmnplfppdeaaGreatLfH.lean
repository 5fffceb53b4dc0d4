/- Layer 1: the walk of FsReads. -/
import Derived.Test.YtaanmnplfppdeaaGreatLfD
namespace Go.Proofs.YtaanmnplfppdeaaGreat
open Go.RowKit Go.Lec Go.Fsy Go.Op Go.Maps
set_option maxRecDepth 100000 in
set_option maxHeartbeats 4000000 in
theorem w_FsReads (w : World) {n c : Nat} {p : Pl} {AK AF AU A : Option Addr} {cK cF cU : Nat} {L : List OpR} {name : Bs} {k m : Int} (hP : PlOk (fun b => b < w.heap.size) w p AK cK AF cF AU cU) (hpo : p.ok) (h : OpsR w.heap.size w A n L) (hn : n ≤ 1048576)
    (hnm : name.length ≤ 1048576) (hk1 : -9223372036854775808 ≤ k) (hk2 : k ≤ 9223372036854775807) (hm1 : -9223372036854775808 ≤ m) (hm2 : m ≤ 9223372036854775807) :
    Calls Tryz.prog 6 #[plV p AK cK AF cF AU cU, .slice A n c, .string ⟨name.toArray⟩, .int .i64 k, .int .i64 m] w fun e w' => e = .returned (.bool true) ∧ Below w.heap.size w w' := by
  have hb0 := (Below.refl w.heap.size w).alloc (Nat.le_refl _) (.cells #[.int .i64 p.crash, .slice AK p.keep.length cK, .slice AF p.fail.length cF, .slice AU p.full.length cU, .int .i64 p.room] 24)
  have hB0 := Bk.new_ w 24 #[.int .i64 p.crash, .slice AK p.keep.length cK, .slice AF p.fail.length cF, .slice AU p.full.length cU, .int .i64 p.room]
  have HPl := Lib.hid (fun (W : World) (hb : Below w.heap.size w W) => hP.kbP (kbP_of_below hb) (fun b h1 h2 => by omega))
  have HFi := Lib.hid (fun (W : World) (hb : Below w.heap.size w W) => c_fits W (c := c) (h.below hb) hn)
  have hll : (L.map OpR.o).length = n := by rw [List.length_map, h.len]
  have H := Lib.hid h
  have hps : ∀ o ∈ L.map OpR.o, o.p.ok := by
    intro o ho
    obtain ⟨x, hx, rfl⟩ := List.mem_map.1 ho
    exact (h.ok x hx).pk
  have Hi := Lib.hid ((Inv.new p).runs (l := L.map OpR.o))
  have Hb0 := Lib.hid hb0
  unfold plV at *
  cases hfw : few (L.map OpR.o) with
  | false =>
    rw [hfw] at HFi
    clear hfw hP h hll hps hb0
    go_enter Tryz.func6, Tryz.ntmps6
    go_wp2_with (first
      | (go_at_call 9; refine (c_awake _).mono ?_; rintro e wA ⟨rfl, hbA⟩; have bA := Hb0.out.trans (hbA.mono Hb0.out.size))
      | (go_at_call 10; refine (HFi.out wA bA).mono ?_; rintro e wF ⟨rfl, hbF⟩))
    go_ret
    exact ⟨rfl, bA.trans (hbF.mono bA.size)⟩
  | true =>
    have hn3 : n ≤ 3000 := by have := few_len hfw; rw [hll] at this; exact this
    rw [hfw] at HFi
    rw [hll] at Hi
    obtain ⟨s, hs⟩ : ∃ s, s = runs (new p) (L.map OpR.o) := ⟨_, rfl⟩
    have HM := Lib.hid (fun (W : World) (hb : Below w.heap.size w W) => c_made W (c := c) (HPl.out W hb) hpo (H.out.below hb) hn3 hb.size)
    rw [← hs] at HM Hi
    unfold MadeP plV ptrV at *
    clear hfw hn hP h hll hps hb0 hs
    go_enter Tryz.func6, Tryz.ntmps6
    go_wp2_with (first
      | (go_at_call 9; refine (c_awake _).mono ?_; rintro e wA ⟨rfl, hbA⟩; have bA := Hb0.out.trans (hbA.mono Hb0.out.size); have BA := hB0.below hbA hB0.lt)
      | (go_at_call 10; refine (HFi.out wA bA).mono ?_; rintro e wF ⟨rfl, hbF⟩; have bF := bA.trans (hbF.mono bA.size); have BF := (BA.below hbF BA.lt).cell)
      | (go_at_call 11; refine (HM.out wF bF).mono ?_; rintro e wM ⟨fb, rb, rfl, hT, hbM⟩
         obtain ⟨X, I, Y, J, hf, hr, _, _, _⟩ := hT
         have bM := bF.trans hbM
         have HR1 := Lib.hid (c_Read wM (name := name) hf Hi.out (by omega) hk1 hk2 hm1 hm2)
         unfold ReadP ptrV at HR1
         obtain ⟨r, hre⟩ : ∃ r, r = Fsy.read s name k m := ⟨_, rfl⟩
         rw [← hre] at HR1
         obtain ⟨rl, hrl⟩ : ∃ n, n = r.1.length := ⟨_, rfl⟩
         rw [← hrl] at HR1
         have Hre := Lib.hid hre
         have Hrl := Lib.hid hrl
         clear hre hrl)
      | (go_at_call 20; refine HR1.out.mono ?_; rintro e w1 ⟨A1, c1, rfl, hR1, hc1, hb1⟩
         have HR2 := Lib.hid (c_rRead w1 (name := name) (hr.below hb1) Hi.out (by omega) hk1 hk2 hm1 hm2)
         unfold RreadP ptrV at HR2
         rw [← Hre.out, ← Hrl.out] at HR2)
      | (go_at_call 21; refine HR2.out.mono ?_; rintro e w2 ⟨A2, c2, rfl, hR2, hb2⟩
         have HS1 := Lib.hid (c_Size w2 (name := name) ((hf.below hb1).below hb2) Hi.out (by omega))
         unfold ptrV at HS1
         obtain ⟨z, hz⟩ : ∃ z, z = Fsy.size s name := ⟨_, rfl⟩
         rw [← hz] at HS1
         have Hz := Lib.hid hz
         clear hz)
      | (go_at_call 22; refine HS1.out.mono ?_; rintro e w3 ⟨rfl, rfl⟩
         have HS2 := Lib.hid (c_rSize w3 (name := name) ((hr.below hb1).below hb2) Hi.out (by omega))
         unfold ptrV at HS2
         rw [← Hz.out] at HS2)
      | (go_at_call 23; refine HS2.out.mono ?_; rintro e w4 ⟨rfl, hb4⟩
         have t1 := run_str (P := Tryz.prog) Tryz.underlying28 Tryz.underlying5 Tryz.underlying9 (c := c1) (RdP.below (RdP.below hR1 hb2) hb4).rd
         have t2 := run_str (P := Tryz.prog) Tryz.underlying28 Tryz.underlying5 Tryz.underlying9 (c := c2) (hR2.below hb4 (Nat.le_refl _))))
    go_ret
    exact ⟨rfl, ((bM.trans (hb1.mono bM.size)).trans (hb2.mono (Nat.le_trans bM.size hb1.size))).trans (hb4.mono (Nat.le_trans (Nat.le_trans bM.size hb1.size) hb2.size))⟩
end Go.Proofs.YtaanmnplfppdeaaGreat
