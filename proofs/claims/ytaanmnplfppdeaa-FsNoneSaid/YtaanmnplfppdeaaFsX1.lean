/- Layer 1: a file is renamed: the walk of Rename. -/
import Derived.Test.YtaanmnplfppdeaaFsW
namespace Go.Proofs.Ytaanmnplfppdeaa
open Go.RowKit Go.Lec Go.Fsy Go.Op Go.Maps
set_option maxRecDepth 100000 in
set_option maxHeartbeats 1600000 in
theorem c_Rename (w : World) {X I : Nat → Prop} {fb N : Nat} {s : St} {a c : Bs} (h : FsP X I w fb s) (hi : Fsy.Inv s N) (hN : N ≤ 1048575) (hp : s.pl.ok) (hn : a.length ≤ 4294967296) (hn2 : c.length ≤ 4294967296) :
    Calls Try.prog 11 #[ptrV fb, .string ⟨a.toArray⟩, .string ⟨c.toArray⟩] w (UpdP X I w fb (Fsy.rename s a c)) := by
  have HO := Lib.hid (c_op w h hi hN hp)
  unfold OpP at HO
  have hbi := hi.begin
  obtain ⟨b, hb⟩ : ∃ x, x = Fsy.begin s := ⟨_, rfl⟩
  have hsd : Fsy.rename s a c = if b.2 ≠ 0 then b else match node b.1.dir a with | none => (b.1, 14) | some i => if may c = false then (b.1, 15) else if a = c then (b.1, 0) else (Fsy.step b.1 (.ren a c i), 0) := by rw [hb]; rfl
  rw [← hb] at HO hbi
  rw [hsd]
  clear hsd hb h hi hp
  have HM := Lib.hid (fun W => c_may W c hn2)
  unfold ptrV at *
  by_cases hc : b.2 = 0
  · rw [if_neg (by simpa using hc)]
    rw [hc] at HO
    have HLK := Lib.hid (fun (W : World) (X1 I1 : Nat → Prop) (G : Geo) (hG : FsG X1 I1 W fb b.1 G) => look_ok hG.dmap hG.rep1 hn)
    cases hnd : node b.1.dir a with
    | none =>
      rw [hnd] at HLK
      clear hc
      go_enter Try.func11, Try.ntmps11
      go_wp2_with (first | (go_at_call 24; refine HO.out.mono ?_; rintro e w1 ⟨n, rfl, hn1, X1, I1, ⟨G, hG⟩, hg1⟩; have c8 : w1.cell? ⟨fb, 8, none⟩ = some (.map (some G.dm)) := hG.bk.cell 8; have hlk := HLK.out w1 X1 I1 G hG))
      go_ret
      exact ⟨rfl, X1, I1, ⟨G, hG⟩, hg1⟩
    | some i =>
      rw [hnd] at HLK
      have hdl := hbi.nDir
      have hml := hbi.nSafe
      have hd0 := hbi.dir.2 _ (node_some hnd)
      obtain ⟨mc, hmc⟩ : ∃ x, x = may c := ⟨_, rfl⟩
      rw [← hmc] at HM
      show Calls _ _ _ _ (UpdP X I w fb (if may c = false then (b.1, 15) else if a = c then (b.1, 0) else (Fsy.step b.1 (.ren a c i), 0)))
      rw [← hmc]
      clear hc
      unfold ptrV at *
      cases mc with
      | false =>
        rw [if_pos rfl]
        clear hmc
        go_enter Try.func11, Try.ntmps11
        go_wp2_with (first | (go_at_call 24; refine HO.out.mono ?_; rintro e w1 ⟨n, rfl, hn1, X1, I1, ⟨G, hG⟩, hg1⟩; have c8 : w1.cell? ⟨fb, 8, none⟩ = some (.map (some G.dm)) := hG.bk.cell 8; have hlk := HLK.out w1 X1 I1 G hG) | (go_at_call 25; refine (HM.out _).mono ?_; rintro e w2 ⟨rfl, rfl⟩))
        go_ret
        exact ⟨rfl, X1, I1, ⟨G, hG⟩, hg1⟩
      | true =>
        rw [if_neg (by decide)]
        have hcn := may_ne hmc.symm
        clear hmc
        by_cases hac : a = c
        · rw [if_pos hac]
          subst hac
          go_enter Try.func11, Try.ntmps11
          go_wp2_with (first | (go_at_call 24; refine HO.out.mono ?_; rintro e w1 ⟨n, rfl, hn1, X1, I1, ⟨G, hG⟩, hg1⟩; have c8 : w1.cell? ⟨fb, 8, none⟩ = some (.map (some G.dm)) := hG.bk.cell 8; have hlk := HLK.out w1 X1 I1 G hG) | (go_at_call 25; refine (HM.out _).mono ?_; rintro e w2 ⟨rfl, rfl⟩))
          go_ret
          exact ⟨rfl, X1, I1, ⟨G, hG⟩, hg1⟩
        · rw [if_neg hac]
          have hac3 : (a == c) = false := by rw [beq_eq_false_iff_ne]; exact hac
          have HST := Lib.hid (fun (W : World) (X1 I1 : Nat → Prop) (G : Geo) (hG : FsG X1 I1 W fb b.1 G) => c_step W (N := b.1.nodes.length) (m := .ren a c i) hG.bk hG.dmap hG.rep1 hbi.dir.1 hG.mvs ⟨hd0.1, hcn, hd0.2.2⟩ ⟨hn, hn2⟩ (by omega) (by omega))
          unfold mvCs svl ptrV at HST
          go_enter Try.func11, Try.ntmps11
          go_wp2_with (first | (go_at_call 24; refine HO.out.mono ?_; rintro e w1 ⟨n, rfl, hn1, X1, I1, ⟨G, hG⟩, hg1⟩; have c8 : w1.cell? ⟨fb, 8, none⟩ = some (.map (some G.dm)) := hG.bk.cell 8; have hlk := HLK.out w1 X1 I1 G hG; have HS := Lib.hid (HST.out w1 X1 I1 G hG)) | (go_at_call 25; refine (HM.out _).mono ?_; rintro e w2 ⟨rfl, rfl⟩) | (go_at_call 27; refine HS.out.mono ?_; rintro e w4 hS4; obtain rfl := hS4.1))
          go_ret
          obtain ⟨X2, hP2, hg2⟩ := hG.stepped (fun j h => by cases h; exact .inl ⟨_, node_some hnd⟩) hS4
          exact ⟨rfl, X2, I1, hP2, hg1.trans hg2⟩
  · rw [if_pos hc]
    obtain ⟨st, cd⟩ := b
    simp only at hc HO
    have hcd : (cd == 0) = false := by rw [beq_eq_false_iff_ne]; exact hc
    go_enter Try.func11, Try.ntmps11
    go_wp2_with (first | (go_at_call 24; refine HO.out.mono ?_; rintro e w1 ⟨n, rfl, hn1, X1, I1, hP1, hg1⟩))
    go_ret
    exact ⟨rfl, X1, I1, hP1, hg1⟩
end Go.Proofs.Ytaanmnplfppdeaa
