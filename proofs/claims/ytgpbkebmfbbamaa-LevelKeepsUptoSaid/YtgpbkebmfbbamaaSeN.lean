/- Layer 24, LevelKeeps: how pairs are cut into files by the document: the walk of the reference's Cut. -/
import Derived.Test.YtgpbkebmfbbamaaSeM
namespace Go.Lec
open Go.RowKit
theorem cutSt_last (most : Int) (l : List PairB) (p : PairB) : (cutSt most (l ++ [p])).last = preO p := by
  simp [cutSt, CSt.step, CSt.add]
end Go.Lec
namespace Go.Proofs.Ytgpbkebmfbbamaa
open Go.RowKit Go.Lec
/-- What prefix answers. -/
def PrePost (w : World) (p : PairB) (e : Ending) (w' : World) : Prop := ∃ (P : List UInt8) (is_ : Bool), e = .returned (.tuple #[.string ⟨P.toArray⟩, .bool is_]) ∧ preO p = (if is_ then some P else none) ∧ Below w.heap.size w w'

set_option maxRecDepth 40000 in
set_option maxHeartbeats 1600000 in
theorem c_prefix (w : World) {B : Nat} (m : Pr) (hm : m.ok w B) (hB : B ≤ w.heap.size) (hn : m.n1 ≤ 1000000) :
    Calls Try.prog 42 #[.agg #[.slice m.A1 m.n1 m.c1, .slice m.A2 m.n2 m.c2]] w (PrePost w m.pl) := by
  have hb0 := (Below.refl w.heap.size w).alloc (Nat.le_refl _) (.cells #[.slice m.A1 m.n1 m.c1, .slice m.A2 m.n2 m.c2] 82)
  have HP := Bk.new_ w 82 #[.slice m.A1 m.n1 m.c1, .slice m.A2 m.n2 m.c2]
  have hkc := HP.cell
  go_enter Try.func42, Try.ntmps42
  go_wp2_with fail
  refine (c_rDecode _ (hm.1.below hb0 hB) (Nat.le_trans hB hb0.size) hm.2.2.1 (by omega)).mono ?_
  rintro e w3 (⟨K, v, hd, rfl, hown, hb3⟩ | ⟨err, hd, rfl, hb3⟩)
  · obtain ⟨Av, cv, rfl, hcv⟩ := hown.shape
    unfold keyVal
    obtain ⟨p0, p1, p2, p3⟩ := dec_pre hd
    have Hp := Lib.hid (show preO m.pl = (if true then some (be 2 K.ep ++ escT K.srt) else none) from by unfold preO; rw [show m.pl.1 = m.key from rfl, hd]; rfl)
    have hbK := (Below.refl w3.heap.size w3).alloc (Nat.le_refl _) (.cells #[.int .i64 K.ep, .slice Av (bcs K.srt).length cv, .int .i64 K.sq, .int .i64 K.kd, .string ⟨K.txt.toArray⟩] 59)
    have HK := Bk.new_ w3 59 #[.int .i64 K.ep, .slice Av (bcs K.srt).length cv, .int .i64 K.sq, .int .i64 K.kd, .string ⟨K.txt.toArray⟩]
    have hkK := HK.cell
    have hrK := hown.rd.below hbK (Nat.le_refl _)
    have hcall := c_rPrefix (w3.alloc (.cells #[.int .i64 K.ep, .slice Av (bcs K.srt).length cv, .int .i64 K.sq, .int .i64 K.kd, .string ⟨K.txt.toArray⟩] 59)) K.ep (c := cv) hrK hbK.size (by rw [bcs_length]; omega)
    rw [p0, p1] at hcall
    have HCall := Lib.hid hcall
    have hb4 : Below w.heap.size w _ := hb0.trans (hb3.mono hb0.size)
    have hb5 := hb4.trans (hbK.mono hb4.size)
    clear hcall p0 p1 p2 p3 hd hown hbK hkc HP HK
    go_wp2_with fail
    refine HCall.out.mono ?_
    rintro e w6 ⟨v6, rfl, ho6, hb6⟩
    obtain ⟨A6, c6, rfl, hc6⟩ := ho6.shape
    have hcv6 := run_str (P := Try.prog) Try.underlying22 Try.underlying5 Try.underlying9 (c := c6) ho6.rd
    have hb7 := hb5.trans (hb6.mono hb5.size)
    clear ho6 hb6 hkK
    go_wp2
    go_ret2
    exact ⟨_, true, rfl, Hp.out, hb7⟩
  · have hne := dec_errne hd
    have hne' : ((err : Int) != 0) = true := by simpa using hne
    have Hp := Lib.hid (show preO m.pl = (if false then some [] else none) from by unfold preO; rw [show m.pl.1 = m.key from rfl, hd]; rfl)
    have hb4 : Below w.heap.size w _ := hb0.trans (hb3.mono hb0.size)
    have hbK := hb4.alloc hb4.size (.cells #[.int .i64 0, .slice none 0 0, .int .i64 0, .int .i64 0, .string ⟨#[]⟩] 59)
    clear hd hkc HP hb3
    go_wp2
    go_ret2
    exact ⟨[], false, rfl, Hp.out, hbK⟩
end Go.Proofs.Ytgpbkebmfbbamaa
