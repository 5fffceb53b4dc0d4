/- Layer 16: the laws' first examples ('awake'). -/
import Derived.Test.YteokhnjjneeeeaaIkL
namespace Go.Proofs.Yteokhnjjneeeeaa
open Go.RowKit Go.Lec

theorem awake_enc : encB 1 [97] 5 1 [65] = [0, 1, 97, 0, 1, 255, 255, 255, 255, 255, 250, 0, 65] := by decide +kernel
theorem awake_encE : encE 1 5 1 [65] = 0 := by decide +kernel
theorem awake_dec : dec [0, 1, 97, 0, 1, 255, 255, 255, 255, 255, 250, 0, 65] = .ok ⟨1, [97], 5, 1, [65]⟩ := by
  simp [dec, unesc, num]
theorem awake_esc : escT [0] = [0, 255, 0, 1] := by decide +kernel

set_option maxHeartbeats 1600000 in
theorem c_awake (w : World) : Calls Try.prog 6 #[] w (RetB0 (.bool true) w) := by
  have kc := fun (w : World) (C : Array Value) (n c : Nat) => Lib.run_convert_bytes_const (P := Try.prog) w 22 5 C n c Try.underlying22 Try.underlying5
  go_enter Try.func6, Try.ntmps6
  go_wp2_with fail
  clear kc
  have hr1 := Rd.litM w (bcs [97]) 5 (1, 2)
  have he := c_Encode (w.alloc (.cells (bcs [97]).toArray 5 (1, 2))) 1 5 1 (t := [65]) (c := 1) hr1 (by simp) (by decide)
  rw [awake_enc, awake_encE] at he
  refine he.mono ?_
  clear he
  rintro e w1 ⟨v, rfl, hown, hb⟩
  obtain ⟨Av, cv, rfl, hcv⟩ := hown.shapeN (n := 13) rfl
  have hrv := hown.rd
  have hb1 : Below w.heap.size w w1 := ((Below.refl _ _).alloc (Nat.le_refl _) _).trans (hb.mono (by simp))
  clear hb hr1 hown
  go_wp2_with fail
  refine (c_Decode w1 hrv (Nat.le_refl _) hcv (by decide)).mono ?_
  rintro e w2 (⟨K, v, hu, rfl, hown, hb⟩ | ⟨err, hu, rfl, hb⟩)
  · rw [awake_dec] at hu
    cases hu
    have hb2 := hb1.trans (hb.mono hb1.size)
    obtain ⟨Ak, ck, rfl, _⟩ := hown.shapeN (n := 1) rfl
    clear hb hown hb1
    unfold keyVal
    go_wp2_with fail
    have hr3 := Rd.lit (w2.alloc (.cells #[.int .i64 1, .slice Ak 1 ck, .int .i64 5, .int .i64 1, .string ⟨#[65]⟩] 24)) [.int .u8 0] 5
    simp only [World.size_alloc] at hr3
    have he := c_Escape _ (c := 1) (l := [0]) hr3 (by simp) (by decide)
    rw [awake_esc] at he
    refine he.mono ?_
    clear he
    rintro e w3 ⟨x, rfl, hown3, hb3⟩
    obtain ⟨Ax, cx, rfl, hcx⟩ := hown3.shapeN (n := 4) rfl
    obtain ⟨b, o, rfl, hbB, hcell⟩ := hown3.rd.byte (k := 1) (by decide)
    have hc1 : w3.cell? ⟨b, o + 1, none⟩ = some (.int .u8 255) := hcell 1 (by decide)
    have hk := (((Bk.new_ w2 24 #[.int .i64 1, .slice Ak 1 ck, .int .i64 5, .int .i64 1, .string ⟨#[65]⟩]).alloc (.cells [.int .u8 0].toArray 5)).below hb3 (by simp; omega)).cell
    have hbs := hb2.size
    have hbf : Below w.heap.size w w3 := ((hb2.alloc hbs _).alloc (by simp; omega) _).trans (hb3.mono (by simp; omega))
    clear hcell hb3 hown3 hr3
    go_wp2
    go_ret
    exact ⟨rfl, hbf⟩
  · rw [awake_dec] at hu
    cases hu
end Go.Proofs.Yteokhnjjneeeeaa
