/- Layer 17: the law of reading: awake, records alike. -/
import Derived.Test.YtgilnjngphhhlaaGreatWalK
import Derived.Test.YtgilnjngphhhlaaGreatWalM
import Derived.Test.YtgilnjngphhhlaaGreatWalO
import Derived.Test.YtgilnjngphhhlaaGreatWalD
import Derived.Lib.BytesEntry
namespace Go.Lec
open Go.RowKit
theorem pieces_len : ∀ (n : Nat) (b : List UInt8) (s : Nat), b.length - s ≤ n → (pieces b s).length ≤ n := by
  intro n
  induction n with
  | zero => intro b s hn; rw [pieces_end (by omega)]; exact Nat.zero_le _
  | succ n ih =>
    intro b s hn
    by_cases hlt : s < b.length
    · by_cases h7 : 512 - s % 512 < 7
      · by_cases hp : padOk b s
        · rw [pieces_pad hlt h7 hp]
          exact Nat.le_succ_of_le (ih b _ (by omega))
        · rw [pieces_padno hlt h7 hp]; exact Nat.zero_le _
      · by_cases hk : headOk b s
        · rw [pieces_head hlt h7 hk, List.length_cons]
          exact Nat.succ_le_succ (ih b _ (by omega))
        · rw [pieces_headno h7 hk]; exact Nat.zero_le _
    · rw [pieces_end (by omega)]; exact Nat.zero_le _
theorem readL_len : ∀ (ps : List (UInt8 × List UInt8 × Nat)) (op : Bool) (rec : List UInt8) (out : List (List UInt8)) (g : Nat), (readL ps op rec out g).1.length ≤ out.length + ps.length
  | [], _, _, _, _ => Nat.le_refl _
  | (k, p, e) :: ps, op, rec, out, g => by
    rw [readL]
    split
    · exact Nat.le_add_right _ _
    · split
      · have := readL_len ps true (rec ++ p) out g
        simp only [List.length_cons]; omega
      · have := readL_len ps false [] (out ++ [rec ++ p]) e
        simp only [List.length_cons, List.length_append, List.length_nil] at *; omega
theorem readB_len (b : List UInt8) : (readB b).1.length ≤ b.length := by
  have h1 := readL_len (pieces b 0) false [] [] 0
  have h2 := pieces_len b.length b 0 (by omega)
  unfold readB
  simp only [List.length_nil] at h1
  omega
theorem take_step' {α : Type} {l m : List α} {k : Nat} (h : l.take k = m.take k) (hk : k < l.length) (hm : k < m.length) (he : l[k] = m[k]) : l.take (k + 1) = m.take (k + 1) := by
  rw [List.take_succ_eq_append_getElem hk, List.take_succ_eq_append_getElem hm, h, he]
/-- An element, looked up. -/
theorem Rws.at_ {w : World} {B n : Nat} {A : Option Addr} {out : List (List UInt8)} (h : Rws w B A n out) {k : Nat} (hk : k < n) :
    ∃ b o Ak ck, A = some ⟨b, o, none⟩ ∧ b < B ∧ w.cell? ⟨b, o + k, none⟩ = some (.slice Ak (out[k]'(by rw [h.len]; exact hk)).length ck) ∧ (out[k]'(by rw [h.len]; exact hk)).length ≤ ck ∧ Rd w B Ak (out[k]'(by rw [h.len]; exact hk)).length (bcs (out[k]'(by rw [h.len]; exact hk))) := by
  have hl := h.len
  obtain ⟨es, h1, h2, h3⟩ := h
  obtain ⟨b, o, e, hb, hc⟩ := h1.2 (by omega)
  obtain ⟨Ak, ck, e2, h4, h5⟩ := h3 k (es[k]'(by omega)) (out[k]'(by omega)) (List.getElem?_eq_getElem _) (List.getElem?_eq_getElem _)
  exact ⟨b, o, Ak, ck, e, hb, by rw [hc k _ (List.getElem?_eq_getElem (by omega)), e2], h4, h5⟩
end Go.Lec
namespace Go.Proofs.YtgilnjngphhhlaaGreat
open Go.RowKit Go.Lec

set_option maxRecDepth 20000 in
set_option maxHeartbeats 1600000 in
theorem c_same (w : World) {B B' : Nat} {A A' : Option Addr} {n c n' c' : Nat} {l m : List (List UInt8)} (hr : Rws w B A n l) (hB : B ≤ w.heap.size) (hr' : Rws w B' A' n' m) (hB' : B' ≤ w.heap.size) (hn : n ≤ 1099511627776) :
    Calls Tryz.prog 18 #[.slice A n c, .slice A' n' c'] w fun e w' => e = .returned (.bool (decide (l = m))) ∧ Below w.heap.size w w' := by
  have Hln := Lib.hid hr.len
  have Hln' := Lib.hid hr'.len
  obtain ⟨R, hR⟩ : ∃ R, R = decide (l = m) := ⟨_, rfl⟩
  rw [← hR]
  have HR := Lib.hid hR
  clear hR
  by_cases hnn : n = n'
  · subst hnn
    go_enter Tryz.func18, Tryz.ntmps18
    go_wp2
    go_loopw [4, 13] (fun _ i wr => ∃ k : Nat, k ≤ n ∧ i = .int .i64 k ∧ Hid (l.take k = m.take k) ∧ Below w.heap.size w wr) (fun _ i _ => n - (intOf i).toNat)
    case atStart => exact ⟨0, Nat.zero_le _, rfl, Lib.hid rfl, Below.refl _ _⟩
    case round =>
      obtain ⟨k, hk, rfl, Ht, hb⟩ := hrel
      by_cases hlt : k < n
      · obtain ⟨b1, o1, A1, c1, rfl, hb1, hd1, hc1, hr1⟩ := (hr.below hb hB).at_ hlt
        obtain ⟨b2, o2, A2, c2, rfl, hb2, hd2, hc2, hr2⟩ := (hr'.below hb hB').at_ hlt
        have hk1 : k < l.length := by rw [Hln.out]; exact hlt
        have hk2 : k < m.length := by rw [Hln'.out]; exact hlt
        obtain ⟨x, hx⟩ : ∃ x, x = l[k] := ⟨_, rfl⟩
        obtain ⟨y, hy⟩ : ∃ y, y = m[k] := ⟨_, rfl⟩
        rw [← hx] at hd1 hr1
        rw [← hy] at hd2 hr2
        have Hx := Lib.hid hx
        have Hy := Lib.hid hy
        clear hx hy
        have hs1 : ∀ q, (convert 22 9 (.slice A1 x.length c1)).run Tryz.prog (wr.drewN q) = .ok (.string ⟨x.toArray⟩) (wr.drewN q) := fun q => run_str (P := Tryz.prog) Tryz.underlying22 Tryz.underlying5 Tryz.underlying9 (c := c1) (hr1.drewN q)
        have hs2 : ∀ q, (convert 22 9 (.slice A2 y.length c2)).run Tryz.prog (wr.drewN q) = .ok (.string ⟨y.toArray⟩) (wr.drewN q) := fun q => run_str (P := Tryz.prog) Tryz.underlying22 Tryz.underlying5 Tryz.underlying9 (c := c2) (hr2.drewN q)
        by_cases hxy : x = y
        · have HS := Lib.hid (take_step' Ht.out hk1 hk2 (by rw [← Hx.out, ← Hy.out, hxy]))
          clear Hx Hy Ht
          subst hxy
          go_wp2
          go_quiet (fail)
          go_wp2
          go_roundw
          case rel => exact ⟨k + 1, by omega, by go_num, Lib.hid HS.out, belowN hb _⟩
          case measure => simp [intOf]; omega
        · have hRf : R = false := by rw [HR.out]; exact decide_eq_false (by intro e; subst e; exact hxy (by rw [Hx.out, Hy.out]))
          have hne : (x == y) = false := by simpa using hxy
          clear HR Hx Hy Ht hxy
          subst hRf
          go_wp2
          go_quiet (fail)
          go_wp2
          go_ret
          exact ⟨rfl, belowN hb _⟩
      · obtain rfl : k = n := by omega
        have he : l = m := by
          have := Ht.out
          rwa [List.take_of_length_le (by rw [Hln.out]; exact Nat.le_refl _), List.take_of_length_le (by rw [Hln'.out]; exact Nat.le_refl _)] at this
        have hRt : R = true := by rw [HR.out, decide_eq_true he]
        clear HR he Ht
        subst hRt
        go_wp2
        go_ret
        exact ⟨rfl, hb⟩
  · have hRf : R = false := by rw [HR.out]; exact decide_eq_false (by rintro rfl; exact hnn (by rw [← Hln.out, ← Hln'.out]))
    clear HR
    subst hRf
    have hne : ((n : Int) != (n' : Int)) = true := by simp; omega
    go_enter Tryz.func18, Tryz.ntmps18
    go_wp2
    go_ret
    exact ⟨rfl, Below.refl _ _⟩

/-- The chapter's examples. -/
theorem ex_len : (encL 0 [97]).length = 8 ∧ (encL (505 % 512) [97, 98]).length = 16 ∧ (encL (508 % 512) [97]).length = 12 := by
  refine ⟨?_, ?_, ?_⟩
  · unfold encL padN roomN; simp [pieceL_length]
  · unfold encL padN roomN; simp [pieceL_length, tailL_last]
  · unfold encL padN roomN; simp [pieceL_length]
theorem ex_read : readB (encL 0 [97]) = ([[97]], 8) := by
  have h := readB_frames [[97]] (by simp)
  have e : framesF [] [[97]] = encL 0 [97] := by simp [framesF]
  rw [e, ex_len.1] at h
  exact h

set_option maxRecDepth 20000 in
set_option maxHeartbeats 1600000 in
theorem c_awake (w : World) : Calls Tryz.prog 5 #[] w fun e w' => e = .returned (.bool true) ∧ Below w.heap.size w w' := by
  obtain ⟨h8, h16, h12⟩ := ex_len
  have hrd := ex_read
  obtain ⟨E0, hE0⟩ : ∃ E, E = encL 0 [97] := ⟨_, rfl⟩
  obtain ⟨E1, hE1⟩ : ∃ E, E = encL (505 % 512) [97, 98] := ⟨_, rfl⟩
  obtain ⟨E2, hE2⟩ : ∃ E, E = encL (508 % 512) [97] := ⟨_, rfl⟩
  rw [← hE0] at h8 hrd
  rw [← hE1] at h16
  rw [← hE2] at h12
  have r1 : ∀ W : World, Rd (W.alloc (.cells #[.int .u8 97] 5 (1, 2))) (W.heap.size + 1) (some ⟨W.heap.size, 0, none⟩) 1 (bcs [97]) := fun W => Rd.litM W [.int .u8 97] 5 (1, 2)
  have r2 : ∀ W : World, Rd (W.alloc (.cells #[.int .u8 97, .int .u8 98] 5 (2, 3))) (W.heap.size + 1) (some ⟨W.heap.size, 0, none⟩) 2 (bcs [97, 98]) := fun W => Rd.litM W [.int .u8 97, .int .u8 98] 5 (2, 3)
  have C0 : ∀ W : World, Calls Tryz.prog 19 #[.int .i64 0, .slice (some ⟨W.heap.size, 0, none⟩) 1 1] (W.alloc (.cells #[.int .u8 97] 5 (1, 2))) (RetBE (W.alloc (.cells #[.int .u8 97] 5 (1, 2))) E0 0) := fun W => by
    rw [hE0]; exact c_Encode (W.alloc (.cells #[.int .u8 97] 5 (1, 2))) 0 (c := 1) (r1 W) (by simp) (by omega) (by omega)
  have C1 : ∀ W : World, Calls Tryz.prog 19 #[.int .i64 505, .slice (some ⟨W.heap.size, 0, none⟩) 2 2] (W.alloc (.cells #[.int .u8 97, .int .u8 98] 5 (2, 3))) (RetBE (W.alloc (.cells #[.int .u8 97, .int .u8 98] 5 (2, 3))) E1 0) := fun W => by
    rw [hE1]; exact c_Encode (W.alloc (.cells #[.int .u8 97, .int .u8 98] 5 (2, 3))) 505 (c := 2) (r2 W) (by simp) (by omega) (by omega)
  have C2 : ∀ W : World, Calls Tryz.prog 19 #[.int .i64 508, .slice (some ⟨W.heap.size, 0, none⟩) 1 1] (W.alloc (.cells #[.int .u8 97] 5 (1, 2))) (RetBE (W.alloc (.cells #[.int .u8 97] 5 (1, 2))) E2 0) := fun W => by
    rw [hE2]; exact c_Encode (W.alloc (.cells #[.int .u8 97] 5 (1, 2))) 508 (c := 1) (r1 W) (by simp) (by omega) (by omega)
  have C0 := Lib.hid C0
  have C1 := Lib.hid C1
  have C2 := Lib.hid C2
  have CR : ∀ W A c, Rd W W.heap.size A 8 (bcs E0) → 8 ≤ c → Calls Tryz.prog 20 #[.slice A 8 c] W (ReadPost W ([[97]], 8)) := fun W A c h hc => by
    rw [← hrd]; exact c_wRead W h (Nat.le_refl _) hc (by omega)
  have CR := Lib.hid CR
  have H8 := Lib.hid h8
  have H16 := Lib.hid h16
  have H12 := Lib.hid h12
  clear h8 h16 h12 hrd hE0 hE1 hE2 r1 r2
  have kc : ∀ (w : World) (b : Nat) (C : Array Value) (n c : Nat), w.heap.size = b → (convert 22 22 (.slice (some ⟨b, 0, none⟩) n c)).run Tryz.prog (w.alloc (.cells C 5)) = .ok (.slice (some ⟨b, 0, none⟩) n c) (w.alloc (.cells C 5 (C.size, C.size + 1))) := by
    rintro w b C n c rfl
    exact Lib.run_convert_bytes_const (P := Tryz.prog) w 22 5 C n c Tryz.underlying22 Tryz.underlying5
  go_enter Tryz.func5, Tryz.ntmps5
  go_wp2_with (first
    | (go_at_call 19; (with_reducible refine (C0.out _).mono ?_); rintro e w1 ⟨v1, rfl, ho1, hb1⟩; obtain ⟨A1, c1, rfl, hc1⟩ := ho1.shapeN (n := 8) (by rw [bcs_length]; exact H8.out))
    | (go_at_call 19; (with_reducible refine (C1.out _).mono ?_); rintro e w2 ⟨v2, rfl, ho2, hb2⟩; obtain ⟨A2, c2, rfl, hc2⟩ := ho2.shapeN (n := 16) (by rw [bcs_length]; exact H16.out))
    | (go_at_call 19; (with_reducible refine (C2.out _).mono ?_); rintro e w3 ⟨v3, rfl, ho3, hb3⟩; obtain ⟨A3, c3, rfl, hc3⟩ := ho3.shapeN (n := 12) (by rw [bcs_length]; exact H12.out))
    | (go_at_call 20; refine (CR.out _ _ _ ((ho1.rd.below (((Below.refl _ _).alloc (Nat.le_refl _) _).trans (hb2.mono (by simp))) (Nat.le_refl _)).below ((((Below.refl _ _).alloc (Nat.le_refl _) _).trans (hb3.mono (by simp)))) (by have := hb2.size; simp at this; omega) |>.more (by have := hb2.size; have := hb3.size; simp at *; omega)) hc1).mono ?_; rintro e w4 ⟨A4, m4, c4, rfl, hm4, hrw4, hb4⟩; have hl4 := hrw4.len; simp only [List.length_singleton] at hl4; subst hl4))
  go_ret
  have q1 := ((Below.refl w.heap.size w).alloc (Nat.le_refl _) (.cells #[.int .u8 97] 5 (1, 2))).trans (hb1.mono (by simp))
  have q2 := (q1.alloc q1.size (.cells #[.int .u8 97, .int .u8 98] 5 (2, 3))).trans (hb2.mono (by have := q1.size; simp; omega))
  have q3 := (q2.alloc q2.size (.cells #[.int .u8 97] 5 (1, 2))).trans (hb3.mono (by have := q2.size; simp; omega))
  exact ⟨rfl, q3.trans (hb4.mono q3.size)⟩

end Go.Proofs.YtgilnjngphhhlaaGreat
