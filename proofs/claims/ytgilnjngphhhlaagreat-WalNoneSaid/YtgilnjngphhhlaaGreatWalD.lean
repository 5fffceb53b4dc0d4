/- Layer 17: a record is framed, by the log. -/
import Derived.Test.YtgilnjngphhhlaaGreatWalA
namespace Go.Proofs.YtgilnjngphhhlaaGreat
open Go.RowKit Go.Lec

set_option maxRecDepth 20000 in
set_option maxHeartbeats 3200000 in
theorem c_Encode (w : World) (p0 : Nat) {B : Nat} {A : Option Addr} {n c : Nat} {l : List UInt8} (hr : Rd w B A n (bcs l)) (hB : B ≤ w.heap.size) (hn : n ≤ 10000) (hnc : n ≤ c) :
    Calls Tryz.prog 19 #[.int .i64 (p0 : Int), .slice A n c] w (RetBE w (encL (p0 % 512) l) 0) := by
  have hln := hr.1
  rw [bcs_length] at hln
  obtain ⟨P, hP, hPl⟩ : ∃ P, P = p0 % 512 ∧ P < 512 := ⟨_, rfl, by omega⟩
  rw [← hP]
  have hPi : ((p0 : Int) % 512) = (P : Int) := by omega
  have HPi := Lib.hid hPi
  clear hP hPi
  go_enter Tryz.func19, Tryz.ntmps19
  go_wp2_with (go_at_call 35; refine (c_New w).mono ?_; rintro e w1 ⟨rfl, hT, hb1, hs1⟩)
  go_loopw [1, 7, 8, 9] (fun r o p f wr => ∃ (l' : List UInt8) (A' : Option Addr) (n' c' : Nat), r = .slice A' n' c' ∧ l'.length = n' ∧ Rd wr w.heap.size A' n' (bcs l') ∧ n' ≤ c' ∧ n' ≤ 10000 ∧ Tab wr w.heap.size ∧ w.heap.size < wr.heap.size ∧ Below w.heap.size w wr ∧
      ((f = .bool true ∧ o = .slice none 0 0 ∧ p = .int .i64 (P : Int) ∧ l' = l) ∨ (f = .bool false ∧ p = .int .i64 0 ∧ ∃ acc, Lec.Own wr (w.heap.size + 1) 5 o (bcs acc) ∧ acc ++ tailL l' = encL P l ∧ acc.length + 8 * n' ≤ 100000)))
    (fun r _ _ f _ => lenS r + flagN f)
  case atStart => exact ⟨l, A, n, c, rfl, hln, (hr.below hb1 hB).more hB, hnc, hn, hT, by omega, hb1, .inl ⟨rfl, rfl, by rw [HPi.out], rfl⟩⟩
  case round =>
    clear hT hs1 hb1 HPi
    obtain ⟨l', A', n', c', rfl, hl, hr', hc', hn', hT, hsz, hb, ⟨rfl, rfl, rfl, rfl⟩ | ⟨rfl, rfl, acc, hO, hE, hacc⟩⟩ := hrel
    · by_cases hpad : 512 - P < 7
      · by_cases hlast : n' ≤ 505
        · skip
          clear hr hln
          have hE : True := trivial
          obtain ⟨A3, hcut2, hr3⟩ := run_cutI wslb hr' hc' n' (Nat.le_refl _) .i64 (n' : Int) rfl
          clear hr3
          have hM : min (n' : Int) 505 = n' := by omega
          go_wp2_with (first
            | (at_builtin; (refine wpList_zeros rfl (.tmp 26) (.tmp 27) rfl (512 - P) (by omega) (by omega) rfl _ rfl (by omega) (Below.refl (w.heap.size + 1) wr) (by omega) ?_); intro v1 wz hO hbz hsz1)
            | (go_at_call 36; refine (c_pieceK wz w.heap.size 1 1 rfl (hT.below hbz (by omega)) (hr'.below hbz (by omega)) (by omega) (by omega)).mono ?_; rintro e w2 ⟨v2, rfl, ho2, hK2, hT2⟩; have hb2s := hK2.size; obtain ⟨A2, c2, rfl, hc2⟩ := ho2.shape)
            | (at_builtin; (refine wpList_app_sl rfl (.tmp 47) (.tmp 53) rfl wslb (by decide) rfl (hO.kb hK2 (fun x hx => by rw [List.mem_singleton.1 hx]; exact Nat.lt_succ_self _)) (Below.refl (w.heap.size + 1) w2) (by omega) rfl ho2.rd bcs_one (by simp only [bcs_length, pieceL_length, List.length_replicate, List.length_take, List.length_nil]; omega) ?_); intro v3 w3 ho3 hb3 hs3))
          have e : encL P l' = (List.replicate (512 - P) 0) ++ pieceL 1 l' := by unfold encL padN roomN; rw [if_pos hpad, if_pos hpad, if_pos (by omega)]
          go_ret2
          exact ⟨_, rfl, by rw [e]; rw [show ∀ x y : List UInt8, bcs (x ++ y) = bcs x ++ bcs y from bcs_append]; exact ho3.mono (by omega), ((hb.trans (hbz.mono (Nat.le_succ _))).trans (hK2.below (B := w.heap.size) (fun x hx => by rw [List.mem_singleton.1 hx]; exact Nat.le_refl _) (by omega))).trans (hb3.mono (Nat.le_succ _))⟩
        · skip
          clear hr hln
          have hE : True := trivial
          have htl : (bcs (l'.take 505)) = (bcs l').take 505 := bcs_take _ _
          have hcut1 : ∀ W, (Instr.slice 22 (.slice A' n' c') none (some (.int .i64 505)) none).run Tryz.prog W = .ok (.slice A' 505 c') W := fun W => run_cutH wslb A' n' c' 505 (by omega) .i64 _ rfl W
          obtain ⟨A3, hcut2, hr3⟩ := run_cutI wslb hr' hc' 505 (by omega) .i64 505 rfl
          have hr4 := hr'.take_ (k := 505) (by omega)
          rw [← htl] at hr4
          clear htl
          have hlast' := hlast
          go_wp2_with (first
            | (at_builtin; (refine wpList_zeros rfl (.tmp 26) (.tmp 27) rfl (512 - P) (by omega) (by omega) rfl _ rfl (by omega) (Below.refl (w.heap.size + 1) wr) (by omega) ?_); intro v1 wz hO hbz hsz1)
            | (go_at_call 36; refine (c_pieceK wz w.heap.size 2 2 rfl (hT.below hbz (by omega)) (hr4.below hbz (by omega)) (by omega) (by omega)).mono ?_; rintro e w2 ⟨v2, rfl, ho2, hK2, hT2⟩; have hb2s := hK2.size; obtain ⟨A2, c2, rfl, hc2⟩ := ho2.shape)
            | (at_builtin; (refine wpList_app_sl rfl (.tmp 47) (.tmp 53) rfl wslb (by decide) rfl (hO.kb hK2 (fun x hx => by rw [List.mem_singleton.1 hx]; exact Nat.lt_succ_self _)) (Below.refl (w.heap.size + 1) w2) (by omega) rfl ho2.rd bcs_one (by simp only [bcs_length, pieceL_length, List.length_replicate, List.length_take, List.length_nil]; omega) ?_); intro v3 w3 ho3 hb3 hs3))
          have e : (List.replicate (512 - P) 0) ++ pieceL 2 (l'.take 505) ++ tailL (l'.drop 505) = encL P l' := by unfold encL padN roomN; rw [if_pos hpad, if_pos hpad, if_neg (by omega), List.append_assoc]
          go_roundw
          case rel =>
            refine ⟨l'.drop 505, A3, n' - 505, c' - 505, rfl, by rw [List.length_drop, hl], (by rw [show bcs (l'.drop 505) = (bcs l').drop 505 from by simp [bcs]]; exact (((hr3.below hbz (by omega)).below (hK2.below (B := w.heap.size) (fun x hx => by rw [List.mem_singleton.1 hx]; exact Nat.le_refl _) (by omega)) (Nat.le_refl _)).below hb3 (by omega))), by omega, by omega, hT2.below hb3 (Nat.lt_succ_self _), by omega, ((hb.trans (hbz.mono (Nat.le_succ _))).trans (hK2.below (B := w.heap.size) (fun x hx => by rw [List.mem_singleton.1 hx]; exact Nat.le_refl _) (by omega))).trans (hb3.mono (Nat.le_succ _)), .inr ⟨rfl, ?_, (List.replicate (512 - P) 0) ++ pieceL 2 (l'.take 505), by rw [bcs_append]; exact ho3, e, ?_⟩⟩
            · go_num
            · simp only [List.length_append, pieceL_length, List.length_replicate, List.length_take, List.length_nil, hl]; omega
          case measure => simp only [lenS, flagN]; omega
      · by_cases hlast : n' ≤ 505 - P
        · skip
          clear hr hln
          have hE : True := trivial
          have hL : 512 - (P : Int) = ((512 - P : Nat) : Int) := by omega
          obtain ⟨A3, hcut2, hr3⟩ := run_cutI wslb hr' hc' n' (Nat.le_refl _) .i64 (n' : Int) rfl
          clear hr3
          have hM : min (n' : Int) (((512 - P : Nat) : Int) - 7) = n' := by omega
          go_wp2_with (first
            | (go_at_call 36; refine (c_pieceK wr w.heap.size 1 1 rfl hT hr' (by omega) (by omega)).mono ?_; rintro e w2 ⟨v2, rfl, ho2, hK2, hT2⟩; have hb2s := hK2.size; obtain ⟨A2, c2, rfl, hc2⟩ := ho2.shape)
            | (at_builtin; (refine wpList_app_sl rfl (.tmp 47) (.tmp 53) rfl wslb (by decide) rfl (Lec.Own.nil_ w2 (w.heap.size + 1) 5) (Below.refl (w.heap.size + 1) w2) (by omega) rfl ho2.rd bcs_one (by simp only [bcs_length, pieceL_length, List.length_replicate, List.length_take, List.length_nil]; omega) ?_); intro v3 w3 ho3 hb3 hs3))
          have e : encL P l' = [] ++ pieceL 1 l' := by unfold encL padN roomN; rw [if_neg hpad, if_neg hpad, if_pos (by omega)]; rfl
          go_ret2
          exact ⟨_, rfl, by rw [e]; rw [show ∀ x y : List UInt8, bcs (x ++ y) = bcs x ++ bcs y from bcs_append]; exact ho3.mono (by omega), (hb.trans (hK2.below (B := w.heap.size) (fun x hx => by rw [List.mem_singleton.1 hx]; exact Nat.le_refl _) (by omega))).trans (hb3.mono (Nat.le_succ _))⟩
        · skip
          clear hr hln
          have hE : True := trivial
          have hL : 512 - (P : Int) = ((512 - P : Nat) : Int) := by omega
          obtain ⟨M, hM0⟩ : ∃ M, M = (505 - P) := ⟨_, rfl⟩
          have htl : (bcs (l'.take M)) = (bcs l').take M := bcs_take _ _
          have hcut1 : ∀ W, (Instr.slice 22 (.slice A' n' c') none (some (.int .i64 (M : Int))) none).run Tryz.prog W = .ok (.slice A' M c') W := fun W => run_cutH wslb A' n' c' M (by omega) .i64 _ rfl W
          obtain ⟨A3, hcut2, hr3⟩ := run_cutI wslb hr' hc' M (by omega) .i64 (M : Int) rfl
          have hr4 := hr'.take_ (k := M) (by omega)
          rw [← htl] at hr4
          clear htl
          have hM : min (n' : Int) (((512 - P : Nat) : Int) - 7) = M := by omega
          have hM1 : ((512 - P : Nat) : Int) - 7 = (M : Int) := by omega
          have hlast' := hlast
          have hMle : M ≤ 505 := by omega
          have hMn : M < n' := by omega
          have HM0 := Lib.hid hM0
          clear hM0
          go_wp2_with (first
            | (go_at_call 36; refine (c_pieceK wr w.heap.size 2 2 rfl hT hr4 (by omega) (by omega)).mono ?_; rintro e w2 ⟨v2, rfl, ho2, hK2, hT2⟩; have hb2s := hK2.size; obtain ⟨A2, c2, rfl, hc2⟩ := ho2.shape)
            | (at_builtin; (refine wpList_app_sl rfl (.tmp 47) (.tmp 53) rfl wslb (by decide) rfl (Lec.Own.nil_ w2 (w.heap.size + 1) 5) (Below.refl (w.heap.size + 1) w2) (by omega) rfl ho2.rd bcs_one (by simp only [bcs_length, pieceL_length, List.length_replicate, List.length_take, List.length_nil]; omega) ?_); intro v3 w3 ho3 hb3 hs3))
          have e : [] ++ pieceL 2 (l'.take M) ++ tailL (l'.drop M) = encL P l' := by unfold encL padN roomN; rw [if_neg hpad, if_neg hpad, if_neg (by omega), HM0.out]; rfl
          go_roundw
          case rel =>
            refine ⟨l'.drop M, A3, n' - M, c' - M, rfl, by rw [List.length_drop, hl], (by rw [show bcs (l'.drop M) = (bcs l').drop M from by simp [bcs]]; exact ((hr3.below (hK2.below (B := w.heap.size) (fun x hx => by rw [List.mem_singleton.1 hx]; exact Nat.le_refl _) (by omega)) (Nat.le_refl _)).below hb3 (by omega))), by omega, by omega, hT2.below hb3 (Nat.lt_succ_self _), by omega, (hb.trans (hK2.below (B := w.heap.size) (fun x hx => by rw [List.mem_singleton.1 hx]; exact Nat.le_refl _) (by omega))).trans (hb3.mono (Nat.le_succ _)), .inr ⟨rfl, ?_, [] ++ pieceL 2 (l'.take M), by rw [bcs_append]; exact ho3, e, ?_⟩⟩
            · have := HM0.out; go_num
            · simp only [List.length_append, pieceL_length, List.length_replicate, List.length_take, List.length_nil, hl]; omega
          case measure => simp only [lenS, flagN]; omega
    · obtain ⟨A0, c0, rfl, hc0⟩ := hO.shape
      by_cases hlast : n' ≤ 505
      · skip
        obtain ⟨A3, hcut2, hr3⟩ := run_cutI wslb hr' hc' n' (Nat.le_refl _) .i64 (n' : Int) rfl
        clear hr3
        have hM : min (n' : Int) 505 = n' := by omega
        go_wp2_with (first
          | (go_at_call 36; refine (c_pieceK wr w.heap.size 4 4 rfl hT hr' (by omega) (by omega)).mono ?_; rintro e w2 ⟨v2, rfl, ho2, hK2, hT2⟩; have hb2s := hK2.size; obtain ⟨A2, c2, rfl, hc2⟩ := ho2.shape)
          | (at_builtin; (refine wpList_app_sl rfl (.tmp 47) (.tmp 53) rfl wslb (by decide) rfl (hO.kb hK2 (fun x hx => by rw [List.mem_singleton.1 hx]; exact Nat.lt_succ_self _)) (Below.refl (w.heap.size + 1) w2) (by omega) rfl ho2.rd bcs_one (by simp only [bcs_length, pieceL_length, List.length_replicate, List.length_take, List.length_nil]; omega) ?_); intro v3 w3 ho3 hb3 hs3))
        have e : encL P l = acc ++ pieceL 4 l' := by rw [← hE, tailL_last l' (by omega)]
        go_ret2
        exact ⟨_, rfl, by rw [e]; rw [show ∀ x y : List UInt8, bcs (x ++ y) = bcs x ++ bcs y from bcs_append]; exact ho3.mono (by omega), (hb.trans (hK2.below (B := w.heap.size) (fun x hx => by rw [List.mem_singleton.1 hx]; exact Nat.le_refl _) (by omega))).trans (hb3.mono (Nat.le_succ _))⟩
      · skip
        have htl : (bcs (l'.take 505)) = (bcs l').take 505 := bcs_take _ _
        have hcut1 : ∀ W, (Instr.slice 22 (.slice A' n' c') none (some (.int .i64 505)) none).run Tryz.prog W = .ok (.slice A' 505 c') W := fun W => run_cutH wslb A' n' c' 505 (by omega) .i64 _ rfl W
        obtain ⟨A3, hcut2, hr3⟩ := run_cutI wslb hr' hc' 505 (by omega) .i64 505 rfl
        have hr4 := hr'.take_ (k := 505) (by omega)
        rw [← htl] at hr4
        clear htl
        have hlast' := hlast
        go_wp2_with (first
          | (go_at_call 36; refine (c_pieceK wr w.heap.size 3 3 rfl hT hr4 (by omega) (by omega)).mono ?_; rintro e w2 ⟨v2, rfl, ho2, hK2, hT2⟩; have hb2s := hK2.size; obtain ⟨A2, c2, rfl, hc2⟩ := ho2.shape)
          | (at_builtin; (refine wpList_app_sl rfl (.tmp 47) (.tmp 53) rfl wslb (by decide) rfl (hO.kb hK2 (fun x hx => by rw [List.mem_singleton.1 hx]; exact Nat.lt_succ_self _)) (Below.refl (w.heap.size + 1) w2) (by omega) rfl ho2.rd bcs_one (by simp only [bcs_length, pieceL_length, List.length_replicate, List.length_take, List.length_nil]; omega) ?_); intro v3 w3 ho3 hb3 hs3))
        have e : acc ++ pieceL 3 (l'.take 505) ++ tailL (l'.drop 505) = encL P l := by rw [← hE, tailL_more l' (by omega), List.append_assoc]
        go_roundw
        case rel =>
          refine ⟨l'.drop 505, A3, n' - 505, c' - 505, rfl, by rw [List.length_drop, hl], (by rw [show bcs (l'.drop 505) = (bcs l').drop 505 from by simp [bcs]]; exact ((hr3.below (hK2.below (B := w.heap.size) (fun x hx => by rw [List.mem_singleton.1 hx]; exact Nat.le_refl _) (by omega)) (Nat.le_refl _)).below hb3 (by omega))), by omega, by omega, hT2.below hb3 (Nat.lt_succ_self _), by omega, (hb.trans (hK2.below (B := w.heap.size) (fun x hx => by rw [List.mem_singleton.1 hx]; exact Nat.le_refl _) (by omega))).trans (hb3.mono (Nat.le_succ _)), .inr ⟨rfl, ?_, acc ++ pieceL 3 (l'.take 505), by rw [bcs_append]; exact ho3, e, ?_⟩⟩
          · go_num
          · simp only [List.length_append, pieceL_length, List.length_replicate, List.length_take, List.length_nil, hl]; omega
        case measure => simp only [lenS, flagN]; omega
end Go.Proofs.YtgilnjngphhhlaaGreat
/- Layer 17: a record is framed, by the document. -/
namespace Go.Proofs.YtgilnjngphhhlaaGreat
open Go.RowKit Go.Lec

end Go.Proofs.YtgilnjngphhhlaaGreat
