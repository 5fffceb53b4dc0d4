/- Layer 16: the walks of Encode, the program's and the reference's. -/
import Derived.Test.YteokhnjjneeeeaaIkB
namespace Go.Proofs.Yteokhnjjneeeeaa
open Go.RowKit Go.Lec

theorem byte_wrap_one (kd : Int) (h0 : 0 ≤ kd) (h1 : kd ≤ 1) : [.int .u8 (1 - kd)] = bcs [UInt8.ofNat (1 - kd).toNat] := by
  rw [byte_wrap (1 - kd) (by omega) (by omega)]
  rfl

set_option maxHeartbeats 800000 in
theorem c_Encode_ok (w : World) (q sq kd : Int) {B : Nat} {A : Option Addr} {n c : Nat} {l t : List UInt8} (hr : Rd w B A n (bcs l)) (hB : B ≤ w.heap.size) (hn : n ≤ 65536)
    (hq : okEpoch q = true) (hs : okSeq sq = true) (h4 : 0 ≤ kd) (h5 : kd ≤ 1) (ht : t.length ≤ 1024) :
    Calls Try.prog 8 #[.agg #[.int .i64 q, .slice A n c, .int .i64 sq, .int .i64 kd, .string ⟨t.toArray⟩]] w (RetBE 5 w (be 2 q.toNat ++ escT l ++ stampB sq ++ [UInt8.ofNat (1 - kd).toNat] ++ t) 0) := by
  obtain ⟨h0, h1⟩ := okEpoch_true hq
  obtain ⟨h2, h3⟩ := okSeq_true hs
  have hln := hr.1
  rw [bcs_length] at hln
  have hpe : preE q l = 0 := by unfold preE; rw [if_pos hq, hln, if_neg (by omega)]
  have hpb : preB q l = be 2 q.toNat ++ escT l := by unfold preB; rw [if_pos hq, hln, if_neg (by omega)]
  have H := Lib.hid hln; clear hln hq hs
  have Hpe := Lib.hid hpe; clear hpe
  have Hpb := Lib.hid hpb; clear hpb
  have htn : ¬ 1024 < t.length := by omega
  obtain ⟨X, hX⟩ : ∃ X, X = be 2 q.toNat ++ escT l ++ stampB sq ++ [UInt8.ofNat (1 - kd).toNat] := ⟨_, rfl⟩
  rw [← hX]
  have HX := Lib.hid hX; clear hX
  go_enter Try.func8, Try.ntmps8
  go_wp2_with (first | (go_at_call 26; go_in) | (go_at_call 21; (have hcon := c_Prefix (w.alloc (.cells #[.int .i64 q, .slice A n c, .int .i64 sq, .int .i64 kd, .string ⟨t.toArray⟩] 24)) q (hr.alloc hB _) (by simp; omega) (c := c) (by omega); rw [Hpe.out, Hpb.out] at hcon; go_must (refine hcon.mono ?_)); clear hcon; rintro e w1 ⟨v, rfl, hown, hb⟩; rw [World.size_alloc] at hown hb; have hk1 : ∀ o, w1.cell? ⟨w.heap.size, o, none⟩ = #[.int .i64 q, .slice A n c, .int .i64 sq, .int .i64 kd, .string ⟨t.toArray⟩][o]? := fun o => (hb.cell (p := ⟨w.heap.size, o, none⟩) (by simp)).trans (World.cell?_alloc_new _ _ _ _)))
  have hb0 := hb.size
  simp only [World.size_alloc] at hb0
  go_cut [4] (fun v4 wr => Own wr (w.heap.size + 1) 5 v4 (bcs X) ∧ Below w.heap.size w wr ∧ w.heap.size + 1 ≤ wr.heap.size ∧ (∀ o, wr.cell? ⟨w.heap.size, o, none⟩ = #[.int .i64 q, .slice A n c, .int .i64 sq, .int .i64 kd, .string ⟨t.toArray⟩][o]?))
  case first =>
    have e1 : IntKind.i64.wrap (1 - kd) = 1 - kd := IntWalk.i64_in _ (by omega)
    have e2 : IntKind.u8.wrap (1 - kd) = 1 - kd := IntWalk.u8_in _ (by omega)
    have hbox := World.cell?_alloc_new w #[.int .i64 q, .slice A n c, .int .i64 sq, .int .i64 kd, .string ⟨t.toArray⟩] 24
    go_region_held3 (fun w' => w'.cell? ⟨w.heap.size, 2, none⟩ = some (.int .i64 sq) ∧ w'.cell? ⟨w.heap.size, 3, none⟩ = some (.int .i64 kd)) (go_keep)
      (first
        | (go_at_call 27; go_must (refine (c_stamp _ sq h2 h3).mono ?_); rintro e w2 ⟨v2, rfl, hown2, hb2⟩; obtain ⟨A2, c2, rfl, hc2⟩ := hown2.shape; have hr2 := hown2.rd; have hbA : Below (w.heap.size + 1) (w.alloc (.cells #[.int .i64 q, .slice A n c, .int .i64 sq, .int .i64 kd, .string ⟨t.toArray⟩] 24)) w2 := (by first | exact (hb.drew).trans (hb2.mono (by simp; omega)) | exact ((hb.alloc hb0 _).drew).trans (hb2.mono (by simp; omega))); have hownA : Own w2 (w.heap.size + 1) 5 v (bcs (be 2 q.toNat ++ escT l)) := (by first | exact hown.drew.below hb2 (Nat.le_refl _) | exact (hown.alloc _).drew.below hb2 (Nat.le_refl _)); have hk2 := fun o => (hbA.cell (p := ⟨w.heap.size, o, none⟩) (by simp)).trans (hbox o))
        | (refine at_app (.tmp 38) (.tmp 41) ?_; refine step_app_rd rfl (.tmp 38) (.tmp 41) rfl slb (by decide) rfl (xs := bcs (be 2 q.toNat ++ escT l)) (base := w.heap.size + 1) (w0 := w.alloc (.cells #[.int .i64 q, .slice A n c, .int .i64 sq, .int .i64 kd, .string ⟨t.toArray⟩] 24)) ?_ ?_ ?_ rfl (news := bcs (stampB sq)) ?_ bcs_one ?_ ?_; (first | exact hownA | exact hownA.alloc _); (first | exact hbA | exact hbA.alloc (by have := hbA.size; simp at this; omega) _); (have := hbA.size; simp at this ⊢; omega); (first | exact hr2 | exact (hr2.alloc (Nat.le_refl _) _).more (by simp)); (have := escT_len l; have := H.out; simp only [bcs_length, List.length_append, be_length, stampB]; omega); intro v3 w3 hown3 hb3 hg3 hs3; have hz3 := hg3.size; have hz2 := hb2.size; simp only [World.size_alloc, World.size_drew] at hz2 hz3; have hk3 := fun o => (hb3.cell (p := ⟨w.heap.size, o, none⟩) (by simp)).trans (hbox o); have hfar3 := fun b hlt (h : w1.heap.size ≤ b) => World.cell?_of_block (a := ⟨b, 0, none⟩) (hg3.block b hlt (fun e => by have := (World.ownsRow.lt hown b e.symm).2; omega)))
        | (refine at_app (.tmp 42) (.tmp 47) ?_; refine step_app_rd rfl (.tmp 42) (.tmp 47) rfl slb (by decide) rfl (xs := bcs (be 2 q.toNat ++ escT l) ++ bcs (stampB sq)) (base := w.heap.size + 1) (w0 := w.alloc (.cells #[.int .i64 q, .slice A n c, .int .i64 sq, .int .i64 kd, .string ⟨t.toArray⟩] 24)) ?_ ?_ ?_ rfl (news := [.int .u8 (1 - kd)]) ?_ ?_ ?_ ?_; (first | exact hown3 | exact hown3.alloc _); (first | exact hb3 | exact hb3.alloc hs3 _); (have := hb3.size; simp at this ⊢; omega); (first | exact Rd.lit _ [_] _ | exact Rd.one ((hfar3 _ (by simp) (by omega)).trans (World.cell?_alloc_new _ _ _ _)) (by omega) | exact Rd.one ((hfar3 _ (by omega) (Nat.le_refl _)).trans ((hb2.cell (by simp)).trans (World.cell?_alloc_new _ _ _ _))) (by omega)); (simp [Value.oneCell']); (have := escT_len l; have := H.out; simp only [bcs_length, List.length_append, be_length, stampB, List.length_cons, List.length_nil]; omega); intro v4 w4 hown4 hb4 hg4 hs4; have hk4 := fun o => (hb4.cell (p := ⟨w.heap.size, o, none⟩) (by simp)).trans (hbox o)))
    all_goals
      go_wp2_with fail
      go_meet
      refine ⟨?_, ((Below.refl _ _).alloc (Nat.le_refl _) _).trans (hb4.mono (Nat.le_succ _)), hs4, hk4⟩
      rw [HX.out, bcs_append, bcs_append, ← byte_wrap_one _ h4 h5]
      exact hown4
  case rest =>
    obtain ⟨hown, hb, hs1, hk1⟩ := hcut
    have hlen : (bcs X).length + t.length ≤ 1099511627776 := by
      have := escT_len l; have := H.out; rw [HX.out]; simp only [bcs_length, List.length_append, be_length, stampB, List.length_cons, List.length_nil]; omega
    have Hlen := Lib.hid hlen; clear hlen
    go_wp2_with (first | (at_builtin; (refine wpList_app_str rfl (.tmp 49) (.tmp 51) rfl slb Try.underlying9 t rfl hown (Below.refl _ _) hs1 rfl Hlen.out ?_); intro v3 w3 hown3 hb3 hs3))
    go_ret2
    exact ⟨_, rfl, by rw [bcs_append]; exact hown3.mono (Nat.le_succ _), hb.trans (hb3.mono (Nat.le_succ _))⟩

theorem RetBE_box {e5 : TypeId} {w : World} {o : Obj} {err : Int} : RetBE e5 w [] err (.returned (.tuple #[.slice none 0 0, .int .i64 err])) (w.alloc o) :=
  RetBE_nil rfl ((Below.refl _ _).alloc (Nat.le_refl _) _)

set_option maxHeartbeats 800000 in
theorem c_Encode_r (w : World) (q sq kd : Int) {A : Option Addr} {n c : Nat} {t : List UInt8} (h : ¬ (okEpoch q = true ∧ okSeq sq = true ∧ 0 ≤ kd ∧ kd ≤ 1)) :
    Calls Try.prog 8 #[.agg #[.int .i64 q, .slice A n c, .int .i64 sq, .int .i64 kd, .string ⟨t.toArray⟩]] w (RetBE 5 w [] 1) := by
  by_cases h0 : 0 ≤ q
  · by_cases h1 : q ≤ 65535
    · by_cases h2 : 0 ≤ sq
      · by_cases h3 : sq ≤ 281474976710655
        · by_cases h4 : 0 ≤ kd
          · have h5 : ¬ kd ≤ 1 := fun h5 => h ⟨by simp [okEpoch, h0, h1], by simp [okSeq, h2, h3], h4, h5⟩
            clear h
            go_enter Try.func8, Try.ntmps8
            go_wp2
            go_ret2
            exact RetBE_box
          · clear h
            go_enter Try.func8, Try.ntmps8
            go_wp2
            go_ret2
            exact RetBE_box
        · clear h
          go_enter Try.func8, Try.ntmps8
          go_wp2
          go_ret2
          exact RetBE_box
      · clear h
        go_enter Try.func8, Try.ntmps8
        go_wp2
        go_ret2
        exact RetBE_box
    · clear h
      go_enter Try.func8, Try.ntmps8
      go_wp2
      go_ret2
      exact RetBE_box
  · clear h
    go_enter Try.func8, Try.ntmps8
    go_wp2
    go_ret2
    exact RetBE_box

set_option maxHeartbeats 800000 in
theorem c_Encode_l (w : World) (q sq kd : Int) {B : Nat} {A : Option Addr} {n c : Nat} {l t : List UInt8} (hr : Rd w B A n (bcs l)) (hB : B ≤ w.heap.size) (hn : n ≤ 65536)
    (hq : okEpoch q = true) (hs : okSeq sq = true) (h4 : 0 ≤ kd) (h5 : kd ≤ 1) (ht : 1024 < t.length) :
    Calls Try.prog 8 #[.agg #[.int .i64 q, .slice A n c, .int .i64 sq, .int .i64 kd, .string ⟨t.toArray⟩]] w (RetBE 5 w [] 2) := by
  obtain ⟨h0, h1⟩ := okEpoch_true hq
  obtain ⟨h2, h3⟩ := okSeq_true hs
  have hln := hr.1
  rw [bcs_length] at hln
  have hpe : preE q l = 0 := by unfold preE; rw [if_pos hq, hln, if_neg (by omega)]
  have hpb : preB q l = be 2 q.toNat ++ escT l := by unfold preB; rw [if_pos hq, hln, if_neg (by omega)]
  have H := Lib.hid hln; clear hln hq hs
  have Hpe := Lib.hid hpe; clear hpe
  have Hpb := Lib.hid hpb; clear hpb
  go_enter Try.func8, Try.ntmps8
  go_wp2_with (first | (go_at_call 26; go_in) | (go_at_call 21; (have hcon := c_Prefix (w.alloc (.cells #[.int .i64 q, .slice A n c, .int .i64 sq, .int .i64 kd, .string ⟨t.toArray⟩] 24)) q (hr.alloc hB _) (by simp; omega) (c := c) (by omega); rw [Hpe.out, Hpb.out] at hcon; go_must (refine hcon.mono ?_)); clear hcon; rintro e w1 ⟨v, rfl, hown, hb⟩; rw [World.size_alloc] at hown hb; have hk1 : ∀ o, w1.cell? ⟨w.heap.size, o, none⟩ = #[.int .i64 q, .slice A n c, .int .i64 sq, .int .i64 kd, .string ⟨t.toArray⟩][o]? := fun o => (hb.cell (p := ⟨w.heap.size, o, none⟩) (by simp)).trans (World.cell?_alloc_new _ _ _ _)))
  go_ret2
  exact RetBE_nil rfl (((Below.refl _ _).alloc (Nat.le_refl _) _).trans (hb.mono (Nat.le_succ _)))

/-- What Encode answers. -/
def okKey (q sq kd : Int) : Bool := okEpoch q && okSeq sq && decide (0 ≤ kd) && decide (kd ≤ 1)
def encB (q : Int) (l : List UInt8) (sq kd : Int) (t : List UInt8) : List UInt8 :=
  if okKey q sq kd then (if 1024 < t.length then [] else be 2 q.toNat ++ escT l ++ stampB sq ++ [UInt8.ofNat (1 - kd).toNat] ++ t) else []
def encE (q : Int) (sq kd : Int) (t : List UInt8) : Int := if okKey q sq kd then (if 1024 < t.length then 2 else 0) else 1

theorem c_Encode (w : World) (q sq kd : Int) {B : Nat} {A : Option Addr} {n c : Nat} {l t : List UInt8} (hr : Rd w B A n (bcs l)) (hB : B ≤ w.heap.size) (hn : n ≤ 65536) :
    Calls Try.prog 8 #[.agg #[.int .i64 q, .slice A n c, .int .i64 sq, .int .i64 kd, .string ⟨t.toArray⟩]] w (RetBE 5 w (encB q l sq kd t) (encE q sq kd t)) := by
  unfold encB encE
  by_cases hk : okKey q sq kd = true
  · rw [if_pos hk, if_pos hk]
    simp only [okKey, Bool.and_eq_true, decide_eq_true_eq] at hk
    obtain ⟨⟨⟨hq, hs⟩, h4⟩, h5⟩ := hk
    by_cases ht : 1024 < t.length
    · rw [if_pos ht, if_pos ht]
      exact c_Encode_l w q sq kd hr hB hn hq hs h4 h5 ht
    · rw [if_neg ht, if_neg ht]
      exact c_Encode_ok w q sq kd hr hB hn hq hs h4 h5 (by omega)
  · rw [if_neg hk, if_neg hk]
    refine c_Encode_r w q sq kd fun h => hk ?_
    simp only [okKey, Bool.and_eq_true, decide_eq_true_eq]
    exact ⟨⟨⟨h.1, h.2.1⟩, h.2.2.1⟩, h.2.2.2⟩
end Go.Proofs.Yteokhnjjneeeeaa
