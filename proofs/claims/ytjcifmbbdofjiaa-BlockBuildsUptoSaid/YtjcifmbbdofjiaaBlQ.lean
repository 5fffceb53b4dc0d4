/- Layer 20: an iterator's Seek: the walk. -/
import Derived.Test.YtjcifmbbdofjiaaBlN
namespace Go.Lec
theorem scanF_le (l : List En) (key : List UInt8) : ∀ (f a b c : Nat), (scanF l key f a b c).1 ≤ max a b
  | 0, a, b, c => by rw [scanF]; omega
  | f + 1, a, b, c => by
    rw [scanF]
    split
    · split
      · show a ≤ _; omega
      · have := scanF_le l key f (a + 1) b (c + 1); omega
    · show a ≤ _; omega
theorem findF_le (l : List En) (ev : Nat) (key : List UInt8) (he : 1 ≤ ev) : (findF l ev key).1 ≤ l.length := by
  rw [findF]
  obtain ⟨m, hm⟩ : ∃ m, m = (l.length + ev - 1) / ev := ⟨_, rfl⟩
  rw [← hm]
  have h1 := srchF_le (fun k => geAt l key (k * ev)) m 0 m 0 (Nat.zero_le _)
  obtain ⟨R, hR⟩ : ∃ R, R = srchF (fun k => geAt l key (k * ev)) m 0 m 0 := ⟨_, rfl⟩
  rw [← hR] at h1 ⊢
  split
  · exact Nat.zero_le _
  · rename_i h0
    have h2 := row_lt (n := l.length) (k := R.1 - 1) he (by rw [← hm]; omega)
    have h3 := scanF_le l key l.length ((R.1 - 1) * ev + 1) (min l.length (R.1 * ev)) R.2
    omega
theorem scanF_cnt (l : List En) (key : List UInt8) : ∀ (f a b c : Nat), (scanF l key f a b c).2 ≤ c + f
  | 0, a, b, c => by rw [scanF]; exact Nat.le_refl _
  | f + 1, a, b, c => by
    rw [scanF]
    split
    · split
      · show c + 1 ≤ _; omega
      · have := scanF_cnt l key f (a + 1) b (c + 1); omega
    · show c ≤ _; omega
theorem findF_cnt (l : List En) (ev : Nat) (key : List UInt8) (he : 1 ≤ ev) : (findF l ev key).2 ≤ 2 * l.length := by
  rw [findF]
  obtain ⟨m, hm⟩ : ∃ m, m = (l.length + ev - 1) / ev := ⟨_, rfl⟩
  have hml : m ≤ l.length := by rw [hm]; exact many_le he
  rw [← hm]
  have h1 := srchF_cnt (fun k => geAt l key (k * ev)) m 0 m 0
  obtain ⟨R, hR⟩ : ∃ R, R = srchF (fun k => geAt l key (k * ev)) m 0 m 0 := ⟨_, rfl⟩
  rw [← hR] at h1 ⊢
  split
  · show R.2 ≤ _; omega
  · have h3 := scanF_cnt l key l.length ((R.1 - 1) * ev + 1) (min l.length (R.1 * ev)) R.2
    omega
end Go.Lec
namespace Go.Proofs.Ytjcifmbbdofjiaa
open Go.RowKit Go.Lec Go.Op
set_option maxRecDepth 40000 in
set_option maxHeartbeats 800000 in
theorem c_Seek1 (w0 : World) (bs : Nat) {it L n c ev : Nat} {A : Option Addr} {X : List Ex} {p lk : Int} (q : w0.cell? ⟨bs, 0, none⟩ = some (.pointer (some ⟨it, 0, none⟩))) (hne : bs ∉ [it]) (h0 : 0 ≤ lk) (h1 : lk ≤ 1099511627776) :
    LookOk w0 it L A n c X ev p lk 1 42 #[.pointer (some ⟨bs, 0, none⟩)] := by
  intro k W hk hI hkb
  have l1 := World.block_lt_of_cell? w0 _ q
  have s1 := (hkb.cell (p := ⟨bs, 0, none⟩) l1 hne).trans q
  have hlt := hI.lt
  have i1 := hI.bk.cell
  have z1 := hI.bk.frz
  have e1 : lk + ((1 * (k + 1) : Nat) : Int) = lk + ((1 * k : Nat) : Int) + 1 := by push_cast; omega
  rw [e1]
  obtain ⟨v, hv⟩ : ∃ v : Int, v = lk + ((1 * k : Nat) : Int) := ⟨_, rfl⟩
  have hv0 : 0 ≤ v := by omega
  have hv1 : v ≤ 1099515822080 := by omega
  rw [← hv] at hI i1 ⊢
  clear hv e1 hkb q
  have h2 := hI.bk.set_ 4 (.int .i64 (v + 1))
  have hk2 := (Kb.refl [it] W).setCell (p := ⟨it, 4, none⟩) (.inl (by simp)) (.int .i64 (v + 1))
  go_enter Try.func42, Try.ntmps42
  go_wp2
  go_end0
  exact ⟨rfl, hI.move hk2 (fun b hb => by simp only [List.mem_singleton] at hb; omega) h2, hk2⟩
set_option maxRecDepth 40000 in
set_option maxHeartbeats 800000 in
theorem c_Seek (w : World) {it L n c ev nk ck B : Nat} {A Ak : Option Addr} {X : List Ex} {p lk : Int} {key : List UInt8}
    (h : Itr w it L A n c X ev p lk) (hev : ev ≤ 1048576) (hev1 : 1 ≤ ev) (hr : Rd w B Ak nk (bcs key)) (hB : B ≤ w.heap.size) (hkit : 0 < nk → ∀ a, Ak = some a → a.block ∉ [it]) (h0 : 0 ≤ lk) (h1 : lk ≤ 1099511627776) :
    Calls Try.prog 23 #[.pointer (some ⟨it, 0, none⟩), .slice Ak nk ck] w (StPost w it L A n c X ev (min (findF (X.map Ex.en) ev key).1 n) (lk + ((findF (X.map Ex.en) ev key).2 : Nat))) := by
  have hmf : ∀ (fn : Fn) (first cap : Array Value) (w : World), (Instr.makeFunc fn first cap).run Try.prog w = .ok (.func fn first cap) w := fun _ _ _ _ => rfl
  have hle := h.le
  have hXl : (X.map Ex.en).length = n := by rw [List.length_map]; exact h.els.2.1
  have lit := h.bk.lt
  have hF1 := findF_le (X.map Ex.en) ev key hev1
  rw [hXl] at hF1
  have hb1 := (Below.refl w.heap.size w).alloc (Nat.le_refl _) (.cells #[.pointer (some ⟨it, 0, none⟩)] 45)
  have H0 := Bk.new_ w 45 #[.pointer (some ⟨it, 0, none⟩)]
  have hI1 := h.below hb1
  have hr1 := hr.below hb1 hB
  have hB1 := Nat.le_trans hB hb1.size
  have hk1 : Kb [it] w _ := Kb.of_below hb1
  obtain ⟨F, hF⟩ : ∃ F, F = findF (X.map Ex.en) ev key := ⟨_, rfl⟩
  rw [← hF] at hF1 ⊢
  have HF := Lib.hid hF
  clear hF h hr hB
  go_enter Try.func23, Try.ntmps23
  go_upto_region 1 with fail
  obtain ⟨b0, hb0⟩ : ∃ x, x = w.heap.size := ⟨_, rfl⟩
  obtain ⟨W1, hW1⟩ : ∃ W, W = w.alloc (.cells #[.pointer (some ⟨it, 0, none⟩)] 45) := ⟨_, rfl⟩
  rw [← hW1] at H0 hb1 hI1 hr1 hB1 hk1 ⊢
  rw [← hb0] at H0 lit ⊢
  clear hW1
  have Hb0 := Lib.hid hb0
  clear hb0
  have q0 := H0.cell 0
  have i0 := hI1.bk.cell 0
  have lb0 := H0.lt
  have hne : b0 ∉ [it] := by simp only [List.mem_singleton]; omega
  go_wp2_with (first | (go_at_call 39; refine (c_Iis W1 it i0).mono ?_; rintro e w' ⟨rfl, rfl⟩))
  have HFd := Lib.hid (show Calls Try.prog 41 #[.pointer (some ⟨it, 0, none⟩), .slice Ak nk ck, .func (.func 42) #[] #[.pointer (some ⟨b0, 0, none⟩)]] w'.drew (fun e w2 => e = .returned (.int .i64 (F.1 : Int)) ∧ Itr w2 it L A n c X ev p (lk + (F.2 : Int)) ∧ Kb [it] w' w2) from by
    refine (c_find w'.drew (δ := 1) (c_Seek1 w'.drew b0 q0 hne h0 h1) (fun _ _ => rfl) (hI1.kb (S := []) (Kb.refl _ _).drew (fun b hb => by cases hb)) hev hev1 hr1.drew hB1 hkit).mono ?_
    rintro e w2 ⟨rfl, h2, hk2⟩
    rw [← HF.out] at h2 ⊢
    rw [Nat.one_mul] at h2
    exact ⟨rfl, h2, (Kb.refl _ _).drew.trans hk2 (fun b hb => .inl hb)⟩)
  have HKs := Lib.hid (fun (W' : World) (hk : Kb [it] w' W') => (hk.cell (p := ⟨b0, 0, none⟩) lb0 hne).trans q0)
  have HSt := Lib.hid (fun (W : World) (h : Itr W it L A n c X ev p (lk + (F.2 : Int))) => c_stand W (at_ := F.1) h (by omega))
  go_region_held3 (fun W => W.cell? ⟨b0, 0, none⟩ = some (.pointer (some ⟨it, 0, none⟩)))
    ((refine HKs.out _ ?_; first | exact (Kb.refl _ _).drew | exact hkm2 | exact hkm))
    (first | (go_at_call 41; (with_reducible refine HFd.out.mono ?_); rintro e w2 ⟨rfl, h2, hkm⟩)
           | (go_at_call 40; (with_reducible refine (HSt.out _ h2).mono ?_); rintro e w3 ⟨rfl, h3, hk3⟩; have hkm2 := hkm.trans hk3 (fun b hb => Or.inl hb)))
  go_wp2
  go_ret
  exact ⟨by rw [Nat.min_eq_left hF1]; rfl, h3, hk1.trans hkm2 (fun b hb => .inl hb)⟩
end Go.Proofs.Ytjcifmbbdofjiaa
