/- Layer 17: frames are read back: the plain laws. -/
import Derived.Test.YtgilnjngphhhlaaGreatWalI
import Derived.Test.YtgilnjngphhhlaaGreatWalM
namespace Go.Lec
open Go.RowKit
theorem le2_list (n : Nat) : le 2 n = [UInt8.ofNat n, UInt8.ofNat (n / 256)] := by simp [le, List.range_succ]
theorem getD_app {X T : List UInt8} {i : Nat} : (X ++ T).getD (X.length + i) 0 = T.getD i 0 := by
  simp [List.getD_eq_getElem?_getD, List.getElem?_append_right]
/-- A piece's bytes, one by one. -/
theorem piece_bytes (k : UInt8) (p : List UInt8) : ∃ a0 a1 a2 a3, le 4 (Go.Proofs.YtgilnjngphhhlaaGreat.maskOf (crcOf (k :: p))).toNat = [a0, a1, a2, a3] ∧ ∀ Y, pieceL k p ++ Y = a0 :: a1 :: a2 :: a3 :: UInt8.ofNat p.length :: UInt8.ofNat (p.length / 256) :: k :: (p ++ Y) := by
  refine ⟨_, _, _, _, le4_list _, fun Y => ?_⟩
  rw [pieceL, le4_list, le2_list]
  simp
theorem head_at {X p Y b : List UInt8} {k : UInt8} (hb : b = X ++ (pieceL k p ++ Y)) (hr : 7 + p.length ≤ 512 - X.length % 512) (h1 : 1 ≤ k.toNat) (h4 : k.toNat ≤ 4) :
    pieces b X.length = (k, p, X.length + 7 + p.length) :: pieces b (X.length + 7 + p.length) := by
  obtain ⟨a0, a1, a2, a3, hle, hbytes⟩ := piece_bytes k p
  have hT := hbytes Y
  have hlen : b.length = X.length + (7 + p.length + Y.length) := by rw [hb]; simp [pieceL_length]
  have hlenAt : lenAt b X.length = p.length := by
    unfold lenAt byteAt
    rw [hb, getD_app, getD_app, hT]
    simp only [List.getD_cons_succ, List.getD_cons_zero]
    rw [UInt8.toNat_ofNat', UInt8.toNat_ofNat']
    omega
  have hk : kindAt b X.length = k := by
    unfold kindAt
    rw [hb, getD_app, hT]
    rfl
  have hp : payAt b X.length = p := by
    unfold payAt
    rw [hlenAt, hb, List.drop_append, hT, List.drop_of_length_le (by omega), List.nil_append, show X.length + 7 - X.length = 7 by omega]
    simp
  have h7 : ¬ 512 - X.length % 512 < 7 := by omega
  have hok : headOk b X.length := by
    refine ⟨by omega, by rw [hlenAt]; exact hr, by rw [hlenAt]; omega, ?_, by rw [hk]; exact h1, by rw [hk]; exact h4⟩
    rw [hk, hp, hle, hb, List.drop_left, hT]
    rfl
  rw [pieces_head (by omega) h7 hok, hk, hp, hlenAt]
theorem pad_at {X T b : List UInt8} {q : Nat} (hb : b = X ++ (List.replicate q 0 ++ T)) (hq : q = 512 - X.length % 512) (h7 : q < 7) : pieces b X.length = pieces b (X.length + q) := by
  have hlen : b.length = X.length + (q + T.length) := by rw [hb]; simp
  rw [pieces_pad (by omega) (by omega) ⟨by omega, fun t ht => ?_⟩, ← hq]
  rw [hb, getD_app, List.getD_eq_getElem?_getD, List.getElem?_append_left (by simp; omega)]
  simp [List.getElem?_replicate, show t < q by omega]
theorem tail_read : ∀ (n : Nat) (l X Y b rec : List UInt8) (out : List (List UInt8)) (g : Nat), l.length ≤ n → b = X ++ (tailL l ++ Y) → X.length % 512 = 0 → rec.length + l.length ≤ 1048576 →
    readL (pieces b X.length) true rec out g = readL (pieces b (X.length + (tailL l).length)) false [] (out ++ [rec ++ l]) (X.length + (tailL l).length) := by
  intro n
  induction n with
  | zero =>
    intro l X Y b rec out g hl hb hX hr
    have hl0 : l = [] := List.eq_nil_of_length_eq_zero (by omega)
    subst hl0
    rw [tailL_last [] (by simp)] at hb ⊢
    rw [head_at hb (by simp; omega) (by decide) (by decide), Go.Proofs.YtgilnjngphhhlaaGreat.readL_close (by decide) (by simpa using hr) (by decide), pieceL_length, Nat.add_assoc]
  | succ n ih =>
    intro l X Y b rec out g hl hb hX hr
    by_cases h : l.length ≤ 505
    · rw [tailL_last l h] at hb ⊢
      rw [head_at hb (by omega) (by decide) (by decide), Go.Proofs.YtgilnjngphhhlaaGreat.readL_close (by decide) hr (by decide), pieceL_length, Nat.add_assoc]
    · rw [tailL_more l h] at hb ⊢
      have ht : (l.take 505).length = 505 := by rw [List.length_take]; omega
      rw [List.append_assoc] at hb
      rw [head_at hb (by rw [ht]; omega) (by decide) (by decide), Go.Proofs.YtgilnjngphhhlaaGreat.readL_open (by decide) (by rw [ht]; omega) (by decide)]
      have hX' : (X ++ pieceL 3 (l.take 505)).length = X.length + 7 + (l.take 505).length := by rw [List.length_append, pieceL_length, Nat.add_assoc]
      rw [← hX', ih (l.drop 505) (X ++ pieceL 3 (l.take 505)) Y b (rec ++ l.take 505) out g (by rw [List.length_drop]; omega) (by rw [hb]; simp [List.append_assoc]) (by rw [hX', ht]; omega) (by rw [List.length_append, ht, List.length_drop]; omega)]
      rw [List.append_assoc rec, List.take_append_drop, List.length_append, List.length_append, Nat.add_assoc]
theorem enc_read {l X Y b : List UInt8} {out : List (List UInt8)} {g : Nat} (hb : b = X ++ (encL (X.length % 512) l ++ Y)) (hl : l.length ≤ 1048576) :
    readL (pieces b X.length) false [] out g = readL (pieces b (X.length + (encL (X.length % 512) l).length)) false [] (out ++ [l]) (X.length + (encL (X.length % 512) l).length) := by
  have hpad : ∃ X1 R, X1 = X ++ List.replicate (padN (X.length % 512)) 0 ∧ R = roomN (X.length % 512) ∧ 7 + R ≤ 512 - X1.length % 512 ∧ (X1.length + 7 + R) % 512 = 0 ∧ pieces b X.length = pieces b X1.length := by
    refine ⟨_, _, rfl, rfl, ?_, ?_, ?_⟩
    · rw [List.length_append, List.length_replicate]
      unfold padN roomN
      split <;> omega
    · rw [List.length_append, List.length_replicate]
      unfold padN roomN
      split <;> omega
    · rw [List.length_append, List.length_replicate]
      unfold padN
      split
      · rename_i h
        unfold encL padN at hb
        rw [if_pos h, List.append_assoc] at hb
        exact pad_at hb rfl h
      · rfl
  obtain ⟨X1, R, hX1, hR, hroom, hmod, hpe⟩ := hpad
  rw [hpe]
  have hlen1 : X1.length = X.length + padN (X.length % 512) := by rw [hX1]; simp
  unfold encL at hb ⊢
  rw [← hR] at hb ⊢
  by_cases h : l.length ≤ R
  · rw [if_pos h] at hb ⊢
    have hb1 : b = X1 ++ (pieceL 1 l ++ Y) := by rw [hb, hX1]; simp [List.append_assoc]
    rw [head_at hb1 (by omega) (by decide) (by decide), Go.Proofs.YtgilnjngphhhlaaGreat.readL_close (by decide) (by simpa using hl) (by decide), List.length_append, List.length_replicate, pieceL_length, hlen1]
    simp only [List.nil_append]
    rw [show X.length + padN (X.length % 512) + 7 + l.length = X.length + (padN (X.length % 512) + (7 + l.length)) by omega]
  · rw [if_neg h] at hb ⊢
    have ht : (l.take R).length = R := by rw [List.length_take]; omega
    have hb1 : b = X1 ++ (pieceL 2 (l.take R) ++ (tailL (l.drop R) ++ Y)) := by rw [hb, hX1]; simp [List.append_assoc]
    have hX' : (X1 ++ pieceL 2 (l.take R)).length = X1.length + 7 + (l.take R).length := by rw [List.length_append, pieceL_length, Nat.add_assoc]
    rw [head_at hb1 (by rw [ht]; exact hroom) (by decide) (by decide), Go.Proofs.YtgilnjngphhhlaaGreat.readL_open (by decide) (by rw [ht]; simp; omega) (by decide), ← hX',
      tail_read _ (l.drop R) (X1 ++ pieceL 2 (l.take R)) Y b ([] ++ l.take R) out g (Nat.le_refl _) (by rw [hb1]; simp [List.append_assoc]) (by rw [hX', ht]; exact hmod) (by simp; omega)]
    simp only [List.nil_append, List.take_append_drop, List.length_append, List.length_replicate, hlen1]
    rw [show X.length + padN (X.length % 512) + (pieceL 2 (List.take R l)).length + (tailL (List.drop R l)).length = X.length + (padN (X.length % 512) + ((pieceL 2 (List.take R l)).length + (tailL (List.drop R l)).length)) by omega]
/-- Records behind bytes, framed. -/
def framesF : List UInt8 → List (List UInt8) → List UInt8
  | X, [] => X
  | X, r :: rs => framesF (X ++ encL (X.length % 512) r) rs
theorem framesF_pre : ∀ (l : List (List UInt8)) (X : List UInt8), ∃ T, framesF X l = X ++ T
  | [], X => ⟨[], by simp [framesF]⟩
  | r :: rs, X => by
    obtain ⟨T, hT⟩ := framesF_pre rs (X ++ encL (X.length % 512) r)
    exact ⟨encL (X.length % 512) r ++ T, by rw [framesF, hT, List.append_assoc]⟩
theorem frames_read : ∀ (l : List (List UInt8)) (X Y b : List UInt8) (out : List (List UInt8)), b = framesF X l ++ Y → (∀ r ∈ l, r.length ≤ 1048576) →
    readL (pieces b X.length) false [] out X.length = readL (pieces b (framesF X l).length) false [] (out ++ l) (framesF X l).length
  | [], X, Y, b, out, hb, _ => by simp [framesF]
  | r :: rs, X, Y, b, out, hb, hl => by
    obtain ⟨T, hT⟩ := framesF_pre rs (X ++ encL (X.length % 512) r)
    have hb1 : b = X ++ (encL (X.length % 512) r ++ (T ++ Y)) := by rw [hb, framesF, hT]; simp [List.append_assoc]
    rw [enc_read hb1 (hl r List.mem_cons_self)]
    have := frames_read rs (X ++ encL (X.length % 512) r) Y b (out ++ [r]) hb (fun x hx => hl x (List.mem_cons_of_mem _ hx))
    rw [List.length_append] at this
    rw [this, framesF, List.append_assoc, List.singleton_append]
theorem readB_frames (l : List (List UInt8)) (hl : ∀ r ∈ l, r.length ≤ 1048576) : readB (framesF [] l) = (l, (framesF [] l).length) := by
  have h := frames_read l [] [] (framesF [] l) [] (by simp) hl
  rw [pieces_end (Nat.le_refl _)] at h
  exact h
/-- Ends that go up. -/
def endsUp : Nat → List (UInt8 × List UInt8 × Nat) → Nat → Prop
  | s, [], M => s ≤ M
  | s, (_, _, e) :: ps, M => s ≤ e ∧ endsUp e ps M
theorem endsUp_le : ∀ {ps : List (UInt8 × List UInt8 × Nat)} {s M : Nat}, endsUp s ps M → s ≤ M
  | [], _, _, h => h
  | (_, _, _) :: _, _, _, h => Nat.le_trans h.1 (endsUp_le h.2)
theorem pieces_up : ∀ (n : Nat) (b : List UInt8) (s : Nat), b.length - s ≤ n → s ≤ b.length → ∀ g, g ≤ s → endsUp g (pieces b s) b.length := by
  intro n
  induction n with
  | zero => intro b s hn hs g hg; rw [pieces_end (by omega)]; show g ≤ _; omega
  | succ n ih =>
    intro b s hn hs g hg
    by_cases hlt : s < b.length
    · by_cases h7 : 512 - s % 512 < 7
      · by_cases hp : padOk b s
        · rw [pieces_pad hlt h7 hp]
          exact ih b _ (by omega) hp.1 g (by omega)
        · rw [pieces_padno hlt h7 hp]; show g ≤ _; omega
      · by_cases hk : headOk b s
        · rw [pieces_head hlt h7 hk]
          exact ⟨by omega, ih b _ (by omega) hk.2.2.1 _ (Nat.le_refl _)⟩
        · rw [pieces_headno h7 hk]; show g ≤ _; omega
    · rw [pieces_end (by omega)]; show g ≤ _; omega
theorem readL_more : ∀ (qs : List (UInt8 × List UInt8 × Nat)) (op : Bool) (rec : List UInt8) (out : List (List UInt8)) (g M s : Nat), endsUp s qs M → g ≤ s → out <+: (readL qs op rec out g).1 ∧ g ≤ (readL qs op rec out g).2 ∧ (readL qs op rec out g).2 ≤ M
  | [], op, rec, out, g, M, s, h, hg => ⟨List.prefix_refl _, Nat.le_refl _, Nat.le_trans hg h⟩
  | (k, p, e) :: qs, op, rec, out, g, M, s, h, hg => by
    have heM := endsUp_le h.2
    rw [readL]
    split
    · exact ⟨List.prefix_refl _, Nat.le_refl _, Nat.le_trans hg (Nat.le_trans h.1 heM)⟩
    · split
      · exact readL_more qs _ _ _ _ M e h.2 (Nat.le_trans hg h.1)
      · obtain ⟨h1, h2, h3⟩ := readL_more qs false [] (out ++ [rec ++ p]) e M e h.2 (Nat.le_refl _)
        exact ⟨(List.prefix_append _ _).trans h1, Nat.le_trans (Nat.le_trans hg h.1) h2, h3⟩
theorem readL_pre : ∀ (ps qs : List (UInt8 × List UInt8 × Nat)) (op : Bool) (rec : List UInt8) (out : List (List UInt8)) (g M s : Nat), endsUp s (ps ++ qs) M → g ≤ s → (readL ps op rec out g).1 <+: (readL (ps ++ qs) op rec out g).1
  | [], qs, op, rec, out, g, M, s, h, hg => (readL_more qs op rec out g M s h hg).1
  | (k, p, e) :: ps, qs, op, rec, out, g, M, s, h, hg => by
    rw [List.cons_append, readL, readL]
    split
    · exact List.prefix_refl _
    · split
      · exact readL_pre ps qs _ _ _ _ M e h.2 (Nat.le_trans hg h.1)
      · exact readL_pre ps qs _ _ _ _ M e h.2 (Nat.le_refl _)
theorem getD_left {X Z : List UInt8} {i : Nat} (h : i < X.length) : (X ++ Z).getD i 0 = X.getD i 0 := by
  simp [List.getD_eq_getElem?_getD, List.getElem?_append_left h]
theorem pieces_pre : ∀ (n : Nat) (X Z : List UInt8) (s : Nat), X.length - s ≤ n → pieces X s <+: pieces (X ++ Z) s := by
  intro n
  induction n with
  | zero => intro X Z s hn; rw [pieces_end (by omega)]; exact List.nil_prefix
  | succ n ih =>
    intro X Z s hn
    by_cases hlt : s < X.length
    · have hltZ : s < (X ++ Z).length := by rw [List.length_append]; omega
      by_cases h7 : 512 - s % 512 < 7
      · by_cases hp : padOk X s
        · have hpZ : padOk (X ++ Z) s := ⟨by rw [List.length_append]; have := hp.1; omega, fun t ht => by rw [getD_left (by have := hp.1; omega)]; exact hp.2 t ht⟩
          rw [pieces_pad hlt h7 hp, pieces_pad hltZ h7 hpZ]
          exact ih X Z _ (by omega)
        · rw [pieces_padno hlt h7 hp]; exact List.nil_prefix
      · by_cases hk : headOk X s
        · have h1 := hk.1
          have h3 := hk.2.2.1
          have e1 : lenAt (X ++ Z) s = lenAt X s := by unfold lenAt byteAt; rw [getD_left (by omega), getD_left (by omega)]
          have e2 : kindAt (X ++ Z) s = kindAt X s := by unfold kindAt; rw [getD_left (by omega)]
          have e3 : payAt (X ++ Z) s = payAt X s := by
            unfold payAt
            rw [e1, List.drop_append_of_le_length (by omega), List.take_append_of_le_length (by rw [List.length_drop]; omega)]
          have hkZ : headOk (X ++ Z) s := by
            refine ⟨by rw [List.length_append]; omega, by rw [e1]; exact hk.2.1, by rw [e1, List.length_append]; omega, ?_, by rw [e2]; exact hk.2.2.2.2.1, by rw [e2]; exact hk.2.2.2.2.2⟩
            rw [e2, e3, List.drop_append_of_le_length (by omega), List.take_append_of_le_length (by rw [List.length_drop]; omega)]
            exact hk.2.2.2.1
          rw [pieces_head hlt h7 hk, pieces_head hltZ h7 hkZ, e1, e2, e3]
          obtain ⟨t, ht⟩ := ih X Z (s + 7 + lenAt X s) (by omega)
          exact ⟨t, by rw [List.cons_append, ht]⟩
        · rw [pieces_headno h7 hk]; exact List.nil_prefix
    · rw [pieces_end (by omega)]; exact List.nil_prefix
/-- Of a beginning a beginning is read. -/
theorem readB_cut (F : List UInt8) (l : List (List UInt8)) (hF : (readB F).1 = l) (c : Nat) (hc : c ≤ F.length) : (readB (F.take c)).1 <+: l ∧ (readB (F.take c)).2 ≤ c := by
  have hlen : (F.take c).length = c := by rw [List.length_take]; omega
  obtain ⟨t, ht⟩ := pieces_pre _ (F.take c) (F.drop c) 0 (Nat.le_refl _)
  rw [List.take_append_drop] at ht
  have hup := pieces_up _ F 0 (Nat.le_refl _) (Nat.zero_le _) 0 (Nat.le_refl _)
  have hupc := pieces_up _ (F.take c) 0 (Nat.le_refl _) (Nat.zero_le _) 0 (Nat.le_refl _)
  rw [hlen] at hupc
  refine ⟨?_, (readL_more _ false [] [] 0 c 0 hupc (Nat.le_refl _)).2.2⟩
  rw [← hF]
  unfold readB
  rw [← ht]
  exact readL_pre _ t false [] [] 0 F.length 0 (by rw [ht]; exact hup) (Nat.le_refl _)
/-- What stands behind costs nothing. -/
theorem readB_more (l : List (List UInt8)) (hl : ∀ r ∈ l, r.length ≤ 1048576) (Y : List UInt8) : l <+: (readB (framesF [] l ++ Y)).1 ∧ (framesF [] l).length ≤ (readB (framesF [] l ++ Y)).2 := by
  have h := frames_read l [] Y (framesF [] l ++ Y) [] rfl hl
  have hup := pieces_up _ (framesF [] l ++ Y) (framesF [] l).length (Nat.le_refl _) (by simp) (framesF [] l).length (Nat.le_refl _)
  have hm := readL_more _ false [] ([] ++ l) (framesF [] l).length _ _ hup (Nat.le_refl _)
  have e : readB (framesF [] l ++ Y) = readL (pieces (framesF [] l ++ Y) (framesF [] l).length) false [] ([] ++ l) (framesF [] l).length := h
  rw [e]
  exact ⟨hm.1, hm.2.1⟩
end Go.Lec
