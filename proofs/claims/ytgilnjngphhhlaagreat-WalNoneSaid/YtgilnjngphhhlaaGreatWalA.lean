/- Layer 17: numbers in bytes, the least ahead; a piece. -/
import Derived.Test.YtgilnjngphhhlaaGreatCrcG
import Derived.Laws.CopyOwn
import Derived.Lib.AppendZeros
namespace Go.Lec
open Go.RowKit
/-- A number's bytes, the least ahead. -/
def le (k n : Nat) : List UInt8 := (List.range k).map fun i => UInt8.ofNat (n / 256 ^ i)
theorem le_length (k n : Nat) : (le k n).length = k := by simp [le]
theorem le_get (k n i : Nat) (h : i < k) : (le k n)[i]'(by rw [le_length]; exact h) = UInt8.ofNat (n / 256 ^ i) := by simp [le]
/-- A piece's bytes. -/
def pieceL (kind : UInt8) (p : List UInt8) : List UInt8 := le 4 (Go.Proofs.YtgilnjngphhhlaaGreat.maskOf (crcOf (kind :: p))).toNat ++ le 2 p.length ++ kind :: p
theorem pieceL_length (kind : UInt8) (p : List UInt8) : (pieceL kind p).length = 7 + p.length := by simp [pieceL, le_length]; omega
theorem byte_wrap (x : Int) (h0 : 0 ≤ x) (h1 : x ≤ 255) : (.int .u8 x : Value) = bcell (UInt8.ofNat x.toNat) := by
  rw [bcell_ofNat]
  congr 1
  omega
theorem byte_cut (x : Nat) : (.int .u8 (IntKind.u8.wrap (x : Int)) : Value) = bcell (UInt8.ofNat x) := by
  rw [bcell_ofNat]
  congr 1
theorem byte_sh (x j : Nat) : (.int .u8 ((x : Int) / 2 ^ (8 * j) % 256) : Value) = bcell (UInt8.ofNat (x / 256 ^ j)) := by
  rw [bcell_ofNat]
  congr 1
  have : ((2 : Int) ^ (8 * j)) = ((256 ^ j : Nat) : Int) := by rw [Int.pow_mul]; simp
  rw [this]
  rfl
/-- What the loop of 'number' holds behind i rounds. -/
theorem le_set (k n i : Nat) (h : i < k) :
    (bcs ((le k n).take i) ++ List.replicate (k - i) (Value.int .u8 0)).set i (bcell (UInt8.ofNat (n / 256 ^ i))) = bcs ((le k n).take (i + 1)) ++ List.replicate (k - (i + 1)) (Value.int .u8 0) := by
  have hl : (bcs ((le k n).take i)).length = i := by rw [bcs_length, List.length_take, le_length]; omega
  rw [List.set_append_right _ _ (by rw [hl]; exact Nat.le_refl _), hl, Nat.sub_self, show k - i = (k - (i + 1)) + 1 by omega, List.replicate_succ, List.set_cons_zero]
  rw [List.take_succ_eq_append_getElem (by rw [le_length]; exact h), bcs_append, le_get k n i h, List.append_assoc]
  rfl
theorem Own.kb {S : List Nat} {w w' : World} {B : Nat} {e : TypeId} {v : Value} {xs : List Value} (h : Own w B e v xs) (hk : Kb S w w') (hS : ∀ b, b ∈ S → b < B) : Own w' B e v xs := by
  refine ⟨h.1, ?_⟩
  rcases h.2 with hn | ⟨g, cap, cur, hv, hb, hg, rest⟩
  · exact .inl hn
  · exact .inr ⟨g, cap, cur, hv, hb, (hk.block g (Array.getElem?_eq_some_iff.1 hg).1 (fun hm => by have := hS g hm; omega)).trans hg, rest⟩
/-- A row without spare room is known whole. -/
theorem Own.full {w : World} {B : Nat} {e : TypeId} {g n : Nat} {xs : List Value} (h : Own w B e (.slice (some ⟨g, 0, none⟩) n n) xs) : w.heap[g]? = some (.cells xs.toArray e (0, 0)) := by
  rcases h.2 with ⟨h1, _⟩ | ⟨g', cap, cur, hv, hb, hg, h1, h2, h3, h4⟩
  · cases h1
  · simp only [Value.slice.injEq, Option.some.injEq, Addr.mk.injEq] at hv
    obtain ⟨⟨rfl, _⟩, h5, rfl⟩ := hv
    rw [hg]
    have hl : xs.length = n := by have := h.1; omega
    have : cur.toList = xs := by rw [← h4]; rw [List.take_of_length_le]; simp; omega
    rw [← this]
theorem Own.of_full {w : World} {B : Nat} {e : TypeId} {g : Nat} {xs : List Value} (h : w.heap[g]? = some (.cells xs.toArray e (0, 0))) (hB : B ≤ g) (hm : xs.length ≤ maxLen) : Own w B e (.slice (some ⟨g, 0, none⟩) xs.length xs.length) xs :=
  ⟨by simp, .inr ⟨g, xs.length, xs.toArray, rfl, hB, h, Nat.le_refl _, hm, by simp, by simp⟩⟩
end Go.Lec
namespace Go.Proofs.YtgilnjngphhhlaaGreat
open Go.RowKit Go.Lec

theorem winfo5 : (Tryz.prog.info? 5).map (fun i => (i.zero, i.size, i.bytes)) = some (some (.int .u8 0), 1, 1) := by kernel_rfl
theorem wslb : SlT Tryz.prog 22 5 (.int .u8 0) 1 := ⟨Tryz.underlying22, info_parts winfo5, rfl⟩

/-- A result that is a slice of bytes in memory of the call's own. -/
def RetB (w : World) (l : List UInt8) (e : Ending) (w' : World) : Prop := ∃ v, e = .returned v ∧ Lec.Own w' w.heap.size 5 v (bcs l) ∧ Below w.heap.size w w'

set_option maxHeartbeats 800000 in
theorem c_number (w : World) (x k : Nat) (hx : x < 4294967296) (hk : k ≤ 4) :
    Calls Tryz.prog 50 #[.int .u32 (x : Int), .int .i64 (k : Int)] w (RetB w (le k x)) := by
  go_enter Tryz.func50, Tryz.ntmps50
  go_wp2_with (first | (at_make; go_loud (refine wpList_make_n rfl _ _ rfl wslb (by decide) rfl (Nat.le_refl _) k rfl rfl rfl rfl (by omega) ?_); intro w1 hown hb1 hs1))
  go_loopw [11] (fun i wr => ∃ (j : Nat), j ≤ k ∧ i = .int .i64 (j : Int) ∧
      Lec.Own wr w.heap.size 5 (.slice (some ⟨w.heap.size, 0, none⟩) k k) (bcs ((le k x).take j) ++ List.replicate (k - j) (.int .u8 0)) ∧ Below w.heap.size w wr) (fun i _ => k - (intOf i).toNat)
  case atStart => exact ⟨0, Nat.zero_le _, rfl, by simpa [bcs] using hown, hb1⟩
  case round =>
    obtain ⟨j, hj, rfl, hown, hb⟩ := hrel
    by_cases hlt : j < k
    · have hfz := hown.frozenAt j
      have hcell := hown.cellAt j hlt
      have hlj : (bcs ((le k x).take j)).length = j := by rw [bcs_length, List.length_take, le_length]; omega
      rw [List.getElem?_append_right (by rw [hlj]; exact Nat.le_refl _), hlj, Nat.sub_self, List.getElem?_replicate, if_pos (by omega)] at hcell
      have hst := hown.stored j (bcell (UInt8.ofNat (x / 256 ^ j)))
      rw [le_set k x j hlt] at hst
      have hbs : Below w.heap.size w (wr.setCell ⟨w.heap.size, j, none⟩ (bcell (UInt8.ofNat (x / 256 ^ j)))) := hb.setCell (Nat.le_refl _) _
      rw [← byte_sh] at hst hbs
      have Hst := Lib.hid hst; clear hst
      have Hbs := Lib.hid hbs; clear hbs
      clear hlj hown hb hs1 hb1
      go_wp2
      go_roundw
      case rel => exact ⟨j + 1, by omega, by go_num, Hst.out, Hbs.out⟩
      case measure => simp [intOf]; omega
    · obtain rfl : j = k := by omega
      go_wp2
      go_ret
      exact ⟨_, rfl, by rw [Nat.sub_self, List.replicate_zero, List.append_nil, List.take_of_length_le (by rw [le_length]; exact Nat.le_refl _)] at hown; exact hown, hb⟩

/-- What a piece's making leaves. -/
def PiecePost (w : World) (b : Nat) (l : List UInt8) (e : Ending) (w' : World) : Prop := ∃ v, e = .returned v ∧ Lec.Own w' w.heap.size 5 v (bcs l) ∧ Kb [b] w w' ∧ Tab w' b

/-- It fits at a copy of these operands alone. -/
theorem at_copy {P : Program} {ops : Array Oper} {rest : List Oper} {Q : Exit → Act → World → Prop} {a : Act} {w : World} {dst : Option Tmp} {ts : Array TypeId} {ty : TypeId} {pos : String} {af : Array Edge} {g : Option (Nat × Bool)} (s x : Operand)
    (h : wpList P ops Q (⟨dst, .call ⟨.builtin .copy, #[s, x], ts⟩, ty, pos, af, g⟩ :: rest) a w) : wpList P ops Q (⟨dst, .call ⟨.builtin .copy, #[s, x], ts⟩, ty, pos, af, g⟩ :: rest) a w := h
/-- Where a copy reads from. -/
theorem copy_src {w : World} {B n : Nat} {A : Option Addr} {xs : List Value} (h : Rd w B A n xs) (hp : 0 < xs.length) : ∃ ad, A = some ad ∧ ∀ j v, xs[j]? = some v → w.cell? (ad.add j) = some v := by
  obtain ⟨b, o, e, _, hc⟩ := h.2 (by have := h.1; omega)
  exact ⟨_, e, fun j v hv => by rw [Addr.add_lit]; exact hc j v hv⟩
theorem splice_kind (k : UInt8) (l : List UInt8) : splice (Value.int .u8 (k.toNat : Int) :: List.replicate l.length (.int .u8 0)) 1 (bcs l) = bcs (k :: l) := by
  have h : List.replicate l.length (Value.int .u8 0) = List.replicate (bcs l).length (.int .u8 0) := by rw [bcs_length]
  rw [h]
  simp only [splice, List.take_succ_cons, List.take_zero, List.singleton_append, Nat.add_comm 1, List.drop_succ_cons]
  rw [List.drop_of_length_le (by simp), List.append_nil]
  rfl
/-- 's[1:]' of a row that was made with one element ahead. -/
theorem run_cut_at (g n : Nat) : ∃ dp, (∀ W : World, (Instr.slice 22 (.slice (some ⟨g, 0, none⟩) (n + 1) (n + 1)) (some (.int .i64 1)) none none).run Tryz.prog W = .ok (.slice dp n n) W) ∧ (0 < n → dp = some ⟨g, 1, none⟩) := by
  obtain ⟨i, hi, _, hsz, _⟩ := wslb.info
  refine ⟨if n + 1 = 1 then some ⟨g, 0, none⟩ else some ⟨g, 1, none⟩, fun W => ?_, fun h => by rw [if_neg (by omega)]⟩
  rw [run_slice_l (P := Tryz.prog) (w := W) 22 (some ⟨g, 0, none⟩) (n + 1) (n + 1) (by rw [wslb.elem_]; exact wslb.ut) .i64 1 (by omega) (by omega)]
  simp [sizeOf, typeInfo, wslb.elem_, hi, hsz, sliced, Result.andThen]
  split <;> simp [*, Addr.add_lit]

set_option maxRecDepth 20000 in
set_option maxHeartbeats 1600000 in
theorem c_piece (w : World) (b : Nat) (kind : UInt8) {B : Nat} {A : Option Addr} {n c : Nat} {l : List UInt8} (hT : Tab w b) (hr : Rd w B A n (bcs l)) (hB : B ≤ w.heap.size) (hn : n ≤ 2000) :
    Calls Tryz.prog 36 #[.pointer (some ⟨b, 0, none⟩), .int .u8 (kind.toNat : Int), .slice A n c] w (PiecePost w b (pieceL kind l)) := by
  have hln := hr.1
  rw [bcs_length] at hln
  have Hln := Lib.hid hln; clear hln
  have hbl := hT.lt
  have hw1 : (IntKind.i64.wrap (1 + (n : Int))) = ((n + 1 : Nat) : Int) := by rw [IntKind.wrap_i64]; omega
  obtain ⟨dp, hcut, hdp⟩ := run_cut_at w.heap.size n
  have Hdp := Lib.hid hdp
  clear hdp
  have HMk : ∀ w1 : World, Lec.Own w1 w.heap.size 5 (.slice (some ⟨w.heap.size, 0, none⟩) (n + 1) (n + 1)) (List.replicate (n + 1) (.int .u8 0)) → Below w.heap.size w w1 → 
      w1.cell? ⟨w.heap.size, 0, none⟩ = some (.int .u8 0) ∧ w1.frozen? ⟨w.heap.size, 0, none⟩ = false ∧ Hid (Below w.heap.size w (w1.setCell ⟨w.heap.size, 0, none⟩ (.int .u8 (kind.toNat : Int))) ∧
      (w1.setCell ⟨w.heap.size, 0, none⟩ (.int .u8 (kind.toNat : Int))).heap[w.heap.size]? = some (.cells (Value.int .u8 (kind.toNat : Int) :: List.replicate l.length (.int .u8 0)).toArray 5 (0, 0))) := by
    intro w1 hown hb
    have h0 := hown.cellAt 0 (by omega)
    have hst := (hown.stored 0 (.int .u8 (kind.toNat : Int))).full
    rw [List.replicate_succ, List.set_cons_zero] at hst
    refine ⟨by rw [h0, List.getElem?_replicate, if_pos (by omega)], hown.frozenAt 0, ⟨hb.setCell (Nat.le_refl _) _, ?_⟩⟩
    rw [Hln.out]
    exact hst
  have HMK := Lib.hid HMk
  clear HMk
  have HCp : ∀ w3 : World, Hid (w3.heap[w.heap.size]? = some (.cells (splice (Value.int .u8 (kind.toNat : Int) :: List.replicate l.length (.int .u8 0)) 1 (bcs l)).toArray 5 (0, 0))) → Below w.heap.size w w3 →
      Calls Tryz.prog 52 #[.pointer (some ⟨b, 0, none⟩), .slice (some ⟨w.heap.size, 0, none⟩) (n + 1) (n + 1)] w3 fun e w' => e = .returned (.int .u32 ((crcOf (kind :: l)).toNat : Int)) ∧ Kb [b] w w' ∧ Tab w' b ∧ Rd w' w'.heap.size (some ⟨w.heap.size, 0, none⟩) (n + 1) (bcs (kind :: l)) := by
    intro w3 HG hb3
    have h3 := HG.out
    rw [splice_kind] at h3
    have ho := Own.of_full h3 (Nat.le_refl _) (by rw [bcs_length, List.length_cons, Hln.out]; unfold maxLen; omega)
    rw [show (bcs (kind :: l)).length = n + 1 by rw [bcs_length, List.length_cons, Hln.out]] at ho
    refine (c_Sum w3 b (c := n + 1) (hT.below hb3 hbl) ho.rd (Nat.le_refl _) (fun a ha => by cases ha; dsimp only; omega) (by omega)).mono ?_
    rintro e w4 ⟨rfl, hK, hT4, -, -⟩
    have hK4 := ((Kb.of_below (S := []) hb3).more (S' := [b]) (fun _ h => by cases h)).trans hK (fun x hx => .inl hx)
    exact ⟨rfl, hK4, hT4, (ho.kb hK (fun x hx => by rw [List.mem_singleton.1 hx]; exact hbl)).rd⟩
  have HCP := Lib.hid HCp
  clear HCp
  obtain ⟨M, hM⟩ : ∃ M, M = maskOf (crcOf (kind :: l)) := ⟨_, rfl⟩
  have HM := Lib.hid hM
  clear hM
  have hMl := M.isLt
  obtain ⟨X, hX⟩ : ∃ X, X = crcOf (kind :: l) := ⟨_, rfl⟩
  rw [← hX] at HM HCP
  have HX := Lib.hid hX
  clear hX
  have hu : (IntKind.u32.wrap (n : Int)) = (n : Int) := by rw [IntKind.wrap_u32]; omega
  have HN1 : ∀ W, Calls Tryz.prog 50 #[.int .u32 (M.toNat : Int), .int .i64 4] W (RetB W (le 4 M.toNat)) := fun W => c_number W M.toNat 4 (by omega) (by omega)
  have HN2 : ∀ W, Calls Tryz.prog 50 #[.int .u32 (n : Int), .int .i64 2] W (RetB W (le 2 n)) := fun W => c_number W n 2 (by omega) (by omega)
  have HN1 := Lib.hid HN1
  have HN2 := Lib.hid HN2
  go_enter Tryz.func36, Tryz.ntmps36
  go_wp2_with (first
    | (at_make; go_loud (refine wpList_make_n rfl _ _ rfl wslb (by decide) rfl (Nat.le_refl _) (n + 1) rfl rfl (by omega) (by omega) (by omega) ?_); intro w1 hown hb1 hs1; obtain ⟨hc0, hf0, HS⟩ := HMK.out w1 hown hb1; clear hown)
    | ((with_reducible refine at_copy (.tmp 17) (.tmp 18) ?_); refine wpList_copy_splice rfl (.tmp 17) (.tmp 18) 22 22 rfl 5 Tryz.underlying22 (by kernel_rfl) _ _ _ _ _ _ rfl rfl w.heap.size 1 _ 5 HS.out.2 (bcs l) (by rw [bcs_length, Hln.out]; exact (Nat.min_self n).symm) (fun hp => ⟨Hdp.out (by rw [bcs_length, Hln.out] at hp; exact hp), copy_src (hr.below HS.out.1 hB) hp⟩) (by simp only [bcs_length, List.length_cons, List.length_replicate]; omega) bcs_one w.heap.size w HS.out.1 (Nat.le_refl _) ?_; intro w3 HG hb3)
    | (go_at_call 52; refine (HCP.out w3 HG hb3).mono ?_; rintro e w4 ⟨rfl, hK4, hT4, hr4⟩)
    | (go_at_call 51; refine (c_Mask w4 X).mono ?_; rw [← HM.out]; rintro e w4' ⟨rfl, rfl⟩)
    | (go_at_call 50; (with_reducible refine (HN1.out _).mono ?_); rintro e w5 ⟨v5, rfl, ho5, hb5⟩)
    | (go_at_call 50; (with_reducible refine (HN2.out _).mono ?_); rintro e w6 ⟨v6, rfl, ho6, hb6⟩; obtain ⟨A6, c6, rfl, hc6⟩ := ho6.shape; have hr6 := ho6.rd; have ho56 := ho5.below hb6 (Nat.le_refl _); have hb56 := hb5.trans (hb6.mono hb5.size))
    | (at_builtin; (refine wpList_app_sl rfl (.tmp 24) (.tmp 28) rfl wslb (by decide) rfl ho56 hb56 hb56.size rfl hr6 bcs_one (by simp only [bcs_length, le_length]; omega) ?_); intro v7 w7 ho7 hb7 hs7)
    | (at_builtin; (refine wpList_app_sl rfl (.tmp 30) (.tmp 31) rfl wslb (by decide) rfl ho7 hb7 hs7 rfl (hr4.below hb7 (Nat.le_refl _)) bcs_one (by simp only [bcs_length, le_length, List.length_append]; omega) ?_); intro v8 w8 ho8 hb8 hs8))
  go_ret
  refine ⟨_, rfl, ?_, hK4.then_ hb8 hK4.size, hT4.below hb8 (Nat.lt_of_lt_of_le hbl hK4.size)⟩
  have hf := ho8.mono hK4.size
  rw [HM.out, HX.out, ← bcs_append, ← bcs_append, ← Hln.out] at hf
  exact hf
end Go.Proofs.YtgilnjngphhhlaaGreat
/- Layer 17: the document's piece. -/
namespace Go.Proofs.YtgilnjngphhhlaaGreat
open Go.RowKit Go.Lec

theorem le4 (x : Nat) : bcs (le 4 x) = [.int .u8 (x % 256 : Nat), .int .u8 (x / 256 % 256 : Nat), .int .u8 (x / 65536 % 256 : Nat), .int .u8 (x / 16777216 % 256 : Nat)] := by
  simp [le, bcs, List.range_succ, bcell_ofNat]
theorem le2 (x : Nat) : bcs (le 2 x) = [.int .u8 (x % 256 : Nat), .int .u8 (x / 256 % 256 : Nat)] := by
  simp [le, bcs, List.range_succ, bcell_ofNat]

end Go.Proofs.YtgilnjngphhhlaaGreat
/- Layer 17: frames: the plain answer; a log's record is framed. -/
namespace Go.Lec
open Go.RowKit
/-- The frames behind a record's first: from a block's beginning on. -/
def tailL (l : List UInt8) : List UInt8 := if h : l.length ≤ 505 then pieceL 4 l else pieceL 3 (l.take 505) ++ tailL (l.drop 505)
termination_by l.length
decreasing_by simp only [List.length_drop]; omega
theorem tailL_last (l : List UInt8) (h : l.length ≤ 505) : tailL l = pieceL 4 l := by rw [tailL, dif_pos h]
theorem tailL_more (l : List UInt8) (h : ¬ l.length ≤ 505) : tailL l = pieceL 3 (l.take 505) ++ tailL (l.drop 505) := by rw [tailL, dif_neg h]
/-- Zeros ahead of the first frame at a place. -/
def padN (p : Nat) : Nat := if 512 - p < 7 then 512 - p else 0
/-- A payload's room at a place. -/
def roomN (p : Nat) : Nat := if 512 - p < 7 then 505 else 505 - p
/-- A record's frames at a place of a block. -/
def encL (p : Nat) (l : List UInt8) : List UInt8 := List.replicate (padN p) 0 ++ (if l.length ≤ roomN p then pieceL 1 l else pieceL 2 (l.take (roomN p)) ++ tailL (l.drop (roomN p)))
/-- A slice's length. -/
def lenS : Value → Nat
  | .slice _ n _ => n
  | _ => 0
/-- A flag's worth. -/
def flagN : Value → Nat
  | .bool true => 1
  | _ => 0
theorem zeros_bcs (n : Nat) : List.replicate n (Value.int .u8 0) = bcs (List.replicate n 0) := by simp [bcs, bcell]
end Go.Lec
namespace Go.Proofs.YtgilnjngphhhlaaGreat
open Go.RowKit Go.Lec

/-- Zeros behind nothing. -/
theorem wpList_zeros {ops : Array Oper} {rest : List Oper} {o : Oper} {a : Act} {w w0 : World} {Q : Exit → Act → World → Prop} (hgd : o.guard = none) (s x : Operand)
    (ho : o.op = .call { callee := .builtin .append, args := #[s, x], argTypes := #[22, 3] }) (n : Nat) (h0 : 0 < n) (hn : n ≤ 1024) (hs : a.eval s = .slice none 0 0) (X : Int) (hx : a.eval x = .int .i64 X) (hX : X = (n : Int))
    {base : Nat} (hb : Below base w0 w) (hbase : base ≤ w.heap.size)
    (h : ∀ v' w', Lec.Own w' base 5 v' (bcs (List.replicate n 0)) → Below base w0 w' → base ≤ w'.heap.size → wpList Tryz.prog ops Q rest (a.put o.dst v') w') :
    wpList Tryz.prog ops Q (o :: rest) a w := by
  obtain ⟨i, hi, hz, hsz, hby⟩ := info_parts winfo5
  have hr := Lib.run_append_nil_zeros w 22 3 o.type 5 i (.int .u8 0) .i64 .i64 Tryz.underlying22 Tryz.underlying3 hi hz n h0 (by omega) (by omega) (by rw [hby]; omega)
  rw [hX] at hx
  refine Lib.wpList_append_run w hgd s x 22 3 ho _ _ hs hx _ _ hr ?_
  have hc := grownCap_ge w n 0 5
  have hm := grownCap_le_maxLen w n 0 5 (by unfold maxLen; omega)
  generalize grownCap w n 0 5 = C at hc hm
  refine h _ _ ?_ ?_ ?_
  · refine ⟨by simp, .inr ⟨w.heap.size, C, _, by rw [bcs_length, List.length_replicate], hbase, heap_alloc_new w.drew _, by rw [bcs_length, List.length_replicate]; exact hc, hm, ?_, ?_⟩⟩
    · simp [Value.cells, size_zeroCells]; omega
    · simp [Value.cells, Builtin.zeroCells, bcs_length, ← zeros_bcs, Nat.mod_one, List.map_const']
  · exact hb.drew.alloc hbase _
  · exact Nat.le_trans hbase (by simp)

/-- Bytes in memory of the call's own, and a number. -/
def RetBE (w : World) (l : List UInt8) (n : Int) (e : Ending) (w' : World) : Prop := ∃ v, e = .returned (.tuple #[v, .int .i64 n]) ∧ Lec.Own w' w.heap.size 5 v (bcs l) ∧ Below w.heap.size w w'

theorem c_Encode_no (w : World) (x : Int) (v : Value) (h : x < 0) :
    Calls Tryz.prog 19 #[.int .i64 x, v] w fun e w' => e = .returned (.tuple #[.slice none 0 0, .int .i64 1]) ∧ w' = w := by
  go_enter Tryz.func19, Tryz.ntmps19
  go_wp2
  go_ret2
  exact ⟨rfl, rfl⟩

/-- A piece's contract, its kind a number. -/
theorem c_pieceK (w : World) (b : Nat) (kind : UInt8) (K : Int) (hK : K = (kind.toNat : Int)) {B : Nat} {A : Option Addr} {n c : Nat} {l : List UInt8} (hT : Tab w b) (hr : Rd w B A n (bcs l)) (hB : B ≤ w.heap.size) (hn : n ≤ 2000) :
    Calls Tryz.prog 36 #[.pointer (some ⟨b, 0, none⟩), .int .u8 K, .slice A n c] w (PiecePost w b (pieceL kind l)) := by
  rw [hK]
  exact c_piece w b kind hT hr hB hn

end Go.Proofs.YtgilnjngphhhlaaGreat
