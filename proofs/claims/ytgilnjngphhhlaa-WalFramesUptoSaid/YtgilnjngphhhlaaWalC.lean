/- Layer 17: frames: the plain answer; a log's record is framed. -/
import Derived.Test.YtgilnjngphhhlaaWalB
namespace Go.Lec
open Go.RowKit
/-- The frames behind a record's first: from a block's beginning on. -/
def tailL (l : List UInt8) : List UInt8 := if h : l.length ≤ 505 then pieceL 4 l else pieceL 3 (l.take 505) ++ tailL (l.drop 505)
termination_by l.length
decreasing_by simp only [List.length_drop]; omega
theorem tailL_last (l : List UInt8) (h : l.length ≤ 505) : tailL l = pieceL 4 l := by rw [tailL, dif_pos h]
theorem tailL_more (l : List UInt8) (h : ¬ l.length ≤ 505) : tailL l = pieceL 3 (l.take 505) ++ tailL (l.drop 505) := by rw [tailL, dif_neg h]
/-- Zeros ahead of the first frame at a place. -/
def padN (p : Nat) : Nat := if 512 - p < 7 then 512 - p else 0
/-- A payload's room at a place. -/
def roomN (p : Nat) : Nat := if 512 - p < 7 then 505 else 505 - p
/-- A record's frames at a place of a block. -/
def encL (p : Nat) (l : List UInt8) : List UInt8 := List.replicate (padN p) 0 ++ (if l.length ≤ roomN p then pieceL 1 l else pieceL 2 (l.take (roomN p)) ++ tailL (l.drop (roomN p)))
/-- A slice's length. -/
def lenS : Value → Nat
  | .slice _ n _ => n
  | _ => 0
/-- A flag's worth. -/
def flagN : Value → Nat
  | .bool true => 1
  | _ => 0
theorem zeros_bcs (n : Nat) : List.replicate n (Value.int .u8 0) = bcs (List.replicate n 0) := by simp [bcs, bcell]
end Go.Lec
namespace Go.Proofs.Ytgilnjngphhhlaa
open Go.RowKit Go.Lec

/-- Zeros behind nothing. -/
theorem wpList_zeros {ops : Array Oper} {rest : List Oper} {o : Oper} {a : Act} {w w0 : World} {Q : Exit → Act → World → Prop} (hgd : o.guard = none) (s x : Operand)
    (ho : o.op = .call { callee := .builtin .append, args := #[s, x], argTypes := #[23, 3] }) (n : Nat) (h0 : 0 < n) (hn : n ≤ 1024) (hs : a.eval s = .slice none 0 0) (X : Int) (hx : a.eval x = .int .i64 X) (hX : X = (n : Int))
    {base : Nat} (hb : Below base w0 w) (hbase : base ≤ w.heap.size)
    (h : ∀ v' w', Lec.Own w' base 5 v' (bcs (List.replicate n 0)) → Below base w0 w' → base ≤ w'.heap.size → wpList Try.prog ops Q rest (a.put o.dst v') w') :
    wpList Try.prog ops Q (o :: rest) a w := by
  obtain ⟨i, hi, hz, hsz, hby⟩ := info_parts info5
  have hr := Lib.run_append_nil_zeros w 23 3 o.type 5 i (.int .u8 0) .i64 .i64 Try.underlying23 Try.underlying3 hi hz n h0 (by omega) (by omega) (by rw [hby]; omega)
  rw [hX] at hx
  refine Lib.wpList_append_run w hgd s x 23 3 ho _ _ hs hx _ _ hr ?_
  have hc := grownCap_ge w n 0 5
  have hm := grownCap_le_maxLen w n 0 5 (by unfold maxLen; omega)
  generalize grownCap w n 0 5 = C at hc hm
  refine h _ _ ?_ ?_ ?_
  · refine ⟨by simp, .inr ⟨w.heap.size, C, _, by rw [bcs_length, List.length_replicate], hbase, heap_alloc_new w.drew _, by rw [bcs_length, List.length_replicate]; exact hc, hm, ?_, ?_⟩⟩
    · simp [Value.cells, size_zeroCells]; omega
    · simp [Value.cells, Builtin.zeroCells, bcs_length, ← zeros_bcs, Nat.mod_one, List.map_const']
  · exact hb.drew.alloc hbase _
  · exact Nat.le_trans hbase (by simp)

/-- Bytes in memory of the call's own, and a number. -/
def RetBE (w : World) (l : List UInt8) (n : Int) (e : Ending) (w' : World) : Prop := ∃ v, e = .returned (.tuple #[v, .int .i64 n]) ∧ Lec.Own w' w.heap.size 5 v (bcs l) ∧ Below w.heap.size w w'

theorem c_Encode_no (w : World) (x : Int) (v : Value) (h : x < 0) :
    Calls Try.prog 7 #[.int .i64 x, v] w fun e w' => e = .returned (.tuple #[.slice none 0 0, .int .i64 1]) ∧ w' = w := by
  go_enter Try.func7, Try.ntmps7
  go_wp2
  go_ret2
  exact ⟨rfl, rfl⟩

/-- A piece's contract, its kind a number. -/
theorem c_pieceK (w : World) (b : Nat) (kind : UInt8) (K : Int) (hK : K = (kind.toNat : Int)) {B : Nat} {A : Option Addr} {n c : Nat} {l : List UInt8} (hT : Tab w b) (hr : Rd w B A n (bcs l)) (hB : B ≤ w.heap.size) (hn : n ≤ 2000) :
    Calls Try.prog 13 #[.pointer (some ⟨b, 0, none⟩), .int .u8 K, .slice A n c] w (PiecePost w b (pieceL kind l)) := by
  rw [hK]
  exact c_piece w b kind hT hr hB hn

theorem c_rPieceK (w : World) (kind : UInt8) (K : Int) (hK : K = (kind.toNat : Int)) {B : Nat} {A : Option Addr} {n c : Nat} {l : List UInt8} (hr : Rd w B A n (bcs l)) (hB : B ≤ w.heap.size) (hn : n ≤ 2000) :
    Calls Try.prog 14 #[.int .i64 K, .slice A n c] w (RetB w (pieceL kind l)) := by
  rw [hK]
  exact c_rPiece w kind hr hB hn
theorem c_rEncode_no (w : World) (x : Int) (v : Value) (h : x < 0) :
    Calls Try.prog 8 #[.int .i64 x, v] w fun e w' => e = .returned (.tuple #[.slice none 0 0, .int .i64 1]) ∧ w' = w := by
  go_enter Try.func8, Try.ntmps8
  go_wp2
  go_ret2
  exact ⟨rfl, rfl⟩
end Go.Proofs.Ytgilnjngphhhlaa
