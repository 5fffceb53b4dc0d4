/- Plain functions of layer 16 (internal keys): what the program and the reference compute, on lists of bytes. Nothing here speaks of the program. -/
import Derived.Test.YtedelkifadonjaaMem
namespace Go.Lec
open Go.RowKit

/-- The escape, without its end. -/
def esc (l : List UInt8) : List UInt8 := l.flatMap fun c => if c = 0 then [0, 255] else [c]
theorem esc_snoc (l : List UInt8) (c : UInt8) : esc (l ++ [c]) = esc l ++ (if c = 0 then [0, 255] else [c]) := by simp [esc]
theorem esc_cons (c : UInt8) (l : List UInt8) : esc (c :: l) = (if c = 0 then [0, 255] else [c]) ++ esc l := by simp [esc]
theorem esc_len (l : List UInt8) : (esc l).length ≤ 2 * l.length := by
  induction l with
  | nil => simp [esc]
  | cons c l ih =>
    rw [esc_cons]
    split <;> simp <;> omega
theorem take_snoc_get (l : List UInt8) (k : Nat) (h : k < l.length) : l.take (k + 1) = l.take k ++ [l[k]] := by
  rw [List.take_succ_eq_append_getElem h]
theorem byte_eq (c d : UInt8) : ((c.toNat : Int) == (d.toNat : Int)) = decide (c = d) := by
  rw [Bool.eq_iff_iff]
  simp [← UInt8.toNat_inj]
  omega
theorem byte_zero (c : UInt8) : ((c.toNat : Int) == 0) = decide (c = 0) := byte_eq c 0
theorem esc_hit (l : List UInt8) (k : Nat) (h : k < l.length) (h0 : l[k] = 0) : bcs (esc (l.take (k + 1))) = bcs (esc (l.take k)) ++ [.int .u8 (l[k].toNat : Int)] ++ [.int .u8 255] := by
  rw [take_snoc_get l k h, esc_snoc, if_pos h0, bcs_append, h0, List.append_assoc]
  rfl
theorem esc_miss (l : List UInt8) (k : Nat) (h : k < l.length) (h0 : ¬ l[k] = 0) : bcs (esc (l.take (k + 1))) = bcs (esc (l.take k)) ++ [.int .u8 (l[k].toNat : Int)] := by
  rw [take_snoc_get l k h, esc_snoc, if_neg h0, bcs_append]
  rfl
/-- The escape. -/
def escT (l : List UInt8) : List UInt8 := esc l ++ [0, 1]
theorem escT_len (l : List UInt8) : (escT l).length ≤ 2 * l.length + 2 := by have := esc_len l; simp [escT]; omega

def okEpoch (n : Int) : Bool := decide (0 ≤ n) && decide (n ≤ 65535)
def okSeq (n : Int) : Bool := decide (0 ≤ n) && decide (n ≤ 281474976710655)
/-- The bytes that an epoch's keys begin with. -/
def begB (n : Int) : List UInt8 := if okEpoch n then be 2 n.toNat else []
def begE (n : Int) : Int := if okEpoch n then 0 else 1
/-- The bytes that a sort key's keys begin with. -/
def preB (n : Int) (s : List UInt8) : List UInt8 := if okEpoch n then (if 65536 < s.length then [] else be 2 n.toNat ++ escT s) else []
def preE (n : Int) (s : List UInt8) : Int := if okEpoch n then (if 65536 < s.length then 2 else 0) else 1
def stampB (q : Int) : List UInt8 := be 6 (281474976710655 - q).toNat
def seekB (n : Int) (s : List UInt8) (q : Int) : List UInt8 := if okEpoch n && okSeq q then (if 65536 < s.length then [] else be 2 n.toNat ++ escT s ++ stampB q ++ [0]) else []
def seekE (n : Int) (s : List UInt8) (q : Int) : Int := if okEpoch n && okSeq q then (if 65536 < s.length then 2 else 0) else 1

/-- A result that is a slice of bytes in memory of the call's own. -/
def RetB (e5 : TypeId) (w : World) (l : List UInt8) (e : Ending) (w' : World) : Prop := ∃ v, e = .returned v ∧ Own w' w.heap.size e5 v (bcs l) ∧ Below w.heap.size w w'
/-- Likewise, beside a number. -/
def RetBE (e5 : TypeId) (w : World) (l : List UInt8) (err : Int) (e : Ending) (w' : World) : Prop := ∃ v, e = .returned (.tuple #[v, .int .i64 err]) ∧ Own w' w.heap.size e5 v (bcs l) ∧ Below w.heap.size w w'
/-- A literal that has just been laid, handed back. -/
theorem RetB_lit {e5 : TypeId} {w : World} {l : List UInt8} (cs : List Value) (h : cs = bcs l) (hm : cs.length ≤ 1000) :
    RetB e5 w l (.returned (.slice (some ⟨w.heap.size, 0, none⟩) cs.length cs.length)) (w.alloc (.cells cs.toArray e5)) :=
  ⟨_, rfl, by rw [← h]; exact Own.lit w cs (Nat.le_refl _) (by unfold maxLen; omega), (Below.refl _ _).alloc (Nat.le_refl _) _⟩
theorem RetBE_lit {e5 : TypeId} {w : World} {l : List UInt8} {err : Int} (cs : List Value) (h : cs = bcs l) (hm : cs.length ≤ 1000) :
    RetBE e5 w l err (.returned (.tuple #[.slice (some ⟨w.heap.size, 0, none⟩) cs.length cs.length, .int .i64 err])) (w.alloc (.cells cs.toArray e5)) :=
  ⟨_, rfl, by rw [← h]; exact Own.lit w cs (Nat.le_refl _) (by unfold maxLen; omega), (Below.refl _ _).alloc (Nat.le_refl _) _⟩
theorem RetBE_nil {e5 : TypeId} {w w' : World} {l : List UInt8} {err : Int} (h : l = []) (hb : Below w.heap.size w w') :
    RetBE e5 w l err (.returned (.tuple #[.slice none 0 0, .int .i64 err])) w' := ⟨_, rfl, by subst h; exact Own.nil_ _ _ _, hb⟩
theorem stamp_cells (q : Int) (_h0 : 0 ≤ q) (h1 : q ≤ 281474976710655) :
    [.int .u8 ((281474976710655 - q) / 1099511627776), .int .u8 ((281474976710655 - q) / 4294967296 % 256), .int .u8 ((281474976710655 - q) / 16777216 % 256),
      .int .u8 ((281474976710655 - q) / 65536 % 256), .int .u8 ((281474976710655 - q) / 256 % 256), .int .u8 ((281474976710655 - q) % 256)] = bcs (stampB q) := by
  obtain ⟨N, hN⟩ : ∃ N : Nat, 281474976710655 - q = (N : Int) := ⟨(281474976710655 - q).toNat, by omega⟩
  have hb : N ≤ 281474976710655 := by omega
  unfold stampB
  rw [hN]
  simp only [Int.toNat_natCast, be, bcs, List.map, bcell_ofNat, Nat.reducePow, List.cons.injEq, Value.int.injEq, true_and, and_true]
  refine ⟨?_, ?_, ?_, ?_, ?_, ?_⟩ <;> omega
theorem beg_cells (q : Int) (h0 : 0 ≤ q) (h1 : q ≤ 65535) : [.int .u8 (q / 256), .int .u8 (q % 256)] = bcs (be 2 q.toNat) := by
  obtain ⟨N, rfl⟩ := Int.eq_ofNat_of_zero_le h0
  simp only [Int.toNat_natCast, be, bcs, List.map, bcell_ofNat, Nat.reducePow, List.cons.injEq, Value.int.injEq, true_and, and_true]
  refine ⟨?_, ?_⟩ <;> omega

/-! ### Reading an escape -/
/-- What is read of an escape at the front: the bytes, and how many were read. -/
def unesc : List UInt8 → Option (List UInt8 × Nat)
  | [] => none
  | [c] => if c = 0 then none else none
  | c :: d :: r =>
    if c = 0 then (if d = 1 then some ([], 2) else if d = 255 then (unesc r).map (fun p => (0 :: p.1, p.2 + 2)) else none)
    else (unesc (d :: r)).map (fun p => (c :: p.1, p.2 + 1))
theorem unesc_nz (c : UInt8) (r : List UInt8) (h : ¬ c = 0) : unesc (c :: r) = (unesc r).map (fun p => (c :: p.1, p.2 + 1)) := by
  cases r with
  | nil => simp [unesc]
  | cons d r => rw [unesc, if_neg h]
/-- What has been read in front of place i, and what is still to be read. -/
def UnInv (l acc : List UInt8) (i : Nat) : Prop := unesc l = (unesc (l.drop i)).map (fun p => (acc ++ p.1, i + p.2))
theorem UnInv.start (l : List UInt8) : UnInv l [] 0 := by
  unfold UnInv
  cases h : unesc l <;> simp [h]
theorem UnInv.nz {l acc : List UInt8} {i : Nat} (h : UnInv l acc i) (hi : i < l.length) (h0 : ¬ l[i] = 0) : UnInv l (acc ++ [l[i]]) (i + 1) := by
  unfold UnInv at h ⊢
  rw [h, List.drop_eq_getElem_cons hi, unesc_nz _ _ h0]
  cases unesc (l.drop (i + 1)) <;> simp
  omega
theorem UnInv.z255 {l acc : List UInt8} {i : Nat} (h : UnInv l acc i) (hi : i + 1 < l.length) (h0 : l[i] = 0) (h1 : l[i + 1] = 255) : UnInv l (acc ++ [0]) (i + 2) := by
  unfold UnInv at h ⊢
  rw [h, List.drop_eq_getElem_cons (by omega), List.drop_eq_getElem_cons hi, h0, h1]
  cases h2 : unesc (l.drop (i + 1 + 1)) <;> simp [unesc, h2]
  omega
theorem UnInv.z1 {l acc : List UInt8} {i : Nat} (h : UnInv l acc i) (hi : i + 1 < l.length) (h0 : l[i] = 0) (h1 : l[i + 1] = 1) : unesc l = some (acc, i + 2) := by
  unfold UnInv at h
  rw [h, List.drop_eq_getElem_cons (by omega), List.drop_eq_getElem_cons hi, h0, h1]
  simp [unesc]
theorem UnInv.end_ {l acc : List UInt8} {i : Nat} (h : UnInv l acc i) (hi : l.length ≤ i) : unesc l = none := by
  unfold UnInv at h
  rw [h, List.drop_eq_nil_of_le hi]
  simp [unesc]
theorem UnInv.z_end {l acc : List UInt8} {i : Nat} (h : UnInv l acc i) (hi : i < l.length) (h0 : l[i] = 0) (h1 : l.length ≤ i + 1) : unesc l = none := by
  unfold UnInv at h
  rw [h, List.drop_eq_getElem_cons hi, h0, List.drop_eq_nil_of_le h1]
  simp [unesc]
theorem UnInv.z_bad {l acc : List UInt8} {i : Nat} (h : UnInv l acc i) (hi : i + 1 < l.length) (h0 : l[i] = 0) (h1 : ¬ l[i + 1] = 1) (h2 : ¬ l[i + 1] = 255) : unesc l = none := by
  unfold UnInv at h
  rw [h, List.drop_eq_getElem_cons (by omega), List.drop_eq_getElem_cons hi, h0]
  simp [unesc, h1, h2]
theorem unesc_len : ∀ {l s : List UInt8} {k : Nat}, unesc l = some (s, k) → s.length + 2 ≤ k ∧ k ≤ l.length
  | [], _, _, h => by simp [unesc] at h
  | [c], _, _, h => by simp [unesc] at h
  | c :: d :: r, s, k, h => by
    rw [unesc] at h
    split at h
    · split at h
      · simp at h
        obtain ⟨rfl, rfl⟩ := h
        simp
      · split at h
        · cases hr : unesc r with
          | none => simp [hr] at h
          | some p =>
            obtain ⟨s', k'⟩ := p
            simp [hr] at h
            obtain ⟨rfl, rfl⟩ := h
            have := unesc_len hr
            simp
            omega
        · simp at h
    · cases hr : unesc (d :: r) with
      | none => simp [hr] at h
      | some p =>
        obtain ⟨s', k'⟩ := p
        simp [hr] at h
        obtain ⟨rfl, rfl⟩ := h
        have := unesc_len hr
        simp at this ⊢
        omega
/-- An escape, whatever stands behind it, is read as what was escaped. -/
theorem unesc_escT (s r : List UInt8) : unesc (escT s ++ r) = some (s, (escT s).length) := by
  induction s with
  | nil => simp [escT, esc, unesc]
  | cons c s ih =>
    have e : escT (c :: s) = (if c = 0 then [0, 255] else [c]) ++ escT s := by simp [escT, esc_cons]
    rw [e]
    by_cases h : c = 0
    · rw [if_pos h]
      simp only [List.cons_append, List.nil_append]
      rw [unesc, if_pos rfl, if_neg (by decide), if_pos rfl, ih]
      simp [h]
    · rw [if_neg h]
      simp only [List.cons_append, List.nil_append]
      rw [unesc_nz _ _ h, ih]
      simp
/-- What is read is escaped again as it stood. -/
theorem escT_unesc : ∀ {l s : List UInt8} {k : Nat}, unesc l = some (s, k) → l.take k = escT s
  | [], _, _, h => by simp [unesc] at h
  | [c], _, _, h => by simp [unesc] at h
  | c :: d :: r, s, k, h => by
    rw [unesc] at h
    split at h
    · rename_i h0
      subst h0
      split at h
      · rename_i h1
        subst h1
        simp at h
        obtain ⟨rfl, rfl⟩ := h
        simp [escT, esc]
      · split at h
        · rename_i h1
          subst h1
          cases hr : unesc r with
          | none => simp [hr] at h
          | some p =>
            obtain ⟨s', k'⟩ := p
            simp [hr] at h
            obtain ⟨rfl, rfl⟩ := h
            have := escT_unesc hr
            simp [escT, esc_cons] at this ⊢
            exact this
        · simp at h
    · rename_i h0
      cases hr : unesc (d :: r) with
      | none => simp [hr] at h
      | some p =>
        obtain ⟨s', k'⟩ := p
        simp [hr] at h
        obtain ⟨rfl, rfl⟩ := h
        have := escT_unesc hr
        simp [escT, esc_cons, h0] at this ⊢
        exact this

/-! ### Numbers read from bytes -/
/-- The number that bytes make, the highest first. -/
def num (l : List UInt8) : Nat := l.foldl (fun a c => a * 256 + c.toNat) 0
theorem num_snoc (l : List UInt8) (c : UInt8) : num (l ++ [c]) = num l * 256 + c.toNat := by simp [num]
theorem snoc_ind {α : Type} {p : List α → Prop} (h0 : p []) (h1 : ∀ l a, p l → p (l ++ [a])) (l : List α) : p l := by
  have : ∀ r : List α, p r.reverse := by
    intro r
    induction r with
    | nil => exact h0
    | cons a r ih => rw [List.reverse_cons]; exact h1 _ _ ih
  have h := this l.reverse
  rwa [List.reverse_reverse] at h
theorem num_lt (l : List UInt8) : num l < 256 ^ l.length := by
  induction l using snoc_ind with
  | h0 => simp [num]
  | h1 l c ih =>
    rw [num_snoc]
    have := c.toNat_lt
    simp only [List.length_append, List.length_cons, List.length_nil, Nat.zero_add, Nat.pow_succ]
    omega
theorem num_take (l : List UInt8) (k : Nat) (h : k < l.length) : num (l.take (k + 1)) = num (l.take k) * 256 + (l[k]).toNat := by
  rw [take_snoc_get l k h, num_snoc]
theorem be_snoc : ∀ (j n : Nat), be (j + 1) n = be j (n / 256) ++ [UInt8.ofNat (n % 256)]
  | 0, n => by simp [be]
  | j + 1, n => by
    rw [be, be_snoc j n, be, Nat.div_div_eq_div_mul]
    rw [show 256 * 256 ^ j = 256 ^ (j + 1) from by rw [Nat.pow_succ, Nat.mul_comm]]
    simp
theorem num_be : ∀ (j n : Nat), num (be j n) = n % 256 ^ j
  | 0, n => by simp [be, num, Nat.mod_one]
  | j + 1, n => by
    rw [be_snoc, num_snoc, num_be j (n / 256)]
    have h : (UInt8.ofNat (n % 256)).toNat = n % 256 := by simp [UInt8.toNat_ofNat']
    rw [h, Nat.pow_succ, Nat.mul_comm (256 ^ j) 256, Nat.mod_mul]
    omega
theorem be_num : ∀ (l : List UInt8), be l.length (num l) = l := by
  intro l
  induction l using snoc_ind with
  | h0 => simp [be]
  | h1 l c ih =>
    have := c.toNat_lt
    rw [List.length_append, List.length_singleton, be_snoc, num_snoc]
    rw [show (num l * 256 + c.toNat) / 256 = num l from by omega, show (num l * 256 + c.toNat) % 256 = c.toNat from by omega, ih]
    simp
theorem or_add (x c : Nat) (hc : c < 256) : x * 256 ||| c = x * 256 + c := by
  have := Nat.shiftLeft_add_eq_or_of_lt (b := c) (i := 8) hc x
  rw [Nat.shiftLeft_eq] at this
  exact this.symm
theorem bits_or_byte (x c : Nat) (hx : x < 1099511627776) (hc : c < 256) : bits .or .i64 ((x : Int) * 256) (c : Int) = ((x * 256 + c : Nat) : Int) := by
  have e : ((x : Int) * 256) = ((x * 256 : Nat) : Int) := by omega
  have h1 : x * 256 ||| c = x * 256 + c := or_add x c hc
  rw [e]
  show IntKind.i64.wrap ((BitVec.ofInt 64 ((x * 256 : Nat) : Int) ||| BitVec.ofInt 64 (c : Int)).toNat : Int) = _
  have ha : (BitVec.ofInt 64 ((x * 256 : Nat) : Int)).toNat = x * 256 := by rw [BitVec.ofInt_natCast, BitVec.toNat_ofNat]; exact Nat.mod_eq_of_lt (by omega)
  have hb : (BitVec.ofInt 64 (c : Int)).toNat = c := by rw [BitVec.ofInt_natCast, BitVec.toNat_ofNat]; exact Nat.mod_eq_of_lt (by omega)
  rw [BitVec.toNat_or, ha, hb, h1, IntKind.wrap_i64]
  omega

/-! ### Reading a key -/
/-- An internal key. -/
structure Key where
  ep : Nat
  srt : List UInt8
  sq : Int
  kd : Int
  txt : List UInt8
/-- What bytes are read as: a key, or an error. -/
def dec (l : List UInt8) : Except Int Key :=
  if l.length < 2 then .error 160 else
  match unesc (l.drop 2) with
  | none => .error 160
  | some (s, k) =>
    if ((l.drop 2).drop k).length < 6 then .error 160 else
    match ((l.drop 2).drop k).drop 6 with
    | [] => .error 160
    | x :: t =>
      if 1 < x.toNat then .error 160
      else if 65536 < s.length ∨ 1024 < t.length then .error 2
      else .ok ⟨num (l.take 2), s, 281474976710655 - (num (((l.drop 2).drop k).take 6) : Nat), 1 - (x.toNat : Int), t⟩
end Go.Lec
