/- Layer 2: numbers read of four bytes: the walks. -/
import Derived.Test.YtjcifmbbdofjiaaCdG
namespace Go.Lec
open Go.RowKit
theorem unle_take : ∀ (l : List UInt8) (k : Nat), (h : k < l.length) → unle (l.take (k + 1)) = unle (l.take k) + l[k].toNat * 256 ^ k
  | [], k, h => absurd h (by simp)
  | c :: r, 0, _ => by simp [unle]
  | c :: r, k + 1, h => by
    have := unle_take r k (by simpa using h)
    rw [List.take_succ_cons, unle, this, List.take_succ_cons, unle, List.getElem_cons_succ, Nat.pow_succ, Nat.mul_add, Nat.add_assoc]
    congr 2
    rw [Nat.mul_comm 256, Nat.mul_assoc]
theorem unle_take_lt (l : List UInt8) (k : Nat) : unle (l.take k) < 256 ^ k := by
  have h1 := unle_lt (l.take k)
  have h2 : (256 : Nat) ^ (l.take k).length ≤ 256 ^ k := Nat.pow_le_pow_right (by decide) (by rw [List.length_take]; omega)
  omega
theorem or_shift (a c i : Nat) (h : a < 2 ^ i) : a ||| c * 2 ^ i = a + c * 2 ^ i := by
  have := Nat.two_pow_add_eq_or_of_lt (i := i) (b := a) h c
  rw [Nat.or_comm, Nat.mul_comm c, Nat.add_comm, this]
theorem wrapN64 (a : Nat) (ha : a < 18446744073709551616) : IntKind.u64.wrap (a : Int) = (a : Int) := by
  have h : IntKind.u64.wrap (a : Int) = (a : Int) % 18446744073709551616 := by simp [IntKind.wrap, IntKind.bits, IntKind.signed]
  rw [h]; omega
/-- 'a | x << i', where a is below. -/
theorem or_step (a x i : Nat) (ha : a < 2 ^ i) (hx : (x + 1) * 2 ^ i ≤ 18446744073709551616) : bits .or .u64 (a : Int) (IntKind.u64.wrap ((x : Int) * 2 ^ i)) = ((a + x * 2 ^ i : Nat) : Int) := by
  have hp : 0 < 2 ^ i := Nat.pow_pos (by decide)
  have e1 : (x + 1) * 2 ^ i = x * 2 ^ i + 2 ^ i := by rw [Nat.add_mul, Nat.one_mul]
  have hx1 : x < 18446744073709551616 := by
    have : x + 1 ≤ (x + 1) * 2 ^ i := Nat.le_mul_of_pos_right _ hp
    omega
  have e2 : (x : Int) * 2 ^ i = ((x * 2 ^ i : Nat) : Int) := by simp
  rw [e2, wrapN64 _ (by omega), u64_or_nat a (x * 2 ^ i) (by omega) (by omega), or_shift a x i ha]
end Go.Lec
namespace Go.Proofs.Ytjcifmbbdofjiaa
open Go.RowKit Go.Lec
set_option maxRecDepth 40000 in
set_option maxHeartbeats 800000 in
theorem c_readFixed (w : World) {B n c : Nat} {A : Option Addr} {l : List UInt8} (hr : Rd w B A n (bcs l)) (h4 : 4 ≤ n) (hn : n ≤ 1099511627776) :
    Calls Try.prog 75 #[.slice A n c, .int .i64 4] w fun e w' => e = .returned (.tuple #[.int .u64 (unle (l.take 4) : Nat), .int .i64 4]) ∧ w = w' := by
  have hln := hr.1
  rw [bcs_length] at hln
  have Hln := Lib.hid hln
  clear hln
  obtain ⟨b, o, rfl, hbB, hcell⟩ := hr.byte (k := 0) (by omega)
  have HC := Lib.hid hcell
  clear hcell
  go_enter Try.func75, Try.ntmps75
  go_wp2_with (first | (go_at_call 81; refine (c_cdMust_ok _ _ _ ?_).mono ?_; (first | rfl | (simp; done) | (simp; omega) | (simp [*]; done)); rintro e w' ⟨rfl, rfl⟩))
  go_loop [6, 21] (fun a i => ∃ j : Nat, j ≤ 4 ∧ i = .int .i64 j ∧ a = .int .u64 (unle (l.take j) : Nat)) (fun _ i => 4 - (intOf i).toNat)
  case atStart => exact ⟨0, Nat.zero_le _, rfl, rfl⟩
  case round =>
    obtain ⟨j, hj, rfl, rfl⟩ := hrel
    by_cases hlt : j < 4
    · have hc := HC.out j (by rw [Hln.out]; omega)
      have HT := Lib.hid (unle_take l j (by rw [Hln.out]; omega))
      have HL := Lib.hid (unle_take_lt l j)
      obtain ⟨a, ha⟩ : ∃ a, a = unle (l.take j) := ⟨_, rfl⟩
      obtain ⟨x, hx⟩ : ∃ x, x = (l[j]'(by rw [Hln.out]; omega)).toNat := ⟨_, rfl⟩
      rw [← ha] at HT HL ⊢
      rw [← hx] at hc HT
      have HX := Lib.hid hx
      clear ha hx
      have hxb : x < 256 := by rw [HX.out]; exact UInt8.toNat_lt _
      have e256 : (256 : Nat) ^ j = 2 ^ (8 * j) := by rw [Nat.pow_mul]
      have HO := Lib.hid (or_step a x (8 * j) (by rw [← e256]; exact HL.out) (by
        have h1 : 2 ^ (8 * j) ≤ 2 ^ 24 := Nat.pow_le_pow_right (by decide) (by omega)
        have h2 : (x + 1) * 2 ^ (8 * j) ≤ 256 * 2 ^ 24 := Nat.mul_le_mul (by omega) h1
        omega))
      have H256 := Lib.hid e256
      clear e256
      go_wp2
      go_round
      case rel => exact ⟨j + 1, by omega, by go_num, by rw [HO.out, HT.out, H256.out]⟩
      case measure => simp [intOf]; omega
    · obtain rfl : j = 4 := by omega
      go_wp2
      go_ret2
      exact ⟨rfl, rfl⟩

theorem c_RF1 (w : World) (b0 b1 : Nat) {B n c : Nat} {A : Option Addr} {l : List UInt8} (hr : Rd w B A n (bcs l)) (h4 : 4 ≤ n) (hn : n ≤ 1099511627776) (h0 : w.cell? ⟨b0, 0, none⟩ = some (.slice A n c)) (h1 : w.cell? ⟨b1, 0, none⟩ = some (.int .i64 4)) :
    Calls Try.prog 74 #[.pointer (some ⟨b0, 0, none⟩), .pointer (some ⟨b1, 0, none⟩)] w fun e w' => e = .returned (.tuple #[.int .u64 (unle (l.take 4) : Nat), .int .i64 4]) ∧ w = w' := by
  go_enter Try.func74, Try.ntmps74
  go_wp2_with fail
  refine (c_readFixed w hr h4 hn).mono ?_
  rintro e w' ⟨rfl, rfl⟩
  go_wp2
  go_ret2
  exact ⟨rfl, rfl⟩

/-- What the reading of a number leaves in two cells. -/
def RdClo (W : World) (b1 b2 : Nat) (v1 v2 : Value) (e : Ending) (w' : World) : Prop := e = .returned (.tuple #[]) ∧ w' = (W.setCell ⟨b1, 0, none⟩ v1).setCell ⟨b2, 0, none⟩ v2
theorem c_read1 (w : World) (bf b0 b1 bv bn : Nat) {B n c : Nat} {A : Option Addr} {l : List UInt8} (hr : Rd w B A n (bcs l)) (h4 : 4 ≤ n) (hn : n ≤ 1099511627776) (h0 : w.cell? ⟨b0, 0, none⟩ = some (.slice A n c)) (h1 : w.cell? ⟨b1, 0, none⟩ = some (.int .i64 4))
    (hf : w.cell? ⟨bf, 0, none⟩ = some (.func (.func 74) #[] #[.pointer (some ⟨b0, 0, none⟩), .pointer (some ⟨b1, 0, none⟩)])) (hv : Bk w bv 91 #[.int .u64 0]) (hm : Bk w bn 3 #[.int .i64 0]) (hne : bv ≠ bn) :
    Calls Try.prog 83 #[.pointer (some ⟨bf, 0, none⟩), .pointer (some ⟨bv, 0, none⟩), .pointer (some ⟨bn, 0, none⟩)] w (RdClo w bv bn (.int .u64 (unle (l.take 4) : Nat)) (.int .i64 4)) := by
  have q1 := hv.cell 0
  have q2 := hm.cell 0
  have z1 := hv.frz 0
  have z2 := hm.frz 0
  have hne' : bn ≠ bv := Ne.symm hne
  go_enter Try.func83, Try.ntmps83
  go_wp2_with fail
  refine (c_RF1 w b0 b1 hr h4 hn h0 h1).mono ?_
  rintro e w' ⟨rfl, rfl⟩
  go_wp2
  go_end0
  exact ⟨rfl, rfl⟩

/-- What the reading answers. -/
def RF (w : World) (x : Nat) (e : Ending) (w' : World) : Prop := e = .returned (.tuple #[.int .u64 (x : Int), .int .i64 4, .int .i64 0]) ∧ Below w.heap.size w w'
/-- What 'guarded' leaves of it. -/
def RFG (w : World) (x : Nat) (e : Ending) (w' : World) : Prop := e = .returned (.int .i64 0) ∧ Bk w' (w.heap.size + 1) 91 #[.int .u64 (x : Int)] ∧ Bk w' (w.heap.size + 1 + 1) 3 #[.int .i64 4] ∧ Below w.heap.size w w'
set_option maxRecDepth 40000 in
set_option maxHeartbeats 800000 in
theorem c_RFG (w : World) (b0 b1 : Nat) {B n c : Nat} {A : Option Addr} {l : List UInt8} (hr : Rd w B A n (bcs l)) (hB : B ≤ w.heap.size) (h4 : 4 ≤ n) (hn : n ≤ 1099511627776) (h0 : w.cell? ⟨b0, 0, none⟩ = some (.slice A n c)) (h1 : w.cell? ⟨b1, 0, none⟩ = some (.int .i64 4)) (T : TypeId) :
    Calls Try.prog 82 #[.func (.func 83) #[] #[.pointer (some ⟨w.heap.size, 0, none⟩), .pointer (some ⟨w.heap.size + 1, 0, none⟩), .pointer (some ⟨w.heap.size + 1 + 1, 0, none⟩)]]
      (((w.alloc (.cells #[.func (.func 74) #[] #[.pointer (some ⟨b0, 0, none⟩), .pointer (some ⟨b1, 0, none⟩)]] T)).alloc (.cells #[.int .u64 0] 91)).alloc (.cells #[.int .i64 0] 3)) (RFG w (unle (l.take 4))) := by
  have l0 := World.block_lt_of_cell? w _ h0
  have l1 := World.block_lt_of_cell? w _ h1
  obtain ⟨HA, HR, HK, hsz, hBl⟩ := Bk.new3 w T #[.func (.func 74) #[] #[.pointer (some ⟨b0, 0, none⟩), .pointer (some ⟨b1, 0, none⟩)]] 91 #[.int .u64 0] 3 #[.int .i64 0]
  generalize (((w.alloc (.cells #[.func (.func 74) #[] #[.pointer (some ⟨b0, 0, none⟩), .pointer (some ⟨b1, 0, none⟩)]] T)).alloc (.cells #[.int .u64 0] 91)).alloc (.cells #[.int .i64 0] 3)) = W at *
  have HE := Bk.new_ W 26 #[.int .i64 0]
  have hbE := hBl.alloc (o := .cells #[.int .i64 0] 26) (by omega)
  refine (c_cdGuarded W 83 _ (RdClo (W.alloc (.cells #[.int .i64 0] 26)) (w.heap.size + 1) (w.heap.size + 1 + 1) (.int .u64 (unle (l.take 4) : Nat)) (.int .i64 4)) ?_ ?_ ?_).mono ?_
  · intro w; simp [go_sem]
  · exact c_read1 _ w.heap.size b0 b1 (w.heap.size + 1) (w.heap.size + 1 + 1) (hr.below hbE hB) h4 hn ((hbE.cell (p := ⟨b0, 0, none⟩) l0).trans h0) ((hbE.cell (p := ⟨b1, 0, none⟩) l1).trans h1) ((HA.alloc _).cell 0) (HR.alloc _) (HK.alloc _) (by omega)
  · rintro e w' ⟨rfl, rfl⟩
    have h := (HE.far (p := ⟨w.heap.size + 1, 0, none⟩) (by dsimp only; omega) (.int .u64 (unle (l.take 4) : Nat))).far (p := ⟨w.heap.size + 1 + 1, 0, none⟩) (by dsimp only; omega) (.int .i64 4)
    exact ⟨.inl rfl, h.cell 0, h.frz 0⟩
  · rintro e w' ⟨e0, w0, ⟨rfl, rfl⟩, he⟩
    rcases he with ⟨_, rfl, rfl⟩ | ⟨err, h, _⟩
    · refine ⟨rfl, ?_, ?_, ?_⟩
      · exact (((HR.alloc _).set_ 0 _).far (by dsimp only; omega) _).far (by dsimp only; omega) _
      · exact (((HK.alloc _).far (by dsimp only; omega) _).set_ 0 _).far (by dsimp only; omega) _
      · exact ((hbE.setCell (by dsimp only; omega) _).setCell (by dsimp only; omega) _).setCell (by dsimp only; omega) _
    · cases h
set_option maxRecDepth 40000 in
set_option maxHeartbeats 800000 in
theorem c_ReadU (w : World) (b0 b1 : Nat) {B n c : Nat} {A : Option Addr} {l : List UInt8} (hr : Rd w B A n (bcs l)) (hB : B ≤ w.heap.size) (h4 : 4 ≤ n) (hn : n ≤ 1099511627776) (h0 : w.cell? ⟨b0, 0, none⟩ = some (.slice A n c)) (h1 : w.cell? ⟨b1, 0, none⟩ = some (.int .i64 4)) :
    Calls Try.prog 73 #[.func (.func 74) #[] #[.pointer (some ⟨b0, 0, none⟩), .pointer (some ⟨b1, 0, none⟩)]] w (RF w (unle (l.take 4))) := by
  have hmf : ∀ (fn : Fn) (first cap : Array Value) (w : World), (Instr.makeFunc fn first cap).run Try.prog w = .ok (.func fn first cap) w := fun _ _ _ _ => rfl
  have HG := Lib.hid (c_RFG w b0 b1 hr hB h4 hn h0 h1 113)
  go_enter Try.func73, Try.ntmps73
  go_wp2_with fail
  refine HG.out.mono ?_
  rintro e w1 ⟨rfl, hv, hk, hb⟩
  have q1 := hv.cell 0
  have q2 := hk.cell 0
  have hbd := below_drewN hb
  go_wp2
  go_quiet (fail)
  go_wp2
  go_ret3
  exact ⟨rfl, hbd _⟩
set_option maxRecDepth 40000 in
set_option maxHeartbeats 800000 in
theorem c_ReadFixed (w : World) {B n c : Nat} {A : Option Addr} {l : List UInt8} (hr : Rd w B A n (bcs l)) (hB : B ≤ w.heap.size) (h4 : 4 ≤ n) (hn : n ≤ 1099511627776) :
    Calls Try.prog 65 #[.slice A n c, .int .i64 4] w (RF w (unle (l.take 4))) := by
  have hmf : ∀ (fn : Fn) (first cap : Array Value) (w : World), (Instr.makeFunc fn first cap).run Try.prog w = .ok (.func fn first cap) w := fun _ _ _ _ => rfl
  have hb0 := ((Below.refl w.heap.size w).alloc (Nat.le_refl _) (.cells #[.slice A n c] 25)).alloc (by simp) (.cells #[.int .i64 4] 3)
  have H0 := ((Bk.new_ w 25 #[.slice A n c]).alloc (.cells #[.int .i64 4] 3)).cell 0
  have H1 := (Bk.new_ (w.alloc (.cells #[.slice A n c] 25)) 3 #[.int .i64 4]).cell 0
  rw [World.size_alloc] at H1
  have HC := Lib.hid (c_ReadU _ w.heap.size (w.heap.size + 1) (c := c) (hr.below hb0 hB) (Nat.le_trans hB hb0.size) h4 hn H0 H1)
  clear H0 H1
  go_enter Try.func65, Try.ntmps65
  go_wp2_with fail
  refine HC.out.mono ?_
  rintro e w1 ⟨rfl, hb⟩
  have hb1 := hb0.trans (hb.mono hb0.size)
  go_wp2
  go_ret3
  exact ⟨rfl, hb1⟩
end Go.Proofs.Ytjcifmbbdofjiaa
