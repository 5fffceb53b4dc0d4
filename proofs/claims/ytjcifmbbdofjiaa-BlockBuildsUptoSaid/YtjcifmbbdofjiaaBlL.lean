/- Layer 20: how an iterator finds a key: the walk of find. -/
import Derived.Test.YtjcifmbbdofjiaaBlJ
namespace Go.Lec
open Go.Op
/-- Whether entry k's key is not ahead of a key. -/
def geAt (l : List En) (key : List UInt8) (k : Nat) : Bool := match l[k]? with | some x => !(bytesLess x.key key) | none => true
/-- From a place on, one by one: where the first such entry stands, and how many were looked at. -/
def scanF (l : List En) (key : List UInt8) : Nat → Nat → Nat → Nat → Nat × Nat
  | 0, a, _, c => (a, c)
  | f + 1, a, b, c => if a < b then (if geAt l key a then (a, c + 1) else scanF l key f (a + 1) b (c + 1)) else (a, c)
/-- What find answers, and how many entries it looks at. -/
def findF (l : List En) (ev : Nat) (key : List UInt8) : Nat × Nat :=
  if (srchF (fun k => geAt l key (k * ev)) ((l.length + ev - 1) / ev) 0 ((l.length + ev - 1) / ev) 0).1 = 0 then (0, (srchF (fun k => geAt l key (k * ev)) ((l.length + ev - 1) / ev) 0 ((l.length + ev - 1) / ev) 0).2)
  else scanF l key l.length (((srchF (fun k => geAt l key (k * ev)) ((l.length + ev - 1) / ev) 0 ((l.length + ev - 1) / ev) 0).1 - 1) * ev + 1)
    (min l.length ((srchF (fun k => geAt l key (k * ev)) ((l.length + ev - 1) / ev) 0 ((l.length + ev - 1) / ev) 0).1 * ev))
    (srchF (fun k => geAt l key (k * ev)) ((l.length + ev - 1) / ev) 0 ((l.length + ev - 1) / ev) 0).2
theorem scanF_end (l : List En) (key : List UInt8) (f a b c : Nat) (h : ¬ a < b) : scanF l key f a b c = (a, c) := by
  cases f
  · rfl
  · rw [scanF, if_neg h]
theorem srchF_cnt (p : Nat → Bool) : ∀ (f i j c : Nat), (srchF p f i j c).2 ≤ c + f
  | 0, i, j, c => Nat.le_refl _
  | f + 1, i, j, c => by
    rw [srchF]
    split
    · split
      · have := srchF_cnt p f i ((i + j) / 2) (c + 1); omega
      · have := srchF_cnt p f ((i + j) / 2 + 1) j (c + 1); omega
    · show c ≤ c + (f + 1); omega
theorem row_lt {n ev k : Nat} (he : 1 ≤ ev) (h : k < (n + ev - 1) / ev) : k * ev < n := by
  have h1 : (k + 1) * ev ≤ n + ev - 1 := Nat.le_trans (Nat.mul_le_mul_right _ h) (Nat.div_mul_le_self _ _)
  rw [Nat.add_mul] at h1
  omega
theorem many_le {n ev : Nat} (he : 1 ≤ ev) : (n + ev - 1) / ev ≤ n := by
  rcases Nat.eq_zero_or_pos n with rfl | hn
  · rw [Nat.div_eq_of_lt (by omega)]; exact Nat.le_refl _
  · have h1 : n + ev - 1 ≤ n * ev := by
      have := Nat.mul_le_mul_left (n - 1) he
      have h2 : n * ev = (n - 1) * ev + ev := by rw [← Nat.succ_mul]; congr 1; omega
      omega
    exact Nat.div_le_of_le_mul (by rw [Nat.mul_comm]; exact h1)
end Go.Lec
namespace Go.Proofs.Ytjcifmbbdofjiaa
open Go.RowKit Go.Lec Go.Op
/-- What is asked of the closure that counts. -/
def LookOk (w0 : World) (it L : Nat) (A : Option Addr) (n c : Nat) (X : List Ex) (ev : Nat) (p lk : Int) (δ : Nat) (g : Nat) (gc : Array Value) : Prop :=
  ∀ (k : Nat) (W : World), k ≤ 4194304 → Itr W it L A n c X ev p (lk + ((δ * k : Nat) : Int)) → Kb [it] w0 W → Calls Try.prog g gc W fun e w' => e = .returned (.tuple #[]) ∧ Itr w' it L A n c X ev p (lk + ((δ * (k + 1) : Nat) : Int)) ∧ Kb [it] W w'
theorem cmp_ge (a b : List UInt8) : decide ((0 : Int) ≤ Lib.compareBytes a b) = !(bytesLess a b) := by
  rw [← cmp_neg_decide]
  by_cases h : Lib.compareBytes a b < 0
  · rw [decide_eq_true h, decide_eq_false (by omega)]; rfl
  · rw [decide_eq_false h, decide_eq_true (by omega)]; rfl
set_option maxRecDepth 40000 in
set_option maxHeartbeats 800000 in
theorem c_find1 (w0 W : World) (bf bi bk k j : Nat) {it L n c ev nk ck B δ g : Nat} {A Ak : Option Addr} {X : List Ex} {p lk : Int} {key : List UInt8} {gc : Array Value}
    (hL : LookOk w0 it L A n c X ev p lk δ g gc) (hcf : ∀ (args : Array Value) (w : World), (callFunc g args).run Try.prog w = .ok (.enter g args) w)
    (h : Itr W it L A n c X ev p (lk + ((δ * j : Nat) : Int))) (hk0 : Kb [it] w0 W) (hj : j ≤ 4194304) (hk : k * ev < n) (hk2 : k ≤ 1048576) (hev : ev ≤ 1048576) (hr : Rd w0 B Ak nk (bcs key)) (hB : B ≤ w0.heap.size) (hkit : 0 < nk → ∀ a, Ak = some a → a.block ∉ [it])
    (q1 : w0.cell? ⟨bf, 0, none⟩ = some (.func (.func g) #[] gc)) (q2 : w0.cell? ⟨bi, 0, none⟩ = some (.pointer (some ⟨it, 0, none⟩))) (q3 : w0.cell? ⟨bk, 0, none⟩ = some (.slice Ak nk ck)) (hne : bf ∉ [it] ∧ bi ∉ [it] ∧ bk ∉ [it]) :
    Calls Try.prog 60 #[.int .i64 (k : Int), .pointer (some ⟨bf, 0, none⟩), .pointer (some ⟨bi, 0, none⟩), .pointer (some ⟨bk, 0, none⟩)] W fun e w' =>
      e = .returned (.bool (geAt (X.map Ex.en) key (k * ev))) ∧ Itr w' it L A n c X ev p (lk + ((δ * (j + 1) : Nat) : Int)) ∧ Kb [it] W w' := by
  have HL := Lib.hid (hL j W hj h hk0)
  have l1 := World.block_lt_of_cell? w0 _ q1
  have l2 := World.block_lt_of_cell? w0 _ q2
  have l3 := World.block_lt_of_cell? w0 _ q3
  have s1 := (hk0.cell (p := ⟨bf, 0, none⟩) l1 hne.1).trans q1
  obtain ⟨i, hi⟩ : ∃ i, i = k * ev := ⟨_, rfl⟩
  rw [← hi] at hk ⊢
  have hkm : (k : Int) * (ev : Int) = (i : Int) := by rw [hi]; push_cast; rfl
  have hkn : (i : Int) < (n : Int) := by omega
  clear hi
  have hle := h.le
  have Hne := Lib.hid hne
  clear hL q1 hne
  go_enter Try.func60, Try.ntmps60
  go_wp2_with fail
  refine HL.out.mono ?_
  rintro e w1 ⟨rfl, h1, hk1⟩
  have hk01 := hk0.trans hk1 (fun b hb => .inl hb)
  have s2 := (hk01.cell (p := ⟨bi, 0, none⟩) l2 Hne.out.2.1).trans q2
  have s3 := (hk01.cell (p := ⟨bk, 0, none⟩) l3 Hne.out.2.2).trans q3
  have i1 := h1.bk.cell
  have hXl := h1.els.2.1
  obtain ⟨b, o, m, rfl, hbB, hmk, _, hmok, hcell⟩ := h1.els.at hk
  have hcw := hcell w1 (Below.refl _ _) 1 _ rfl
  rw [show encEx.k = 5 from rfl] at hcw
  obtain ⟨e1, _⟩ := ex_ok hmok
  have e2 := hr.kbR hk01 hB hkit
  have HR := Lib.hid (show geAt (X.map Ex.en) key i = !(bytesLess m.key key) from by rw [geAt, List.getElem?_map, hmk]; rfl)
  have HC := Lib.hid (fun W' : World => fun (h : W' = w1 ∨ ∃ nq, W' = w1.drewN nq) => show Calls Try.prog 49 #[.slice m.A1 m.n1 m.c1, .slice Ak nk ck] W' (fun e w' => e = .returned (.int .i64 (Lib.compareBytes m.key key)) ∧ w' = W') from by
    rcases h with h | ⟨nq, h⟩ <;> rw [h]
    · exact c_bCompare w1 e1 e2
    · exact c_bCompare (w1.drewN nq) (e1.drewN nq) (e2.drewN nq))
  clear hmk hcell hmok hXl e1 e2 h
  go_wp2
  go_quiet (first | (go_at_call 49; exact Calls.quiet_of_same (HC.out _ (.inr ⟨_, rfl⟩))))
  go_wp2
  go_ret
  have hk2 := hk1.drewN nq
  refine ⟨?_, h1.kb (S := []) ((Kb.refl _ _).drewN nq) (fun b hb => by cases hb), hk2⟩
  rw [HR.out, ← cmp_ge]; simp
end Go.Proofs.Ytjcifmbbdofjiaa
