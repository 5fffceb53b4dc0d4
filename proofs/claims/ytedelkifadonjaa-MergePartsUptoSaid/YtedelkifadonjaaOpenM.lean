/- Opening arguments: lists of pairs, steps of an iterator (layer 23). -/
import Derived.Test.YtedelkifadonjaaOpenG
import Derived.Test.YtedelkifadonjaaMtD
namespace Go.Lec
open Go.RowKit
/-- A step: what it does, and a key. -/
structure Stp where
  kd : Int
  A : Option Addr
  n : Nat
  c : Nat
  key : List UInt8
def Stp.cs (m : Stp) : List Value := [.int .i64 m.kd, .slice m.A m.n m.c]
def encStp : Enc Stp where
  k := 2
  cs := Stp.cs
  len _ := rfl
  one m := by
    intro u hu
    simp only [Stp.cs, List.mem_cons, List.not_mem_nil, or_false] at hu
    rcases hu with rfl | rfl <;> rfl
  ps m := [⟨m.A, m.n, bcs m.key⟩]
  side m := m.n ≤ m.c ∧ m.n ≤ 1048576
theorem stp_ok {w : World} {B : Nat} {m : Stp} (h : encStp.ok w B m) : Rd w B m.A m.n (bcs m.key) ∧ m.n ≤ m.c ∧ m.n ≤ 1048576 := ⟨h.1 _ List.mem_cons_self, h.2⟩
theorem i64_rng {x : Int} (h : (Lit.int .i64 x).wf = true) : -9223372036854775808 ≤ x ∧ x ≤ 9223372036854775807 := by
  simp [Lit.wf, IntKind.min, IntKind.max, IntKind.signed, IntKind.bits] at h
  omega
theorem szL_bound {w : World} {B : Nat} : ∀ (L : List Pr), (∀ m ∈ L, m.ok w B) → (∀ m ∈ L, m.n1 + m.n2 ≤ 2097152) → szL (L.map Pr.pl) ≤ L.length * 2097153
  | [], _, _ => by simp [szL]
  | m :: L, ho, h => by
    have h1 := szL_bound L (fun x hx => ho x (List.mem_cons_of_mem _ hx)) (fun x hx => h x (List.mem_cons_of_mem _ hx))
    have h2 := h m List.mem_cons_self
    have h3 := ho m List.mem_cons_self
    have e1 := h3.1.1
    have e2 := h3.2.1.1
    rw [bcs_length] at e1 e2
    have h4 : szL ((m :: L).map Pr.pl) = szP m.pl + szL (L.map Pr.pl) := rfl
    have h5 : szP m.pl = m.n1 + m.n2 + 1 := by unfold szP Pr.pl; dsimp only; omega
    rw [h4, h5, List.length_cons, Nat.add_mul, Nat.one_mul]
    omega
theorem totM_bound : ∀ (ls : List (List PairB)), (∀ l ∈ ls, szL l ≤ 2199024304128) → totM ls ≤ ls.length * 2199024304129
  | [], _ => by simp [totM]
  | l :: ls, h => by
    have h1 := totM_bound ls (fun x hx => h x (List.mem_cons_of_mem _ hx))
    have h2 := h l List.mem_cons_self
    have h3 : totM (l :: ls) = totM ls + szL l + 1 := by unfold totM; rw [List.length_cons, List.map_cons, List.sum_cons]; omega
    rw [h3, List.length_cons, Nat.add_mul, Nat.one_mul]
    omega
end Go.Lec
namespace Go.Proofs.Ytedelkifadonjaa
open Go.Joins Go.ChangeShapes Go.WideShapes Go.RowKit Go.Deep Go.Lec
/-- A slice of lists of pairs that came in. -/
theorem open_listsT {H : Type} {enc : TypeId × Value → H} {P : Program} {w : World} {base : Nat} {spare : Nat → Bool} {held : Bool} {tt t e tb t8 : TypeId} {f0 f1 : Field} (htt : P.underlying tt = some (.slice t)) (hCt : P.cellsOf t = 1) (ht : P.underlying t = some (.slice e)) (he : P.underlying e = some (.struct #[f0, f1])) (hone : oneCellFields P #[f0, f1] = true) (hC : P.cellsOf e = 2)
    (h0 : f0.type = tb) (h1 : f1.type = tb) (hb : P.underlying tb = some (.slice t8)) (h8 : P.underlying t8 = some (.int .u8)) (hc8 : P.cellsOf t8 = 1)
    {fuel : Nat} {v : Value} {d : DataW H} {pl : List MemPlace} (h : DataW.trod enc P w base spare held fuel tt [v] = some (d, pl)) (hl : Tiny d) :
    ∃ (A : Option Addr) (n c : Nat) (L : List (Sl Pr)), v = .slice A n c ∧ n ≤ c ∧ n ≤ 1048576 ∧ Lists w w.heap.size n A L := by
  obtain ⟨A, n, c, L, e1, e2, e3, e4, e5⟩ := open_elsT (encSl encPr) htt hCt (by decide) (Q := fun s => s.n ≤ 1048576 ∧ szL s.pls ≤ 2199024304128) (fun n cs d pl hd hld hlen => by
    match cs, hlen with
    | [u], _ =>
      obtain ⟨A1, n1, c1, L1, rfl, hc1, hn1, hp1, hq1⟩ := open_pairsT ht he hone hC h0 h1 hb h8 hc8 hd hld
      refine ⟨⟨A1, n1, c1, L1⟩, rfl, (encSl_ok (by decide)).2 ⟨els_of_prs hp1, hc1⟩, hn1, ?_⟩
      have h2 := szL_bound L1 hp1.2 hq1
      rw [hp1.len] at h2
      have h3 := Nat.mul_le_mul_right 2097153 hn1
      show szL (L1.map Pr.pl) ≤ _
      omega) h hl
  refine ⟨A, n, c, L, e1, e2, e3, ⟨e4, Nat.le_refl _, e3, fun s hs => (e5 s hs).1, ?_⟩⟩
  have h2 := totM_bound (L.map Sl.pls) (fun l hl => by obtain ⟨s, hs, rfl⟩ := List.mem_map.1 hl; exact (e5 s hs).2)
  rw [List.length_map, e4.2.1] at h2
  have h3 := Nat.mul_le_mul_right 2199024304129 e3
  omega
/-- A slice of steps that came in. -/
theorem open_stepsT {H : Type} {enc : TypeId × Value → H} {P : Program} {w : World} {base : Nat} {spare : Nat → Bool} {held : Bool} {t e ti tb t8 : TypeId} {f0 f1 : Field} (ht : P.underlying t = some (.slice e)) (he : P.underlying e = some (.struct #[f0, f1])) (hone : oneCellFields P #[f0, f1] = true) (hC : P.cellsOf e = 2)
    (h0 : f0.type = ti) (h1 : f1.type = tb) (hi : P.underlying ti = some (.int .i64)) (hb : P.underlying tb = some (.slice t8)) (h8 : P.underlying t8 = some (.int .u8)) (hc8 : P.cellsOf t8 = 1)
    {fuel : Nat} {v : Value} {d : DataW H} {pl : List MemPlace} (h : DataW.trod enc P w base spare held fuel t [v] = some (d, pl)) (hl : Tiny d) :
    ∃ (A : Option Addr) (n c : Nat) (L : List Stp), v = .slice A n c ∧ n ≤ c ∧ n ≤ 1048576 ∧ Els encStp w w.heap.size A n L := by
  obtain ⟨A, n, c, L, e1, e2, e3, e4, _⟩ := open_elsT encStp ht hC (by decide) (Q := fun _ => True) (fun n cs d pl hd hld hlen => by
    obtain ⟨_, n', hf⟩ := open_fieldsT he hone (by rw [hC]; rfl) hd hld
    obtain ⟨u0, y0, e0, t0, l0⟩ := hf 0 f0 rfl
    obtain ⟨u1, y1, e1, t1, l1⟩ := hf 1 f1 rfl
    rw [h0] at t0
    rw [h1] at t1
    obtain ⟨z, hz, _, _⟩ := DataW.trod_int hi t0
    obtain ⟨A2, n2, c2, b2, rfl, hc2, hn2, hr2⟩ := open_bytesT hb h8 hc8 t1 l1
    refine ⟨⟨z, A2, n2, c2, b2⟩, ?_, ⟨fun p hp => ?_, hc2, hn2⟩, trivial⟩
    · match cs, hlen with
      | [c0, c1'], _ =>
        simp only [List.getElem?_cons_zero, List.getElem?_cons_succ, Option.some.injEq] at e0 e1
        subst e0 e1
        simp only [List.cons.injEq, and_true] at hz
        rw [hz]
        rfl
    · simp only [encStp, List.mem_cons, List.not_mem_nil, or_false] at hp
      subst hp
      exact hr2) h hl
  exact ⟨A, n, c, L, e1, e2, e3, e4⟩
end Go.Proofs.Ytedelkifadonjaa
