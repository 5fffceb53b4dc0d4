/- Opening arguments: the steps of an iterator. -/
import Derived.Test.YtjcifmbbdofjiaaOpenG
import Derived.Test.YtjcifmbbdofjiaaBlU
namespace Go.Lec
open Go.RowKit
/-- A step: what it does, and a key. -/
structure Stp where
  kd : Int
  A : Option Addr
  n : Nat
  c : Nat
  key : List UInt8
def Stp.cs (m : Stp) : List Value := [.int .i64 m.kd, .slice m.A m.n m.c]
def encStp : Enc Stp where
  k := 2
  cs := Stp.cs
  len _ := rfl
  one m := by
    intro u hu
    simp only [Stp.cs, List.mem_cons, List.not_mem_nil, or_false] at hu
    rcases hu with rfl | rfl <;> rfl
  ps m := [⟨m.A, m.n, bcs m.key⟩]
  side m := m.n ≤ m.c ∧ m.n ≤ 1048576
theorem stp_ok {w : World} {B : Nat} {m : Stp} (h : encStp.ok w B m) : Rd w B m.A m.n (bcs m.key) ∧ m.n ≤ m.c ∧ m.n ≤ 1048576 := ⟨h.1 _ List.mem_cons_self, h.2⟩
theorem tot_bound : ∀ (L : List Pr) (w : World) (B : Nat), (∀ m ∈ L, m.ok w B) → (∀ m ∈ L, m.n1 + m.n2 ≤ 2097152) → tot (L.map Pr.pl) ≤ L.length * 2097153
  | [], _, _, _, _ => by simp [tot]
  | m :: L, w, B, ho, h => by
    have h1 := tot_bound L w B (fun x hx => ho x (List.mem_cons_of_mem _ hx)) (fun x hx => h x (List.mem_cons_of_mem _ hx))
    have h2 := h m List.mem_cons_self
    have h3 := ho m List.mem_cons_self
    have h4 := h3.1.1
    have h5 := h3.2.1.1
    rw [bcs_length] at h4 h5
    simp only [List.map_cons, tot, Pr.pl, List.length_cons]
    omega
/-- How much the pairs that came in hold at most. -/
theorem pairs_tot {L : List Pr} {w : World} {B n : Nat} {A : Option Addr} (h : Prs w B A n L) (hq : ∀ m ∈ L, m.n1 + m.n2 ≤ 2097152) (hn : n ≤ 1048576) : tot (L.map Pr.pl) ≤ 8796093022208 := by
  have h1 := tot_bound L w B h.2 hq
  rw [h.len] at h1
  have h2 := Nat.mul_le_mul_right 2097153 hn
  omega
theorem i64_rng {x : Int} (h : (Lit.int .i64 x).wf = true) : -9223372036854775808 ≤ x ∧ x ≤ 9223372036854775807 := by
  simp [Lit.wf, IntKind.min, IntKind.max, IntKind.signed, IntKind.bits] at h
  omega
end Go.Lec
namespace Go.Proofs.Ytjcifmbbdofjiaa
open Go.Joins Go.ChangeShapes Go.WideShapes Go.RowKit Go.Deep Go.Lec
/-- A slice of steps that came in. -/
theorem open_stepsT {H : Type} {enc : TypeId × Value → H} {P : Program} {w : World} {base : Nat} {spare : Nat → Bool} {held : Bool} {t e ti tb t8 : TypeId} {f0 f1 : Field} (ht : P.underlying t = some (.slice e)) (he : P.underlying e = some (.struct #[f0, f1])) (hone : oneCellFields P #[f0, f1] = true) (hC : P.cellsOf e = 2)
    (h0 : f0.type = ti) (h1 : f1.type = tb) (hi : P.underlying ti = some (.int .i64)) (hb : P.underlying tb = some (.slice t8)) (h8 : P.underlying t8 = some (.int .u8)) (hc8 : P.cellsOf t8 = 1)
    {fuel : Nat} {v : Value} {d : DataW H} {pl : List MemPlace} (h : DataW.trod enc P w base spare held fuel t [v] = some (d, pl)) (hl : Tiny d) :
    ∃ (A : Option Addr) (n c : Nat) (L : List Stp), v = .slice A n c ∧ n ≤ c ∧ n ≤ 1048576 ∧ Els encStp w w.heap.size A n L := by
  obtain ⟨A, n, c, L, e1, e2, e3, e4, _⟩ := open_elsT encStp ht hC (by decide) (Q := fun _ => True) (fun n cs d pl hd hld hlen => by
    obtain ⟨_, n', hf⟩ := open_fieldsT he hone (by rw [hC]; rfl) hd hld
    obtain ⟨u0, y0, e0, t0, l0⟩ := hf 0 f0 rfl
    obtain ⟨u1, y1, e1, t1, l1⟩ := hf 1 f1 rfl
    rw [h0] at t0
    rw [h1] at t1
    obtain ⟨z, hz, _, _⟩ := DataW.trod_int hi t0
    obtain ⟨A2, n2, c2, b2, rfl, hc2, hn2, hr2⟩ := open_bytesT hb h8 hc8 t1 l1
    refine ⟨⟨z, A2, n2, c2, b2⟩, ?_, ⟨fun p hp => ?_, hc2, hn2⟩, trivial⟩
    · match cs, hlen with
      | [c0, c1'], _ =>
        simp only [List.getElem?_cons_zero, List.getElem?_cons_succ, Option.some.injEq] at e0 e1
        subst e0 e1
        simp only [List.cons.injEq, and_true] at hz
        rw [hz]
        rfl
    · simp only [encStp, List.mem_cons, List.not_mem_nil, or_false] at hp
      subst hp
      exact hr2) h hl
  exact ⟨A, n, c, L, e1, e2, e3, e4⟩
end Go.Proofs.Ytjcifmbbdofjiaa
