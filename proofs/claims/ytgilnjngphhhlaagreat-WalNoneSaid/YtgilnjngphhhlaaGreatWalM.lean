/- Layer 17: the document's next frame. -/
import Derived.Test.YtgilnjngphhhlaaGreatWalF
import Derived.Test.YtgilnjngphhhlaaGreatWalI
namespace Go.Lec
open Go.RowKit
theorem ofNat_eq (x : Nat) (b : UInt8) : UInt8.ofNat x = b ↔ x % 256 = b.toNat := by
  constructor
  · intro h; rw [← h, UInt8.toNat_ofNat']
  · intro h; exact UInt8.toNat_inj.1 (by rw [UInt8.toNat_ofNat']; exact h)
theorem le4_list (x : Nat) : le 4 x = [UInt8.ofNat x, UInt8.ofNat (x / 256), UInt8.ofNat (x / 65536), UInt8.ofNat (x / 16777216)] := by simp [le, List.range_succ]
theorem take4 (L : List UInt8) (s : Nat) (h : s + 4 ≤ L.length) : (L.drop s).take 4 = [L[s], L[s + 1], L[s + 2], L[s + 3]] := by
  apply List.ext_getElem
  · simp; omega
  · intro i h1 h2
    have hi : i < 4 := by simpa using h2
    match i, hi with
    | 0, _ => simp
    | 1, _ => simp
    | 2, _ => simp
    | 3, _ => simp
theorem le4_eq {l : List UInt8} (x : Nat) (hx : x < 4294967296) (b0 b1 b2 b3 : UInt8) (hl : l = [b0, b1, b2, b3]) : l = le 4 x ↔ x = b0.toNat + 256 * b1.toNat + 65536 * b2.toNat + 16777216 * b3.toNat := by
  rw [hl, le4_list]
  have h0 := b0.toNat_lt
  have h1 := b1.toNat_lt
  have h2 := b2.toNat_lt
  have h3 := b3.toNat_lt
  simp only [List.cons.injEq, and_true]
  rw [eq_comm, ofNat_eq, eq_comm (a := b1), ofNat_eq, eq_comm (a := b2), ofNat_eq, eq_comm (a := b3), ofNat_eq]
  omega
end Go.Lec
namespace Go.Proofs.YtgilnjngphhhlaaGreat
open Go.RowKit Go.Lec
/-- What the document's 'next' answers. -/
def NextPost (w : World) (B : Nat) (L : List UInt8) (s : Nat) (e : Ending) (w' : World) : Prop :=
  ((∃ (k : UInt8) (p : List UInt8) (E : Nat) (A : Option Addr) (c : Nat), pieces L s = (k, p, E) :: pieces L E ∧ e = .returned (.tuple #[.int .i64 (k.toNat : Int), .slice A p.length c, .int .i64 (E : Int)]) ∧ Rd w B A p.length (bcs p) ∧ p.length ≤ c ∧ p.length < 65536 ∧ s < E ∧ E ≤ L.length ∧ 1 ≤ k.toNat ∧ k.toNat ≤ 4) ∨
   (pieces L s = [] ∧ ∃ x, e = .returned (.tuple #[.int .i64 0, .slice none 0 0, x]))) ∧ Below w.heap.size w w'

end Go.Proofs.YtgilnjngphhhlaaGreat
/- Layer 17: the document's reading. -/
namespace Go.Lec
open Go.RowKit
/-- A number's worth. -/
def numI : Value → Nat
  | .int _ x => x.toNat
  | _ => 0
end Go.Lec
namespace Go.Proofs.YtgilnjngphhhlaaGreat
open Go.RowKit Go.Lec

theorem rows_of {W : World} {B : Nat} {A : Option Addr} {n c : Nat} {X : Nat → Prop} {es : List Value} {out : List (List UInt8)} (h : Lec.Own W B 22 (.slice A n c) es) (he : BEls W X es out) : Rws W W.heap.size A n out :=
  ⟨es, h.rd, he.1, fun i u l e1 e2 => by obtain ⟨A', c', e, hc', hr, _⟩ := he.2 i u l e1 e2; exact ⟨A', c', e, hc', hr⟩⟩
theorem own_el' {W : World} {B : Nat} {v : Value} {rec : List UInt8} (h : Lec.Own W B 5 v (bcs rec)) : El W (Xat W B 0 false) v rec := by
  obtain ⟨A, c, rfl, hc⟩ := h.shape
  rw [bcs_length] at hc
  rw [bcs_length] at h ⊢
  refine ⟨A, c, rfl, hc, h.rd, fun hl a e => ?_⟩
  subst e
  rcases h.2 with ⟨h1, _⟩ | ⟨g, cap, cur, h1, hb, hg, _⟩
  · cases h1
  · simp only [Value.slice.injEq, Option.some.injEq] at h1
    rw [h1.1]
    exact ⟨hb, ⟨cur, hg⟩, fun e => by cases e⟩

end Go.Proofs.YtgilnjngphhhlaaGreat
