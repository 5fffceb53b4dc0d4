/- Layer 24, LevelSees: what a compaction keeps: the walk of Keep. -/
import Derived.Test.YtedelkifadonjaaSeE
import Derived.Deep.CutRange
namespace Go.Lec
open Go.RowKit
theorem drop_pl {L : List Pr} {k : Nat} {m : Pr} (h : L[k]? = some m) : (L.map Pr.pl).drop k = m.pl :: (L.map Pr.pl).drop (k + 1) := by
  have hk := (List.getElem?_eq_some_iff.1 h).1
  have he := (List.getElem?_eq_some_iff.1 h).2
  rw [List.drop_eq_getElem_cons (by simpa using hk)]
  simp [he]
theorem keepP_len (floor : Int) (bottom : Bool) (dead : List Int) : ∀ (l : List PairB) (last : Option (Nat × List UInt8)) (done : Bool), (keepP floor bottom dead last done l).length ≤ l.length
  | [], _, _ => Nat.le_refl _
  | p :: ps, last, done => by
    have ih := keepP_len floor bottom dead ps
    cases hd : dec p.1 with
    | error e => rw [keepP_err hd]; simp only [List.length_cons]; have := ih last done; omega
    | ok K =>
      cases hdd : dead.contains (K.ep : Int) with
      | true => rw [keepP_dead hd hdd]; simp only [List.length_cons]; have := ih last done; omega
      | false =>
        rw [keepP_live hd hdd]
        have h1 : ∀ b : Bool, (if b then [p] else []).length ≤ 1 := fun b => by cases b <;> simp
        have h2 := h1 (keepB floor bottom K (if last = some (K.ep, K.srt) then done else false))
        have h3 := ih (some (K.ep, K.srt)) (if floor < K.sq then (if last = some (K.ep, K.srt) then done else false) else true)
        rw [List.length_append, List.length_cons]
        omega
/-- The group's prefix is that of the key at hand just if it is its group. -/
theorem gs_same {last : Option (Nat × List UInt8)} {d : Bool} {K : Key} (hl : ∀ g, last = some g → g.1 < 65536) (hK : K.ep < 65536) :
    ((gsN last d == 0) || !((be 2 K.ep ++ escT K.srt) == gsL last)) = !decide (last = some (K.ep, K.srt)) := by
  cases last with
  | none => simp [gsN]
  | some g =>
    have h0 : (gsN (some g) d == 0) = false := by cases d <;> rfl
    rw [h0, Bool.false_or]
    congr 1
    rw [Bool.eq_iff_iff]
    simp only [gsL, beq_iff_eq, decide_eq_true_eq, Option.some.injEq]
    constructor
    · intro h
      obtain ⟨h1, h2⟩ := pre_inj hK (hl g rfl) h
      exact Prod.ext h1.symm h2.symm
    · rintro rfl; rfl
end Go.Lec
namespace Go.Proofs.Ytedelkifadonjaa
open Go.RowKit Go.Lec
/-- What is kept. -/
def KeepPost (w : World) (O : List PairB) (e : Ending) (w' : World) : Prop := ∃ (A : Option Addr) (n c : Nat) (L' : List Pr), e = .returned (.slice A n c) ∧ n ≤ c ∧ Prs w' w'.heap.size A n L' ∧ L'.map Pr.pl = O ∧ Below w.heap.size w w'

end Go.Proofs.Ytedelkifadonjaa
