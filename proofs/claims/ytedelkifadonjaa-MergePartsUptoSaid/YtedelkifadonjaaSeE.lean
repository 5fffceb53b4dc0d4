/- Layer 24, LevelSees: what a compaction keeps: words, a round's step, a key's prefix. -/
import Derived.Test.YtedelkifadonjaaSeD
import Derived.Test.YtedelkifadonjaaKeyW
namespace Go.Lec
open Go.RowKit
/-- What decoding tells of a key's prefix. -/
theorem dec_pre {l : List UInt8} {K : Key} (h : dec l = .ok K) : preE K.ep K.srt = 0 ∧ preB K.ep K.srt = be 2 K.ep ++ escT K.srt ∧ K.srt.length ≤ 65536 ∧ K.ep < 65536 := by
  have hs : K.srt.length ≤ 65536 := by
    unfold dec at h
    repeat' split at h
    all_goals first | cases h | skip
    all_goals (rename_i h1; dsimp only at *; omega)
  obtain ⟨_, _, he, _⟩ := key_shape h
  have ho : okEpoch (K.ep : Int) = true := by simp [okEpoch]; omega
  refine ⟨by unfold preE; rw [if_pos ho, if_neg (by omega)], by unfold preB; rw [if_pos ho, if_neg (by omega)]; simp, hs, he⟩
theorem dec_errne {l : List UInt8} {e : Int} (h : dec l = .error e) : e ≠ 0 := by
  unfold dec at h
  repeat' split at h
  all_goals first | (cases h; decide) | cases h
theorem pre_inj {e1 e2 : Nat} {s1 s2 : List UInt8} (h1 : e1 < 65536) (h2 : e2 < 65536) (h : be 2 e1 ++ escT s1 = be 2 e2 ++ escT s2) : e1 = e2 ∧ s1 = s2 := by
  have h3 := List.append_inj h (by rw [be_length, be_length])
  refine ⟨be2_inj h1 h2 h3.1, ?_⟩
  have u1 := unesc_escT s1 []
  have u2 := unesc_escT s2 []
  rw [h3.2] at u1
  rw [u1] at u2
  injection u2 with u
  injection u
/-- The group at hand: its prefix, and a number for how it stands. -/
def gsL : Option (Nat × List UInt8) → List UInt8
  | none => []
  | some g => be 2 g.1 ++ escT g.2
def gsN : Option (Nat × List UInt8) → Bool → Int
  | none, _ => 0
  | some _, d => if d then 2 else 1
section
variable {floor : Int} {bottom : Bool} {dead : List Int} {last : Option (Nat × List UInt8)} {done : Bool} {p : PairB} {ps : List PairB}
theorem keepP_err {e : Int} (h : dec p.1 = .error e) : keepP floor bottom dead last done (p :: ps) = p :: keepP floor bottom dead last done ps := by rw [keepP, h]
theorem keepP_dead {K : Key} (h : dec p.1 = .ok K) (hd : dead.contains (K.ep : Int) = true) : keepP floor bottom dead last done (p :: ps) = keepP floor bottom dead last done ps := by rw [keepP, h]; simp only; rw [if_pos hd]
/-- Whether a live key stays; what is known behind it. -/
def keepB (floor : Int) (bottom : Bool) (K : Key) (d1 : Bool) : Bool := decide (floor < K.sq) || (!d1 && !(bottom && decide (K.kd = 0)))
theorem keepP_live {K : Key} (h : dec p.1 = .ok K) (hd : dead.contains (K.ep : Int) = false) :
    keepP floor bottom dead last done (p :: ps) = (if keepB floor bottom K (if last = some (K.ep, K.srt) then done else false) then [p] else []) ++
      keepP floor bottom dead (some (K.ep, K.srt)) (if floor < K.sq then (if last = some (K.ep, K.srt) then done else false) else true) ps := by
  rw [keepP, h]
  simp only
  rw [if_neg (by rw [hd]; decide)]
  unfold keepB
  by_cases hf : floor < K.sq
  · simp [hf]
  · simp only [hf, if_false, decide_false, Bool.false_or]
    generalize (if last = some (K.ep, K.srt) then done else false) = d1
    cases hc : (!d1 && !(bottom && decide (K.kd = 0)))
    · rw [if_neg (by decide), if_neg (by decide)]; rfl
    · rw [if_pos rfl, if_pos rfl]; rfl
end
/-- The pairs that are kept: a row of the call's own; each pair's bytes lie elsewhere. -/
structure KR (w W : World) (e : TypeId) (L' : List Pr) (v : Value) : Prop where
  own : OwnK W w.heap.size e 2 v L'.length (L'.flatMap Pr.cs)
  oks : ∀ m ∈ L', m.ok W W.heap.size ∧ m.away v.ownBlock
  hi : ∀ m ∈ L', m.hi w.heap.size
  below : Below w.heap.size w W
section
variable {w W W' : World} {e : TypeId} {L' : List Pr} {v v2 : Value} {m' : Pr}
theorem KR.nil (w : World) (e : TypeId) : KR w w e [] (.slice none 0 0) := ⟨OwnK.nil_ _ _ _ _, (fun _ h => by cases h), (fun _ h => by cases h), Below.refl _ _⟩
theorem KR.grow (h : KR w W e L' v) (hb : Below W.heap.size W W') : KR w W' e L' v :=
  ⟨h.own.below hb (Nat.le_refl _), fun m hm => ⟨((h.oks m hm).1.below hb (Nat.le_refl _)).more hb.size, (h.oks m hm).2⟩, h.hi, h.below.trans (hb.mono h.below.size)⟩
theorem KR.drewN (h : KR w W e L' v) (k : Nat) : KR w (W.drewN k) e L' v := ⟨h.own.drewN k, h.oks, h.hi, ⟨h.below.os, h.below.tape, h.below.output, h.below.size, h.below.block⟩⟩
theorem KR.prs {A : Option Addr} {n c : Nat} (h : KR w W e L' (.slice A n c)) (hn : L'.length = n) : Prs W W.heap.size A n L' := by
  subst hn
  exact ⟨h.own.rd, fun m hm => (h.oks m hm).1⟩
/-- A new pair's bytes lie elsewhere. -/
theorem KR.far (h : KR w W e L' v) {B : Nat} (hB : W.heap.size ≤ B) (hm : m'.hi B) : m'.away v.ownBlock :=
  ⟨fun _ a ha e => by have h1 := hm.1 a ha; have h2 := (h.own.lt _ e.symm).2; omega, fun _ a ha e => by have h1 := hm.2 a ha; have h2 := (h.own.lt _ e.symm).2; omega⟩
theorem KR.snoc (h : KR w W e L' v) (hm : m'.ok W W.heap.size) (ha : m'.away v.ownBlock) (hh : m'.hi w.heap.size) (ho : OwnK W' w.heap.size e 2 v2 (L'.length + 1) (L'.flatMap Pr.cs ++ m'.cs))
    (hg : W.grownBy W' v.ownBlock) (hat : v2.ownBlock = v.ownBlock ∨ ∃ g, v2.ownBlock = some g ∧ W.heap.size ≤ g) (hb : Below w.heap.size w W') : KR w W' e (L' ++ [m']) v2 := by
  refine ⟨by simpa using ho, fun x hx => ?_, fun x hx => ?_, hb⟩
  · rcases List.mem_append.1 hx with hx | hx
    · exact ⟨((h.oks x hx).1.grownX (Nat.le_refl _) (h.oks x hx).2 hg).more hg.size, (h.oks x hx).2.next (h.oks x hx).1 hat⟩
    · obtain rfl : x = m' := by simpa using hx
      exact ⟨(hm.grownX (Nat.le_refl _) ha hg).more hg.size, ha.next hm hat⟩
  · rcases List.mem_append.1 hx with hx | hx
    · exact h.hi x hx
    · obtain rfl : x = m' := by simpa using hx
      exact hh
end
end Go.Lec
namespace Go.Proofs.Ytedelkifadonjaa
open Go.RowKit Go.Lec
/-- What Split answers of any bytes. -/
def SplitAny (w : World) (l : List UInt8) (e : Ending) (w' : World) : Prop :=
  (∃ (K : Key) (A : Option Addr) (c : Nat), dec l = .ok K ∧ e = .returned (.tuple #[.slice A (bcs (be 2 K.ep ++ escT K.srt)).length c, .int .i64 K.sq, .int .i64 K.kd, .int .i64 0]) ∧ Own w' w.heap.size 5 (.slice A (bcs (be 2 K.ep ++ escT K.srt)).length c) (bcs (be 2 K.ep ++ escT K.srt)) ∧ Below w.heap.size w w') ∨
  (∃ err : Int, dec l = .error err ∧ err ≠ 0 ∧ e = .returned (.tuple #[.slice none 0 0, .int .i64 0, .int .i64 0, .int .i64 err]) ∧ Below w.heap.size w w')

end Go.Proofs.Ytedelkifadonjaa
