/- Layer 23: several lists are merged into one (MergeAll). -/
import Derived.Test.YtedelkifadonjaaMtA
import Derived.Test.YtedelkifadonjaaMsZ
namespace Go.Lec
theorem firstK_allL (l : List PairB) (k : List UInt8) : firstK (allL l) k = firstK l k := by
  have ha := allL_all l
  cases hf : firstK l k with
  | none =>
    cases hg : firstK (allL l) k with
    | none => rfl
    | some q =>
      obtain ⟨hq, he⟩ := firstK_mem hg
      have := (ha.mem q).1 hq
      rw [he, hf] at this
      cases this
  | some p =>
    obtain ⟨hp, he⟩ := firstK_mem hf
    have hpa : p ∈ allL l := (ha.mem p).2 (by rw [he]; exact hf)
    cases hg : firstK (allL l) k with
    | none => exact absurd he (firstK_none hg p hpa)
    | some q =>
      obtain ⟨hq, hqe⟩ := firstK_mem hg
      rw [srt_key ha.srt hq hpa (by rw [hqe, he])]
theorem firstK_flat (ls : List (List PairB)) (k : List UInt8) : firstK (ls.map allL).flatten k = firstK ls.flatten k := by
  induction ls with
  | nil => rfl
  | cons l ls ih => rw [List.map_cons, List.flatten_cons, List.flatten_cons, firstK_app, firstK_app, firstK_allL, ih]
/-- All of what is all of each. -/
theorem all_of_all (ls : List (List PairB)) : AllOf (ls.map allL).flatten (allL ls.flatten) :=
  ⟨(allL_all _).srt, fun p => by rw [firstK_flat]; exact (allL_all _).mem p⟩
theorem allL_idem (l : List PairB) : AllOf (allL l) (allL l) := ⟨(allL_all l).srt, fun p => by rw [firstK_allL]; exact (allL_all l).mem p⟩
theorem szL_ge (l : List PairB) : l.length ≤ szL l := by
  induction l with
  | nil => exact Nat.le_refl _
  | cons p l ih =>
    have : szL (p :: l) = szP p + szL l := rfl
    have h2 : 1 ≤ szP p := by unfold szP; omega
    rw [this, List.length_cons]; omega
theorem totM_ge (ls : List (List PairB)) : ls.length + ls.flatten.length ≤ totM ls := by
  unfold totM
  have : ls.flatten.length ≤ (ls.map szL).sum := by
    induction ls with
    | nil => exact Nat.le_refl _
    | cons l ls ih =>
      rw [List.flatten_cons, List.length_append, List.map_cons, List.sum_cons]
      have := szL_ge l
      omega
  omega
end Go.Lec
namespace Go.Lec
/-- An operation whose guard says yes is as one without. -/
theorem wpList_guarded {P : Program} {ops : Array Oper} {Q : Exit → Act → World → Prop} {a : Act} {w : World} {rest : List Oper} {o : Oper} (hw : Region.wanted o (yielded ops a.tmps) = true)
    (h : wpList P ops Q ({ o with guard := none } :: rest) a w) : wpList P ops Q (o :: rest) a w := by
  cases o
  unfold wpList at h ⊢
  rw [if_pos hw]
  simp only [Region.wanted, if_true] at h
  exact h
end Go.Lec
namespace Go.Proofs.Ytedelkifadonjaa
open Go.RowKit Go.Lec Go.Op
/-- What the law reads: lists, not too many. -/
structure Lists (w : World) (B n : Nat) (A : Option Addr) (Ls : List (Sl Pr)) : Prop where
  els : Els (encSl encPr) w B A n Ls
  hB : B ≤ w.heap.size
  n : n ≤ 1048576
  ns : ∀ s ∈ Ls, s.n ≤ 1048576
  tot : totM (Ls.map Sl.pls) ≤ 4611686018427387904
theorem flat_pls (Ls : List (Sl Pr)) : (flatP Ls).map Pr.pl = (Ls.map Sl.pls).flatten := by
  unfold flatP
  rw [List.map_flatMap, List.flatMap_def]
  rfl
section
variable {w : World} {B n : Nat} {A : Option Addr} {Ls : List (Sl Pr)}
theorem Lists.below {w' : World} (h : Lists w B n A Ls) (hb : Below w.heap.size w w') : Lists w' B n A Ls := ⟨h.els.below hb h.hB, Nat.le_trans h.hB hb.size, h.n, h.ns, h.tot⟩
theorem Lists.few (h : Lists w B n A Ls) (hf : totM (Ls.map Sl.pls) ≤ 5000) : n ≤ 5000 ∧ (flatP Ls).length ≤ 5000 ∧ ∀ s ∈ Ls, s.n ≤ 5000 := by
  have h1 := totM_ge (Ls.map Sl.pls)
  rw [← flat_pls, List.length_map, List.length_map, h.els.2.1] at h1
  refine ⟨by omega, by omega, fun s hs => ?_⟩
  have h2 : s.L.length = s.n := ((encSl_ok (by decide)).1 (h.els.2.2 s hs)).1.2.1
  have h3 : s.L.length ≤ (flatP Ls).length := by
    unfold flatP
    obtain ⟨a, b, rfl⟩ := List.append_of_mem hs
    rw [List.flatMap_append, List.flatMap_cons, List.length_append, List.length_append]
    omega
  omega
end
theorem rd_ownK {W : World} {B n c : Nat} {e : TypeId} {A : Option Addr} {xs : List Value} (h : OwnK W B e 1 (.slice A n c) n xs) : Rd W W.heap.size A n xs := by
  have h2 := h.rd
  refine ⟨by have := h2.1; omega, fun h0 => ?_⟩
  obtain ⟨b, o, e, hb, hc⟩ := h2.2 h0
  exact ⟨b, o, e, hb, hc⟩
theorem Sr.srcL_ {w w4 : World} {Ls : List (Sl Pr)} {D : Nat → Prop} {Ss : List (Option (Nat × Sl Pr))} {v : Value} (h : Sr w Ls Ls.length D Ss v w4) : srcL Ss = (Ls.map Sl.pls).map allL := by
  rw [h.law, List.take_length, List.map_map]; rfl
theorem Sr.mall {w w4 : World} {Ls : List (Sl Pr)} {D : Nat → Prop} {Ss : List (Option (Nat × Sl Pr))} {A : Option Addr} {c : Nat} (h : Sr w Ls Ls.length D Ss (.slice A Ss.length c) w4) (hn : Ls.length ≤ 50000) (hal : (allL (Ls.map Sl.pls).flatten).length ≤ 10000) :
    Calls Try.prog 18 #[.slice A Ss.length c] w4 (MAllP w (allL (Ls.map Sl.pls).flatten)) :=
  c_mAll w w4 (rd_ownK h.own) (Nat.le_refl _) h.srcs (by rw [h.len]; omega) (fun b hb => (h.dlt b hb).2) h.below h.sge (by rw [h.srcL_]; exact all_of_all _) (fun l hl => by
    rw [h.srcL_] at hl
    obtain ⟨x, _, rfl⟩ := List.mem_map.1 hl
    exact (allL_all x).srt) hal
theorem Sr.mallN {w w4 w5 : World} {Ls : List (Sl Pr)} {D : Nat → Prop} {Ss : List (Option (Nat × Sl Pr))} {v : Value} {A : Option Addr} {c : Nat} (h : Sr w Ls Ls.length D Ss v w4) (ho : OwnK w5 w.heap.size 59 1 (.slice A (Ss.length + 1) c) (Ss.length + 1) (Ss.map srcV ++ [srcV none])) (hg : w4.grownBy w5 v.ownBlock)
    (hn : Ls.length ≤ 50000) (hal : (allL (Ls.map Sl.pls).flatten).length ≤ 10000) :
    Calls Try.prog 18 #[.slice A (Ss.length + 1) c] w5 (MAllP w (allL (Ls.map Sl.pls).flatten)) := by
  have hL : srcL (Ss ++ [none]) = srcL Ss := by unfold srcL; rw [List.filterMap_append]; simp
  have hr := rd_ownK ho
  rw [show Ss.map srcV ++ [srcV none] = (Ss ++ [none]).map srcV by simp] at hr
  have hS : Srcs D w5 (Ss ++ [none]) := ((h.srcs.kb (kb_grown hg) (fun x hx hm => by rw [Option.mem_toList] at hm; exact (h.vn _ hm).2 x hx rfl) (fun b hb hm => by rw [Option.mem_toList] at hm; exact (h.vn _ hm).1 hb))).snoc (fun _ h => h) (fun x hx => (h.srcs.ls x hx).2) none (fun x hx => by cases hx)
  have hb : Below w.heap.size w w5 := h.below.grown hg h.below.size (fun g e => (h.own.lt g e).1)
  exact c_mAll w w5 hr (Nat.le_refl _) hS (by rw [h.len]; omega) (fun b hb => Nat.lt_of_lt_of_le (h.dlt b hb).2 hg.size) hb (fun k hk => by
    rcases List.mem_append.1 hk with hk | hk
    · exact h.sge k hk
    · rw [List.mem_singleton] at hk; cases hk) (by rw [hL, h.srcL_]; exact all_of_all _) (fun l hl => by
    rw [hL, h.srcL_] at hl
    obtain ⟨x, _, rfl⟩ := List.mem_map.1 hl
    exact (allL_all x).srt) hal
end Go.Proofs.Ytedelkifadonjaa
