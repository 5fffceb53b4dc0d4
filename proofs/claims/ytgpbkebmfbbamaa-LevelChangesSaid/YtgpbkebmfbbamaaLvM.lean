/- Layer 24: the edit of a compaction, the program's. -/
import Derived.Test.YtgpbkebmfbbamaaLvL
namespace Go.Lec
open Go.RowKit
theorem OwnK.ge {w : World} {B k m n c : Nat} {e : TypeId} {A : Option Addr} {xs : List Value} (h : OwnK w B e k (.slice A m c) n xs) (a : Addr) (ha : A = some a) : B ≤ a.block := (h.lt a.block (by rw [ha]; rfl)).1
theorem Rd.stab {w w' : World} {B n : Nat} {A : Option Addr} {xs : List Value} {X : Option Nat} (h : Rd w B A n xs) (hs : ∀ j, j < B → some j ≠ X → w'.heap[j]? = w.heap[j]?) (ha : ∀ a, A = some a → some a.block ≠ X) : Rd w' B A n xs :=
  ⟨h.1, fun hn => by
    obtain ⟨b, o, e, hb, hc⟩ := h.2 hn
    exact ⟨b, o, e, hb, fun i u hu => (World.cell?_of_block (hs b hb (ha _ e))).trans (hc i u hu)⟩⟩
theorem Mt.ok.stab {w w' : World} {B C : Nat} {m : Mt} {X : Option Nat} (h : m.ok w B) (hs : ∀ j, j < B → some j ≠ X → w'.heap[j]? = w.heap[j]?) (hi : m.hi C) (hX : ∀ x, X = some x → x < C) : m.ok w' B :=
  ⟨h.1.stab hs (fun a ha e => by have h1 := hi.1 a ha; have h2 := hX _ e.symm; omega), h.2.1.stab hs (fun a ha e => by have h1 := hi.2 a ha; have h2 := hX _ e.symm; omega), h.2.2⟩
end Go.Lec
namespace Go.Proofs.Ytgpbkebmfbbamaa
open Go.RowKit Go.Lec

set_option maxRecDepth 4000 in
set_option maxHeartbeats 3200000 in
theorem c_Changes (w : World) {B : Nat} {lv : Int} {AU AL AF AE A : Option Addr} {nU cU nL cL nF cF nE cE n c : Nat} {bt : Bool} {U Lo : List Int} {L : List Mt}
    (hU : Rd w B AU nU (ics U)) (hL : Rd w B AL nL (ics Lo)) (hr : Mts w B A n L) (hB : B ≤ w.heap.size) (hn : nU + nL + n ≤ 300) (h1 : -9223372036854775808 ≤ lv) (h2 : lv ≤ 1099511627776) :
    Calls Try.prog 13 #[.agg #[.int .i64 lv, .slice AU nU cU, .slice AL nL cL, .slice AF nF cF, .slice AE nE cE, .bool bt], .slice A n c] w (EditPost w (edit lv (nextOf lv) U Lo L)) := by
  have hlU : U.length = nU := by have := hU.1; simpa [ics] using this
  have hlL : Lo.length = nL := by have := hL.1; simpa [ics] using this
  have hlr := hr.len
  have HlU := Lib.hid hlU
  have HlL := Lib.hid hlL
  have Hlr := Lib.hid hlr
  clear hlU hlL hlr
  have HP := Bk.new_ w 34 #[.int .i64 lv, .slice AU nU cU, .slice AL nL cL, .slice AF nF cF, .slice AE nE cE, .bool bt]
  have hk := HP.cell
  have hb0 : Below w.heap.size w (w.alloc (.cells #[.int .i64 lv, .slice AU nU cU, .slice AL nL cL, .slice AF nF cF, .slice AE nE cE, .bool bt] 34)) := (Below.refl _ _).alloc (Nat.le_refl _) _
  have s1 : IntKind.i64.wrap (lv + 1) = lv + 1 := IntWalk.i64_in _ (by omega)
  obtain ⟨nx, hnx⟩ : ∃ x, x = nextOf lv := ⟨_, rfl⟩
  rw [← hnx]
  have Hnx := Lib.hid hnx
  clear hnx
  go_enter Try.func13, Try.ntmps13
  go_upto_region 1 with (fail)
  go_cut [5] (fun v wc => v = .int .i64 nx ∧ wc = (w.alloc (.cells #[.int .i64 lv, .slice AU nU cU, .slice AL nL cL, .slice AF nF cF, .slice AE nE cE, .bool bt] 34)))
  case first =>
    by_cases h6 : 5 < lv
    · have hx : nx = 6 := by rw [Hnx.out]; unfold nextOf; rw [if_pos (by omega)]
      have Hx := Lib.hid hx
      clear hx
      go_wp2_with fail
      go_meet
      exact ⟨by rw [Hx.out], rfl⟩
    · have hx : nx = lv + 1 := by rw [Hnx.out]; unfold nextOf; rw [if_neg (by omega)]
      have Hx := Lib.hid hx
      clear hx
      go_wp2_with fail
      go_meet
      exact ⟨by rw [Hx.out], rfl⟩
  case rest =>
    obtain ⟨rfl, rfl⟩ := hcut
    go_wp2
    go_loopw [6, 20] (fun s i wr => ∃ k : Nat, k ≤ nU ∧ i = .int .i64 k ∧ OwnK wr (w.heap.size + 1) 46 10 s (k) (((U.take k).map (drop_ lv)).flatMap Cg.cs) ∧ Below (w.heap.size + 1) (w.alloc (.cells #[.int .i64 lv, .slice AU nU cU, .slice AL nL cL, .slice AF nF cF, .slice AE nE cE, .bool bt] 34)) wr) (fun _ i _ => nU - (intOf i).toNat)
    case atStart => exact ⟨0, by omega, rfl, OwnK.nil_ _ _ _ _, Below.refl _ _⟩
    case round =>
      obtain ⟨k, hk0, rfl, hown, hb⟩ := hrel
      have hbs : w.heap.size + 1 ≤ wr.heap.size := by have := hb.size; simp at this; omega
      have hb1 := hb0.trans (hb.mono (Nat.le_succ _))
      have hk := (HP.below hb (Nat.lt_succ_self _)).cell
      by_cases hlt : k < nU
      · obtain ⟨b, o, x, rfl, hbB, hx, htk, hcell⟩ := rd_int hU hlt
        have Htk := Lib.hid htk
        have hc := hcell wr (hb1.mono hB)
        clear hx htk hcell
        go_wp2_with (first
          | (at_builtin; (refine wpList_appK_new rfl _ _ rfl slc (by decide) rfl hown hb hbs rfl (news := (drop_ lv x).cs) rfl (Cg.cs_one _) (by omega) ?_); intro v1 w1 hown1 hb2 hg1 hat1 hs1))
        go_roundw
        case rel => exact ⟨k + 1, by omega, by go_num, by rw [Htk.out]; simpa [Nat.add_assoc] using hown1, hb2⟩
        case measure => simp [intOf]; omega
      · obtain rfl : nU = k := by omega
        rw [List.take_of_length_le (by rw [HlU.out]; exact Nat.le_refl _)] at hown
        have hU1 := hown
        have hbU := hb
        clear hown hb hb1 hbs hlt hk0
        go_wp2
        go_loopw [6, 35] (fun s i wr => ∃ k : Nat, k ≤ nL ∧ i = .int .i64 k ∧ OwnK wr (w.heap.size + 1) 46 10 s (nU + k) ((U.map (drop_ lv) ++ (Lo.take k).map (drop_ nx)).flatMap Cg.cs) ∧ Below (w.heap.size + 1) (w.alloc (.cells #[.int .i64 lv, .slice AU nU cU, .slice AL nL cL, .slice AF nF cF, .slice AE nE cE, .bool bt] 34)) wr) (fun _ i _ => nL - (intOf i).toNat)
        case atStart => exact ⟨0, by omega, rfl, by simpa using hU1, hbU⟩
        case round =>
          obtain ⟨k, hk0, rfl, hown, hb⟩ := hrel
          have hbs : w.heap.size + 1 ≤ wr.heap.size := by have := hb.size; simp at this; omega
          have hb1 := hb0.trans (hb.mono (Nat.le_succ _))
          have hk := (HP.below hb (Nat.lt_succ_self _)).cell
          by_cases hlt : k < nL
          · obtain ⟨b, o, x, rfl, hbB, hx, htk, hcell⟩ := rd_int hL hlt
            have Htk := Lib.hid htk
            have hc := hcell wr (hb1.mono hB)
            clear hx htk hcell
            go_wp2_with (first
              | (at_builtin; (refine wpList_appK_new rfl _ _ rfl slc (by decide) rfl hown hb hbs rfl (news := (drop_ nx x).cs) rfl (Cg.cs_one _) (by omega) ?_); intro v1 w1 hown1 hb2 hg1 hat1 hs1))
            go_roundw
            case rel => exact ⟨k + 1, by omega, by go_num, by rw [Htk.out]; simpa [Nat.add_assoc] using hown1, hb2⟩
            case measure => simp [intOf]; omega
          · obtain rfl : nL = k := by omega
            rw [List.take_of_length_le (by rw [HlL.out]; exact Nat.le_refl _)] at hown
            obtain ⟨As, cs, rfl, hcs⟩ := hown.shape
            have hPk := Lib.hid (c_picked wr (c := c) (hr.below hb1 hB) (by omega) (by omega) 33 #[] (fun _ => true) (fun _ _ => by simp [go_sem]) (fun W m _ _ => c_takesAll W m))
            go_wp2_with fail
            refine hPk.out.mono ?_
            rintro e w2 ⟨A', n', c', L', rfl, _, hol, hml, hpl, hhi, hbp⟩
            have hft : L.filter (fun _ => true) = L := by simp
            rw [hft] at hpl
            have hn' : n' = n := by have := congrArg List.length hpl; rw [List.length_map, List.length_map, hml.len, Hlr.out] at this; exact this
            subst hn'
            have hU2 := hown.below hbp (Nat.le_refl _)
            have hbL := hb.trans (hbp.mono hbs)
            obtain ⟨X0, hX0⟩ : ∃ X, X = (Value.slice As (nU + nL) cs).ownBlock := ⟨_, rfl⟩
            have hXlt : ∀ x, X0 = some x → x < wr.heap.size := fun x hx => (hown.lt x (by rw [← hX0]; exact hx)).2
            have hA' : ∀ a, A' = some a → wr.heap.size ≤ a.block := fun a ha => hol.ge a ha
            have HX0 := Lib.hid hX0
            have Hpl := Lib.hid hpl
            have hbs2 := hbp.size
            clear hown hb hb1 hlt hk0 hft hpl hol hbp hPk hX0 hk
            obtain ⟨B0, hB0⟩ : ∃ x, x = wr.heap.size := ⟨_, rfl⟩
            rw [← hB0] at hXlt hA' hhi hbs hbs2
            clear hB0
            go_wp2
            go_loopw [6, 49] (fun s i wr => ∃ k : Nat, k ≤ n' ∧ i = .int .i64 k ∧ OwnK wr (w.heap.size + 1) 46 10 s (nU + nL + k) ((U.map (drop_ lv) ++ (Lo.map (drop_ nx) ++ (L'.take k).map (add_ nx))).flatMap Cg.cs) ∧ Below (w.heap.size + 1) (w.alloc (.cells #[.int .i64 lv, .slice AU nU cU, .slice AL nL cL, .slice AF nF cF, .slice AE nE cE, .bool bt] 34)) wr ∧
              (∀ j, j < w2.heap.size → some j ≠ X0 → wr.heap[j]? = w2.heap[j]?) ∧ (s.ownBlock = X0 ∨ ∃ g, s.ownBlock = some g ∧ w2.heap.size ≤ g) ∧ w2.heap.size ≤ wr.heap.size) (fun _ i _ => n' - (intOf i).toNat)
            case atStart => exact ⟨0, by omega, rfl, by simpa using hU2, hbL, fun _ _ _ => rfl, .inl HX0.out.symm, Nat.le_refl _⟩
            case round =>
              obtain ⟨k, hk0, rfl, hown, hb, hst, hox, hsz⟩ := hrel
              have hbs3 : w.heap.size + 1 ≤ wr.heap.size := by have := hb.size; simp at this; omega
              have hb1 := hb0.trans (hb.mono (Nat.le_succ _))
              by_cases hlt : k < n'
              · obtain ⟨b, o, m, rfl, hbB, hm, htk, hok, hcell⟩ := hml.cell5 hlt
                have Htk := Lib.hid htk
                have hbX : some b ≠ X0 := fun e => by have h1 := hXlt b e.symm; have h2 := hA' _ rfl; dsimp only at h2; omega
                obtain ⟨g0, g1, g2, g3, g4⟩ := hcell w2 (Below.refl _ _)
                have h0 := (World.cell?_of_block (a := ⟨b, o + k * 5, none⟩) (hst b hbB hbX)).trans g0
                have h1' := (World.cell?_of_block (a := ⟨b, o + k * 5 + 1, none⟩) (hst b hbB hbX)).trans g1
                have h2' := (World.cell?_of_block (a := ⟨b, o + k * 5 + 2, none⟩) (hst b hbB hbX)).trans g2
                have h3 := (World.cell?_of_block (a := ⟨b, o + k * 5 + 3, none⟩) (hst b hbB hbX)).trans g3
                have h4 := (World.cell?_of_block (a := ⟨b, o + k * 5 + 4, none⟩) (hst b hbB hbX)).trans g4
                have hlt' : b < wr.heap.size := by omega
                have hk := (Bk.new_ wr 44 #[.int .i64 m.num, .int .i64 m.size, .int .i64 m.cnt, .slice m.A1 m.n1 m.c1, .slice m.A2 m.n2 m.c2]).cell
                have Hst := Lib.hid hst
                have Hox := Lib.hid hox
                clear hm htk hcell hok g0 g1 g2 g3 g4 hst hox hbX
                obtain ⟨Av, cv, rfl, hcv⟩ := hown.shape
                go_wp2_with (first
                  | (at_builtin; (refine wpList_appK_new rfl _ _ rfl slc (by decide) rfl (hown.alloc _) (hb.alloc hbs3 _) (by simp; omega) (by rw [World.size_alloc]; rfl) (news := (add_ nx m).cs) rfl (Cg.cs_one _) (by omega) ?_); intro v1 w1 hown1 hb2 hg1 hat1 hs1))
                go_roundw
                case rel =>
                  have hg2 : (wr.alloc (.cells #[.int .i64 m.num, .int .i64 m.size, .int .i64 m.cnt, .slice m.A1 m.n1 m.c1, .slice m.A2 m.n2 m.c2] 44)).grownBy w1 (Value.slice Av (nU + nL + k) cv).ownBlock := hg1
                  have hat2 : v1.ownBlock = (Value.slice Av (nU + nL + k) cv).ownBlock ∨ ∃ g, v1.ownBlock = some g ∧ (wr.alloc (.cells #[.int .i64 m.num, .int .i64 m.size, .int .i64 m.cnt, .slice m.A1 m.n1 m.c1, .slice m.A2 m.n2 m.c2] 44)).heap.size ≤ g := hat1
                  refine ⟨k + 1, by omega, by go_num, by rw [Htk.out]; simpa [Nat.add_assoc] using hown1, hb2, fun j hj hne => ?_, ?_, by have := hg2.size; simp at this; omega⟩
                  · refine (hg2.block j (by simp; omega) ?_).trans ((Below.heap_alloc wr _ j (by omega)).trans (Hst.out j hj hne))
                    rcases Hox.out with h | ⟨g, h, hg⟩
                    · rw [h]; exact hne
                    · rw [h]; intro e; injection e with e; omega
                  · rcases hat2 with h | ⟨g, h, hg⟩
                    · rw [h]; exact Hox.out
                    · exact .inr ⟨g, h, by simp at hg; omega⟩
                case measure => simp [intOf]; omega
              · obtain rfl : n' = k := by omega
                rw [List.take_of_length_le (by rw [hml.len]; exact Nat.le_refl _)] at hown
                obtain ⟨Ar, cr, rfl, hcr⟩ := hown.shape
                have Hst := Lib.hid hst
                clear hst hox
                go_wp2
                go_ret
                refine ⟨Ar, _, cr, edit lv nx U Lo L', rfl, hcr, hown.rd, fun g hg => ?_, ?_, hb1⟩
                · unfold edit at hg
                  rcases List.mem_append.1 hg with hg | hg
                  · obtain ⟨x, _, rfl⟩ := List.mem_map.1 hg
                    exact Mt.zero_ok _ _
                  · rcases List.mem_append.1 hg with hg | hg
                    · obtain ⟨x, _, rfl⟩ := List.mem_map.1 hg
                      exact Mt.zero_ok _ _
                    · obtain ⟨x, hx, rfl⟩ := List.mem_map.1 hg
                      exact ((hml.2 x hx).stab Hst.out (hhi x hx) hXlt).more hsz
                · unfold edit
                  have e : ∀ l : List Mt, (l.map (add_ nx)).map Cg.pl = (l.map Mt.pl).map fun q => (1, nx, 0, q) := by intro l; simp [Cg.pl, add_, Function.comp_def]
                  rw [List.map_append, List.map_append, List.map_append, List.map_append, e, e, Hpl.out]
end Go.Proofs.Ytgpbkebmfbbamaa
