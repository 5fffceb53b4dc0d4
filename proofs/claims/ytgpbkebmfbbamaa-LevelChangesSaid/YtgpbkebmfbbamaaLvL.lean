/- Layer 24: the edit of a compaction, the program's and the reference's. -/
import Derived.Test.YtgpbkebmfbbamaaLvJ
namespace Go.Lec
open Go.RowKit
/-- A meta of nothing. -/
def Mt.zero : Mt := ⟨0, 0, 0, none, 0, 0, [], none, 0, 0, []⟩
/-- A change: its cells, as it lies in memory. -/
structure Cg where
  kind : Int
  level : Int
  n : Int
  m : Mt
def Cg.cs (g : Cg) : List Value := [.int .i64 g.kind, .int .i64 g.level, .int .i64 g.n, .string ⟨#[]⟩, .slice none 0 0, .int .i64 g.m.num, .int .i64 g.m.size, .int .i64 g.m.cnt, .slice g.m.A1 g.m.n1 g.m.c1, .slice g.m.A2 g.m.n2 g.m.c2]
theorem Cg.cs_len (g : Cg) : g.cs.length = 10 := rfl
theorem Cg.cs_one (g : Cg) : ∀ u ∈ g.cs, u.oneCell' = true := by
  intro u hu
  simp only [Cg.cs, List.mem_cons, List.not_mem_nil, or_false] at hu
  rcases hu with rfl | rfl | rfl | rfl | rfl | rfl | rfl | rfl | rfl | rfl <;> rfl
/-- What a change says. -/
def Cg.pl (g : Cg) : Int × Int × Int × (Int × Int × Int × List UInt8 × List UInt8) := (g.kind, g.level, g.n, g.m.pl)
/-- A change that drops a file. -/
def drop_ (lv n : Int) : Cg := ⟨2, lv, n, Mt.zero⟩
def add_ (lv : Int) (m : Mt) : Cg := ⟨1, lv, 0, m⟩
/-- The edit. -/
def edit (lv next : Int) (U Lo : List Int) (L : List Mt) : List Cg := U.map (drop_ lv) ++ (Lo.map (drop_ next) ++ L.map (add_ next))
theorem Mt.zero_ok (w : World) (B : Nat) : Mt.zero.ok w B := ⟨Rd.nil_, Rd.nil_, Nat.le_refl _, Nat.le_refl _, by show (0 : Nat) ≤ _; omega, by show (0 : Nat) ≤ _; omega⟩
/-- The level that is next. -/
def nextOf (lv : Int) : Int := if 6 ≤ lv then 6 else lv + 1
end Go.Lec
namespace Go.Proofs.Ytgpbkebmfbbamaa
open Go.RowKit Go.Lec

theorem infoC : (Try.prog.info? 46).map (fun i => (i.zero, i.size, i.bytes)) = some (some (.agg (Cg.cs ⟨0, 0, 0, Mt.zero⟩).toArray), 10, 136) := by kernel_rfl
theorem slc : SlK Try.prog 41 46 (.agg (Cg.cs ⟨0, 0, 0, Mt.zero⟩).toArray) 136 10 := ⟨Try.underlying41, info_parts infoC, rfl, by decide⟩

/-- An edit, in memory. -/
def EditPost (w : World) (E : List Cg) (e : Ending) (w' : World) : Prop :=
  ∃ (A : Option Addr) (n c : Nat) (G : List Cg), e = .returned (.slice A n c) ∧ n ≤ c ∧ RdK w' w'.heap.size 10 A n (G.flatMap Cg.cs) ∧ (∀ g ∈ G, g.m.ok w' w'.heap.size) ∧ G.map Cg.pl = E.map Cg.pl ∧ Below w.heap.size w w'

theorem ics_take_get {l : List Int} {k : Nat} (h : k < l.length) : l.take (k + 1) = l.take k ++ [l[k]] := by rw [List.take_succ_eq_append_getElem h]
theorem rd_int {w : World} {B n k : Nat} {A : Option Addr} {l : List Int} (h : Rd w B A n (ics l)) (hk : k < n) :
    ∃ b o x, A = some ⟨b, o, none⟩ ∧ b < B ∧ l[k]? = some x ∧ l.take (k + 1) = l.take k ++ [x] ∧ ∀ W : World, Below B w W → W.cell? ⟨b, o + k, none⟩ = some (.int .i64 x) := by
  obtain ⟨b, o, e, hb, hc⟩ := h.2 (by omega)
  have hkl : k < l.length := by have := h.1; simp only [ics, List.length_map] at this; omega
  exact ⟨b, o, l[k], e, hb, List.getElem?_eq_getElem hkl, ics_take_get hkl, fun W hW => (hW.cell (p := ⟨b, o + k, none⟩) hb).trans (hc k _ (by simp [ics, hkl]))⟩

set_option maxRecDepth 4000 in
set_option maxHeartbeats 3200000 in
theorem c_rChanges (w : World) {B : Nat} {lv : Int} {AU AL AF AE A : Option Addr} {nU cU nL cL nF cF nE cE n c : Nat} {bt : Bool} {U Lo : List Int} {L : List Mt}
    (hU : Rd w B AU nU (ics U)) (hL : Rd w B AL nL (ics Lo)) (hr : Mts w B A n L) (hB : B ≤ w.heap.size) (hn : nU + nL + n ≤ 300) (h1 : -9223372036854775808 ≤ lv) (h2 : lv ≤ 1099511627776) :
    Calls Try.prog 14 #[.agg #[.int .i64 lv, .slice AU nU cU, .slice AL nL cL, .slice AF nF cF, .slice AE nE cE, .bool bt], .slice A n c] w (EditPost w (edit lv (nextOf lv) U Lo L)) := by
  have hlU : U.length = nU := by have := hU.1; simpa [ics] using this
  have hlL : Lo.length = nL := by have := hL.1; simpa [ics] using this
  have hlr := hr.len
  have HlU := Lib.hid hlU
  have HlL := Lib.hid hlL
  have Hlr := Lib.hid hlr
  clear hlU hlL hlr
  have HP := Bk.new_ w 34 #[.int .i64 lv, .slice AU nU cU, .slice AL nL cL, .slice AF nF cF, .slice AE nE cE, .bool bt]
  have hk := HP.cell
  have hb0 : Below w.heap.size w (w.alloc (.cells #[.int .i64 lv, .slice AU nU cU, .slice AL nL cL, .slice AF nF cF, .slice AE nE cE, .bool bt] 34)) := (Below.refl _ _).alloc (Nat.le_refl _) _
  have s1 : IntKind.i64.wrap (lv + 1) = lv + 1 := IntWalk.i64_in _ (by omega)
  obtain ⟨nx, hnx⟩ : ∃ x, x = nextOf lv := ⟨_, rfl⟩
  rw [← hnx]
  have Hnx := Lib.hid hnx
  clear hnx
  go_enter Try.func14, Try.ntmps14
  go_upto_if 18 with (fail)
  go_cut [5] (fun v wc => v = .int .i64 nx ∧ wc = w.alloc (.cells #[.int .i64 lv, .slice AU nU cU, .slice AL nL cL, .slice AF nF cF, .slice AE nE cE, .bool bt] 34))
  case first =>
    by_cases h6 : 6 ≤ lv
    · have hx : nx = 6 := by rw [Hnx.out]; unfold nextOf; rw [if_pos h6]
      have Hx := Lib.hid hx
      clear hx
      go_wp2_with fail
      go_meet
      exact ⟨by rw [Hx.out], rfl⟩
    · have hx : nx = lv + 1 := by rw [Hnx.out]; unfold nextOf; rw [if_neg h6]
      have Hx := Lib.hid hx
      clear hx
      go_wp2_with fail
      go_meet
      exact ⟨by rw [Hx.out], rfl⟩
  case rest =>
    obtain ⟨rfl, rfl⟩ := hcut
    go_wp2
    go_loopw [6, 22] (fun s i wr => ∃ k : Nat, k ≤ nU ∧ i = .int .i64 k ∧ OwnK wr (w.heap.size + 1) 46 10 s (k) (((U.take k).map (drop_ lv)).flatMap Cg.cs) ∧ Below (w.heap.size + 1) (w.alloc (.cells #[.int .i64 lv, .slice AU nU cU, .slice AL nL cL, .slice AF nF cF, .slice AE nE cE, .bool bt] 34)) wr) (fun _ i _ => nU - (intOf i).toNat)
    case atStart => exact ⟨0, by omega, rfl, OwnK.nil_ _ _ _ _, Below.refl _ _⟩
    case round =>
      obtain ⟨k, hk0, rfl, hown, hb⟩ := hrel
      have hbs : w.heap.size + 1 ≤ wr.heap.size := by have := hb.size; simp at this; omega
      have hb1 := hb0.trans (hb.mono (Nat.le_succ _))
      have hk := (HP.below hb (Nat.lt_succ_self _)).cell
      by_cases hlt : k < nU
      · obtain ⟨b, o, x, rfl, hbB, hx, htk, hcell⟩ := rd_int hU hlt
        have Htk := Lib.hid htk
        have hc := hcell wr (hb1.mono hB)
        clear hx htk hcell
        go_wp2_with (first
          | (at_builtin; (refine wpList_appK_new rfl _ _ rfl slc (by decide) rfl hown hb hbs rfl (news := (drop_ lv x).cs) rfl (Cg.cs_one _) (by omega) ?_); intro v1 w1 hown1 hb2 hg1 hat1 hs1))
        go_roundw
        case rel => exact ⟨k + 1, by omega, by go_num, by rw [Htk.out]; simpa [Nat.add_assoc] using hown1, hb2⟩
        case measure => simp [intOf]; omega
      · obtain rfl : nU = k := by omega
        rw [List.take_of_length_le (by rw [HlU.out]; exact Nat.le_refl _)] at hown
        have hU1 := hown
        have hbU := hb
        clear hown hb hb1 hbs hlt hk0
        go_wp2
        go_loopw [6, 37] (fun s i wr => ∃ k : Nat, k ≤ nL ∧ i = .int .i64 k ∧ OwnK wr (w.heap.size + 1) 46 10 s (nU + k) ((U.map (drop_ lv) ++ (Lo.take k).map (drop_ nx)).flatMap Cg.cs) ∧ Below (w.heap.size + 1) (w.alloc (.cells #[.int .i64 lv, .slice AU nU cU, .slice AL nL cL, .slice AF nF cF, .slice AE nE cE, .bool bt] 34)) wr) (fun _ i _ => nL - (intOf i).toNat)
        case atStart => exact ⟨0, by omega, rfl, by simpa using hU1, hbU⟩
        case round =>
          obtain ⟨k, hk0, rfl, hown, hb⟩ := hrel
          have hbs : w.heap.size + 1 ≤ wr.heap.size := by have := hb.size; simp at this; omega
          have hb1 := hb0.trans (hb.mono (Nat.le_succ _))
          have hk := (HP.below hb (Nat.lt_succ_self _)).cell
          by_cases hlt : k < nL
          · obtain ⟨b, o, x, rfl, hbB, hx, htk, hcell⟩ := rd_int hL hlt
            have Htk := Lib.hid htk
            have hc := hcell wr (hb1.mono hB)
            clear hx htk hcell
            go_wp2_with (first
              | (at_builtin; (refine wpList_appK_new rfl _ _ rfl slc (by decide) rfl hown hb hbs rfl (news := (drop_ nx x).cs) rfl (Cg.cs_one _) (by omega) ?_); intro v1 w1 hown1 hb2 hg1 hat1 hs1))
            go_roundw
            case rel => exact ⟨k + 1, by omega, by go_num, by rw [Htk.out]; simpa [Nat.add_assoc] using hown1, hb2⟩
            case measure => simp [intOf]; omega
          · obtain rfl : nL = k := by omega
            rw [List.take_of_length_le (by rw [HlL.out]; exact Nat.le_refl _)] at hown
            have hU2 := hown
            have hbL := hb
            clear hown hb hb1 hbs hlt hk0
            go_wp2
            go_loopw [6, 50] (fun s i wr => ∃ k : Nat, k ≤ n ∧ i = .int .i64 k ∧ OwnK wr (w.heap.size + 1) 46 10 s (nU + nL + k) ((U.map (drop_ lv) ++ (Lo.map (drop_ nx) ++ (L.take k).map (add_ nx))).flatMap Cg.cs) ∧ Below (w.heap.size + 1) (w.alloc (.cells #[.int .i64 lv, .slice AU nU cU, .slice AL nL cL, .slice AF nF cF, .slice AE nE cE, .bool bt] 34)) wr) (fun _ i _ => n - (intOf i).toNat)
            case atStart => exact ⟨0, by omega, rfl, by simpa using hU2, hbL⟩
            case round =>
              obtain ⟨k, hk0, rfl, hown, hb⟩ := hrel
              have hbs : w.heap.size + 1 ≤ wr.heap.size := by have := hb.size; simp at this; omega
              have hb1 := hb0.trans (hb.mono (Nat.le_succ _))
              by_cases hlt : k < n
              · obtain ⟨b, o, m, rfl, hbB, hm, htk, hok, hcell⟩ := hr.cell5 hlt
                have Htk := Lib.hid htk
                obtain ⟨h0, h1', h2', h3, h4⟩ := hcell wr (hb1.mono hB)
                have hlt' : b < wr.heap.size := by omega
                have hk := (Bk.new_ wr 44 #[.int .i64 m.num, .int .i64 m.size, .int .i64 m.cnt, .slice m.A1 m.n1 m.c1, .slice m.A2 m.n2 m.c2]).cell
                clear hm htk hcell hok
                go_wp2_with (first
                  | (at_builtin; (refine wpList_appK_new rfl _ _ rfl slc (by decide) rfl (hown.alloc _) (hb.alloc hbs _) (by simp; omega) (by rw [World.size_alloc]; rfl) (news := (add_ nx m).cs) rfl (Cg.cs_one _) (by omega) ?_); intro v1 w1 hown1 hb2 hg1 hat1 hs1))
                go_roundw
                case rel => exact ⟨k + 1, by omega, by go_num, by rw [Htk.out]; simpa [Nat.add_assoc] using hown1, hb2⟩
                case measure => simp [intOf]; omega
              · obtain rfl : n = k := by omega
                rw [List.take_of_length_le (by rw [Hlr.out]; exact Nat.le_refl _)] at hown
                obtain ⟨Ar, cr, rfl, hcr⟩ := hown.shape
                go_wp2
                go_ret
                refine ⟨Ar, _, cr, edit lv nx U Lo L, rfl, hcr, hown.rd, fun g hg => ?_, rfl, hb1⟩
                unfold edit at hg
                rcases List.mem_append.1 hg with hg | hg
                · obtain ⟨x, _, rfl⟩ := List.mem_map.1 hg
                  exact Mt.zero_ok _ _
                · rcases List.mem_append.1 hg with hg | hg
                  · obtain ⟨x, _, rfl⟩ := List.mem_map.1 hg
                    exact Mt.zero_ok _ _
                  · obtain ⟨x, hx, rfl⟩ := List.mem_map.1 hg
                    exact ((hr.2 x hx).below hb1 hB).more (by omega)
end Go.Proofs.Ytgpbkebmfbbamaa
