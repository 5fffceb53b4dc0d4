/- Layer 24: the law LevelSees: behind a compaction each reader at a number of at least the floor sees what it saw, of all epochs but dead ones: the walk. -/
import Derived.Test.YtgpbkebmfbbamaaSeH
import Derived.Test.YtgpbkebmfbbamaaLvJ
namespace Go.Lec
open Go.RowKit
theorem plen_mem {L : List Pr} {m : Pr} (h : m ∈ L) : m.n1 + m.n2 ≤ plen L := by
  unfold plen
  induction L with
  | nil => cases h
  | cons x L ih =>
    rw [List.map_cons, List.sum_cons]
    rcases List.mem_cons.1 h with rfl | h
    · omega
    · have := ih h; omega
theorem keepP_sub (floor : Int) (bottom : Bool) (dead : List Int) : ∀ (l : List PairB) (last : Option (Nat × List UInt8)) (done : Bool), ∀ p ∈ keepP floor bottom dead last done l, p ∈ l
  | [], _, _, p, h => by simp [keepP] at h
  | q :: qs, last, done, p, h => by
    have ih := keepP_sub floor bottom dead qs
    cases hd : dec q.1 with
    | error e =>
      rw [keepP_err hd] at h
      rcases List.mem_cons.1 h with rfl | h
      · exact List.mem_cons_self
      · exact List.mem_cons_of_mem _ (ih _ _ p h)
    | ok K =>
      cases hdd : dead.contains (K.ep : Int) with
      | true => rw [keepP_dead hd hdd] at h; exact List.mem_cons_of_mem _ (ih _ _ p h)
      | false =>
        rw [keepP_live hd hdd] at h
        rcases List.mem_append.1 h with h | h
        · have h1 : ∀ b : Bool, p ∈ (if b then [q] else []) → p = q := fun b hb => by
            cases b
            · cases hb
            · exact List.mem_singleton.1 hb
          rw [h1 _ h]
          exact List.mem_cons_self
        · exact List.mem_cons_of_mem _ (ih _ _ p h)
theorem viewP_len (s : Int) : ∀ (l : List PairB) (last : Option (Nat × List UInt8)), (viewP s last l).length ≤ l.length
  | [], _ => Nat.le_refl _
  | q :: qs, last => by
    have ih := viewP_len s qs
    cases hd : dec q.1 with
    | error e => rw [viewP_err hd]; have := ih last; simp only [List.length_cons]; omega
    | ok K =>
      by_cases hs : s < K.sq
      · rw [viewP_high hd hs]; have := ih last; simp only [List.length_cons]; omega
      · by_cases hl : last = some (K.ep, K.srt)
        · rw [viewP_same hd hs hl]; have := ih last; simp only [List.length_cons]; omega
        · rw [viewP_new hd hs hl]
          have := ih (some (K.ep, K.srt))
          split <;> (simp only [List.length_append, List.length_cons, List.length_nil]; omega)
theorem inR_all (l : List PairB) : l.filter (inR [] []) = l := List.filter_eq_self.2 fun p _ => inR_nil p
theorem take_contains {l : List Int} {e : Int} {j : Nat} (h : j < l.length) : (l.take (j + 1)).contains e = ((l.take j).contains e || (l[j] == e)) := by
  rw [List.take_succ_eq_append_getElem h, Bool.eq_iff_iff]
  simp only [List.contains_iff_mem, List.mem_append, List.mem_singleton, Bool.or_eq_true, beq_iff_eq]
  constructor <;> (rintro (h | h); exact .inl h; exact .inr h.symm)
/-- Those of live epochs. -/
def liveF (dead : List Int) (x : Key × List UInt8) : Bool := !dead.contains (x.1.ep : Int)
theorem Pr.ok.len1 {w : World} {B : Nat} {m : Pr} (h : m.ok w B) : m.key.length = m.n1 := by have := h.1.1; rwa [bcs_length] at this
end Go.Lec
namespace Go.Proofs.Ytgpbkebmfbbamaa
open Go.RowKit Go.Lec

set_option maxRecDepth 40000 in
set_option maxHeartbeats 3200000 in
theorem w_LevelSees (w : World) {B n c nD cD : Nat} {A AD : Option Addr} {L : List Pr} {dead : List Int} (floor : Int) (bottom : Bool) (more : Int) (hr : Prs w B A n L) (hB : B ≤ w.heap.size) (hc : n ≤ c) (hn : n ≤ 1048576) (hm : ∀ m ∈ L, m.n1 + m.n2 ≤ 4194304) (hrD : Rd w B AD nD (Lec.ics dead)) (hnD : nD ≤ 1048576) :
    Calls Try.prog 5 #[.slice A n c, .int .i64 floor, .bool bottom, .slice AD nD cD, .int .i64 more] w fun e w' => e = .returned (.bool true) ∧ Below w.heap.size w w' := by
  have HM := Lib.hid hm
  clear hm
  go_enter Try.func5, Try.ntmps5
  go_wp2_with fail
  refine (c_awake _).mono ?_
  rintro e w1 ⟨rfl, hb1⟩
  go_wp2_with fail
  refine (c_small w1 (hr.below hb1 hB) (Nat.le_trans hB hb1.size) hn HM.out).mono ?_
  rintro e w2 ⟨rfl, hb2⟩
  have hb2 := hb1.trans (hb2.mono hb1.size)
  clear hb1
  by_cases hs : n + plen L ≤ 5000
  · rw [decide_eq_true hs]
    by_cases hD : nD ≤ 100
    · have hD' : ¬ (100 : Int) < (nD : Int) := by omega
      by_cases hm0 : 0 ≤ more
      · have hm0' : ¬ more < 0 := by omega
        by_cases hm1 : more ≤ 1099511627776
        · have hm1' : ¬ 1099511627776 < more := by omega
          by_cases hf0 : -1099511627776 ≤ floor
          · have hf0' : ¬ floor < -1099511627776 := by omega
            by_cases hf1 : floor ≤ 140737488355328
            · have hf1' : ¬ 140737488355328 < floor := by omega
              go_wp2_with fail
              have hbL := (Below.refl w2.heap.size w2).alloc (Nat.le_refl _) (.cells #[.slice A n c] 51)
              have hbL2 := hb2.trans (hbL.mono hb2.size)
              have hcL := (Bk.new_ w2 51 #[.slice A n c]).cell 0
              refine (c_All _ (g := w2.heap.size) hcL (hr.below hbL2 hB) (Nat.le_trans hB hbL2.size) (by omega)).mono ?_
              rintro e w3 ⟨A3, n3, c3, O, rfl, hc3, hn3, hO, hsub, hpl, hb3⟩
              have hb4 := hbL2.trans (hb3.mono hbL2.size)
              have hnO : n3 ≤ n := by have := hr.len; omega
              have HmO := Lib.hid (show ∀ m ∈ O, m.n1 ≤ 5000 from fun m hm => by have := plen_mem (hsub m hm); omega)
              have Hpl := Lib.hid hpl
              have HlO := Lib.hid hO.len
              clear hpl hsub hb3 hbL hbL2 hcL hb2 HM
              go_wp2_with fail
              refine (c_Keep w3 floor bottom hO (Nat.le_refl _) (by omega) (fun m hm => by have := HmO.out m hm; omega) ((hrD.below hb4 hB).more (Nat.le_trans hB hb4.size)) (by omega)).mono ?_
              rintro e w5 ⟨A5, n5, c5, Kp, rfl, hc5, hK, hplK, hb5⟩
              have HplK := Lib.hid hplK
              have hO5 := hO.below hb5 (Nat.le_refl _)
              have hb6 := hb4.trans (hb5.mono hb4.size)
              have HmK := Lib.hid (show ∀ m ∈ Kp, m.n1 ≤ 5000 from fun m hm => by
                have h1 : m.pl ∈ keepP floor bottom dead none false (O.map Pr.pl) := by rw [← HplK.out]; exact List.mem_map_of_mem hm
                obtain ⟨m0, hm0, e0⟩ := List.mem_map.1 (keepP_sub floor bottom dead _ _ _ _ h1)
                have h2 := HmO.out m0 hm0
                have h3 := (hK.2 m hm).len1
                have h4 := (hO.2 m0 hm0).len1
                have h5 : m0.key = m.key := congrArg Prod.fst e0
                rw [h5] at h4
                omega)
              have hlK := hK.len
              have hnK : n5 ≤ n3 := by
                have := keepP_len floor bottom dead (O.map Pr.pl) none false
                rw [← HplK.out, List.length_map, List.length_map, HlO.out, hlK] at this
                exact this
              have HlK := Lib.hid hlK
              clear hplK hO hb4 hlK
              go_wp2_with fail
              have hO5' := hO5.more hb5.size
              refine (c_View w5 (cF := 0) (cT := 0) (frm := []) (upt := []) (floor + more) hO5' (Rd.nil_ (A := none)) (Rd.nil_ (A := none)) (Nat.le_refl _) (by omega) (fun m hm => by have := HmO.out m hm; omega) (by omega)).mono ?_
              rintro e w7 ⟨A7, n7, c7, F7, rfl, hc7, hF7, hpl7, hb7⟩
              rw [inR_all] at hpl7
              have Hpl7 := Lib.hid hpl7
              have hK7 := (hK.below hb7 (Nat.le_refl _)).more hb7.size
              have hb8 := hb6.trans (hb7.mono hb6.size)
              have hn7 : n7 ≤ n3 := by
                have := viewP_len (floor + more) (O.map Pr.pl) none
                rw [← Hpl7.out, List.length_map, List.length_map, HlO.out, hF7.2.1] at this
                exact this
              clear hpl7 hO5 hO5' hb6 hK
              go_wp2_with fail
              refine (c_View w7 (cF := 0) (cT := 0) (frm := []) (upt := []) (floor + more) hK7 (Rd.nil_ (A := none)) (Rd.nil_ (A := none)) (Nat.le_refl _) (by omega) (fun m hm => by have := HmK.out m hm; omega) (by omega)).mono ?_
              rintro e w9 ⟨A9, n9, c9, F9, rfl, hc9, hF9, hpl9, hb9⟩
              rw [inR_all] at hpl9
              have Hpl9 := Lib.hid hpl9
              have hF7' := (hF7.below hb9 (Nat.le_refl _)).more hb9.size
              have hb10 := hb8.trans (hb9.mono hb8.size)
              have hn9 : n9 ≤ n5 := by
                have := viewP_len (floor + more) (Kp.map Pr.pl) none
                rw [← Hpl9.out, List.length_map, List.length_map, HlK.out, hF9.2.1] at this
                exact this
              have hrD9 := (hrD.below hb10 hB).more (Nat.le_trans hB hb10.size)
              clear hpl9 hF7 hb8 hK7
              go_wp2_with fail
              have hnDl : dead.length = nD := by have := hrD9.1; rwa [Lec.ics_length] at this
              have HnD := Lib.hid hnDl
              have Hl7 := Lib.hid hF7'.2.1
              clear hnDl
              go_loopw [14, 66] (fun v i wr => ∃ (k : Nat) (G : List Fnd), k ≤ n7 ∧ i = .int .i64 k ∧ Gth encFd (fun _ => True) w9 wr 61 G v ∧ G.length ≤ k ∧ Hid (G.map Fnd.pl = ((F7.map Fnd.pl).take k).filter (liveF dead))) (fun _ i _ => n7 - (intOf i).toNat)
              case atStart => exact ⟨0, [], Nat.zero_le _, rfl, Gth.nil _ _ _ _ (Below.refl _ _), Nat.zero_le _, Lib.hid rfl⟩
              case round =>
                obtain ⟨k, G, hk, rfl, hA, hlG, HG⟩ := hrel
                by_cases hlt : k < n7
                · obtain ⟨b, o, m, rfl, hbB, hmk, -, ⟨rm1, rm2, hmc1, hmc2⟩, hcell⟩ := hF7'.fd hlt
                  obtain ⟨h0, h1, h2, h3, h4, h5⟩ := hcell wr hA.below
                  have hbP := (Below.refl wr.heap.size wr).alloc (Nat.le_refl _) (.cells #[.int .i64 m.K.ep, .slice m.A1 (bcs m.K.srt).length m.c1, .int .i64 m.K.sq, .int .i64 m.K.kd, .string ⟨m.K.txt.toArray⟩, .slice m.A2 m.n2 m.c2] 61)
                  have HP := Bk.new_ wr 61 #[.int .i64 m.K.ep, .slice m.A1 (bcs m.K.srt).length m.c1, .int .i64 m.K.sq, .int .i64 m.K.kd, .string ⟨m.K.txt.toArray⟩, .slice m.A2 m.n2 m.c2]
                  have hA1 := hA.grow hbP
                  have hkc := HP.cell
                  have hok := hF7'.2.2 m (List.mem_of_getElem? hmk)
                  have hok1 := hok.below (hA1.below) (Nat.le_refl _)
                  have hlo := hA1.old hok.lt
                  obtain ⟨As, cs, rfl, hcs⟩ := hA.own.shape
                  have hrD1 := hrD9.below hA1.below (Nat.le_refl _)
                  have Hstep : Hid ((((F7.map Fnd.pl).take (k + 1)).filter (liveF dead)) = (((F7.map Fnd.pl).take k).filter (liveF dead)) ++ (if dead.contains (m.K.ep : Int) then [] else [m.pl])) := Lib.hid (by
                    have hk' : k < (F7.map Fnd.pl).length := by rw [List.length_map, Hl7.out]; exact hlt
                    have he : (F7.map Fnd.pl)[k] = m.pl := by
                      have := hmk
                      rw [List.getElem?_eq_some_iff] at this
                      obtain ⟨_, e⟩ := this
                      simp [e]
                    rw [List.take_succ_eq_append_getElem hk', List.filter_append, he]
                    congr 1
                    cases hdc : dead.contains (m.K.ep : Int) <;> simp only [List.filter_cons, liveF, Fnd.pl, hdc] <;> rfl)
                  clear hmk hcell hA hbP hok
                  go_wp2_with fail
                  obtain ⟨W1, hW1⟩ : ∃ W, W = wr.alloc (.cells #[.int .i64 m.K.ep, .slice m.A1 (bcs m.K.srt).length m.c1, .int .i64 m.K.sq, .int .i64 m.K.kd, .string ⟨m.K.txt.toArray⟩, .slice m.A2 m.n2 m.c2] 61) := ⟨_, rfl⟩
                  rw [← hW1] at hA1 hkc hok1 hrD1 HP ⊢
                  clear hW1
                  obtain ⟨ep, hep⟩ : ∃ ep : Int, ep = (m.K.ep : Int) := ⟨_, rfl⟩
                  rw [← hep] at hkc HP Hstep h0 ⊢
                  have Hep := Lib.hid hep
                  clear hep
                  have Hg0 : Hid (false = (dead.take 0).contains ep) := Lib.hid rfl
                  go_loop [17, 72] (fun g i => ∃ (j : Nat) (gb : Bool), j ≤ nD ∧ i = .int .i64 j ∧ g = .bool gb ∧ Hid (gb = (dead.take j).contains ep)) (fun _ i => nD - (intOf i).toNat)
                  case atStart => exact ⟨0, false, Nat.zero_le _, rfl, rfl, Hg0⟩
                  case round =>
                    clear Hg0
                    obtain ⟨j, gb, hj, rfl, rfl, Hgb⟩ := hrel
                    by_cases hjl : j < nD
                    · obtain ⟨bd, od, rfl, hbd, hcd⟩ := hrD1.intAt hjl
                      have hjd : j < dead.length := by rw [HnD.out]; exact hjl
                      have hcd' := hcd j hjd
                      clear hcd
                      obtain ⟨y, hy⟩ : ∃ y, y = dead[j] := ⟨_, rfl⟩
                      rw [← hy] at hcd'
                      have Hs : Hid ((dead.take (j + 1)).contains ep = (gb || (y == ep))) := Lib.hid (by rw [Hgb.out, hy]; exact take_contains hjd)
                      clear hy
                      cases gb
                      · cases hye : (y == ep)
                        · have Hs2 : Hid (false = (dead.take (j + 1)).contains ep) := Lib.hid (by rw [Hs.out, hye]; rfl)
                          go_wp2
                          go_round
                          case rel => exact ⟨j + 1, false, by omega, by go_num, rfl, Hs2⟩
                          case measure => simp [intOf]; omega
                        · have Hs2 : Hid (true = (dead.take (j + 1)).contains ep) := Lib.hid (by rw [Hs.out, hye]; rfl)
                          go_wp2
                          go_round
                          case rel => exact ⟨j + 1, true, by omega, by go_num, rfl, Hs2⟩
                          case measure => simp [intOf]; omega
                      · have Hs2 : Hid (true = (dead.take (j + 1)).contains ep) := Lib.hid (by rw [Hs.out]; rfl)
                        go_wp2
                        go_round
                        case rel => exact ⟨j + 1, true, by omega, by go_num, rfl, Hs2⟩
                        case measure => simp [intOf]; omega
                    · obtain rfl : j = nD := by omega
                      have hgd : gb = dead.contains ep := by rw [Hgb.out, List.take_of_length_le (by rw [HnD.out]; exact Nat.le_refl _)]
                      have Hgd := Lib.hid hgd
                      clear hgd Hgb
                      cases gb
                      · have Hs2 : Hid (((F7.map Fnd.pl).take (k + 1)).filter (liveF dead) = ((F7.map Fnd.pl).take k).filter (liveF dead) ++ [m.pl]) := Lib.hid (by rw [Hstep.out, ← Hgd.out]; rfl)
                        go_wp2_with (first
                          | (at_builtin; (refine wpList_appK_new rfl _ _ rfl slf (by decide) rfl hA1.own hA1.below hA1.below.size rfl (news := [.int .i64 ep, .slice m.A1 (bcs m.K.srt).length m.c1, .int .i64 m.K.sq, .int .i64 m.K.kd, .string ⟨m.K.txt.toArray⟩, .slice m.A2 m.n2 m.c2]) rfl (by rw [Hep.out]; exact encFd.one m) (by omega) ?_); intro v8 w8 ho8 hb8 hg8 hat8 hs8))
                        replace hat8 : v8.ownBlock = (Value.slice As G.length cs).ownBlock ∨ ∃ g, v8.ownBlock = some g ∧ W1.heap.size ≤ g := hat8
                        replace hg8 : W1.grownBy w8 (Value.slice As G.length cs).ownBlock := hg8
                        have hA8 : Gth encFd (fun _ => True) w9 w8 61 (G ++ [m]) v8 := hA1.snoc (hok1.more hA1.below.size) hlo (fun _ _ _ _ _ => trivial) (by rw [Hep.out] at ho8; exact ho8) hg8 hat8 hb8
                        clear hat8 hg8 ho8 hA1 hok1 hlo
                        go_roundw
                        case rel => exact ⟨k + 1, G ++ [m], by omega, by go_num, hA8, by simp; omega, Lib.hid (by rw [Hs2.out, List.map_append, HG.out]; rfl)⟩
                        case measure => simp [intOf]; omega
                      · have Hs2 : Hid (((F7.map Fnd.pl).take (k + 1)).filter (liveF dead) = ((F7.map Fnd.pl).take k).filter (liveF dead)) := Lib.hid (by rw [Hstep.out, ← Hgd.out]; simp)
                        go_wp2
                        go_roundw
                        case rel => exact ⟨k + 1, G, by omega, by go_num, hA1, by omega, Lib.hid (by rw [Hs2.out, HG.out])⟩
                        case measure => simp [intOf]; omega
                · obtain rfl : k = n7 := by omega
                  obtain ⟨As, cs, rfl, hcs⟩ := hA.own.shape
                  have hfin : F9.map Fnd.pl = G.map Fnd.pl := by
                    rw [HG.out, List.take_of_length_le (by rw [List.length_map, Hl7.out]; exact Nat.le_refl _), Hpl9.out, Hpl7.out, HplK.out]
                    exact sees_law dead floor (floor + more) (by omega) bottom (by rw [Hpl.out]; exact allL_srt _)
                  have hE := hA.els rfl
                  have hF9' := (hF9.below hA.below (Nat.le_refl _)).more hA.below.size
                  have hbe := hb10.trans (hA.below.mono hb10.size)
                  have Hfin := Lib.hid hfin
                  clear hfin HG hA hF9
                  go_wp2_with fail
                  refine (c_Same wr hF9' hE (Nat.le_refl _) Hfin.out (by omega)).mono ?_
                  rintro e w11 ⟨rfl, hb11⟩
                  have hbf := hbe.trans (hb11.mono hbe.size)
                  go_wp2
                  go_ret
                  exact ⟨rfl, hbf⟩
            · have h' : 140737488355328 < floor := by omega
              go_wp2
              go_ret
              exact ⟨rfl, hb2⟩
          · have h' : floor < -1099511627776 := by omega
            go_wp2
            go_ret
            exact ⟨rfl, hb2⟩
        · have h' : 1099511627776 < more := by omega
          go_wp2
          go_ret
          exact ⟨rfl, hb2⟩
      · have h' : more < 0 := by omega
        go_wp2
        go_ret
        exact ⟨rfl, hb2⟩
    · have h' : (100 : Int) < (nD : Int) := by omega
      go_wp2
      go_ret
      exact ⟨rfl, hb2⟩
  · rw [decide_eq_false hs]
    go_wp2
    go_ret
    exact ⟨rfl, hb2⟩
end Go.Proofs.Ytgpbkebmfbbamaa
