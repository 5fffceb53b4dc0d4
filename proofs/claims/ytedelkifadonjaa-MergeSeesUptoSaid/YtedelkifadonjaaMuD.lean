/- Layer 23: MergeSees: what View tells of several lists is what the document's View lists. -/
import Derived.Test.YtedelkifadonjaaMuA
namespace Go.Proofs.Ytedelkifadonjaa
open Go.RowKit Go.Lec Go.Op
attribute [local go_sem] Oper.semAt_some
set_option maxRecDepth 100000 in
set_option maxHeartbeats 4000000 in
theorem w_MergeSees (w : World) {B B1 B2 n c nf cf nt ct : Nat} {A Af At : Option Addr} {Ls : List (Sl Pr)} {frm upt : List UInt8} {sq : Int} (hl : Lists w B n A Ls) (hf : Rd w B1 Af nf (bcs frm)) (ht : Rd w B2 At nt (bcs upt)) (hB1 : B1 ≤ w.heap.size) (hB2 : B2 ≤ w.heap.size) (hnf : nf ≤ 1048576) (hnt : nt ≤ 1048576) :
    Calls Try.prog 3 #[.slice A n c, .slice Af nf cf, .slice At nt ct, .int .i64 sq] w (BoolP w true) := by
  have HA := c_awake w
  unfold BoolP at HA
  have HA := Lib.hid HA
  have HL := Lib.hid (fun (V : World) (hV : Below w.heap.size w V) => hl.below hV)
  have HRf := Lib.hid (fun (V : World) (hV : Below w.heap.size w V) => (hf.below hV hB1).more hB1)
  have HRt := Lib.hid (fun (V : World) (hV : Below w.heap.size w V) => (ht.below hV hB2).more hB2)
  have Hl := Lib.hid hl
  clear hl hf ht
  refine (callsIn_wide (n := 9)).1 ?_
  refine callsIn_of_wp_marks Try.func3 rfl trivial ?_ rfl
  simp only [Try.ntmps3, List.size_toArray, List.length_cons, List.length_nil, Nat.reduceAdd, Nat.reduceSub, Array.replicate_succ, Array.replicate_zero, List.push_toArray, List.append_toArray, List.nil_append, List.cons_append]
  refine wpIn_wide.2 ?_
  go_wp2_with fail
  refine HA.out.mono ?_
  rintro e w1 ⟨rfl, hb1⟩
  have l1 := HL.out w1 hb1
  have HF := c_fewM w1 (c := c) l1.els l1.hB (by have := l1.n; omega) (fun s hs => by have := l1.ns s hs; omega) (by have := l1.tot; omega)
  unfold BoolP at HF
  clear HA
  by_cases hfew : totM (Ls.map Sl.pls) ≤ 5000
  · rw [decide_eq_true hfew] at HF
    have HF := Lib.hid HF
    obtain ⟨f1, f2, f3⟩ := Hl.out.few hfew
    have HKey := Lib.hid (fun (p : PairB) (hp : p ∈ allL (Ls.map Sl.pls).flatten) => Nat.le_trans (key_tot (all_key hp)) hfew)
    clear l1 hfew
    by_cases h1000 : 1000 < nf + nt
    · have h1000' : decide ((1000 : Int) < (nf : Int) + (nt : Int)) = true := decide_eq_true (by omega)
      go_wp2_with fail
      refine HF.out.mono ?_
      rintro e w2 ⟨rfl, hb2⟩
      have hb02 := hb1.trans (hb2.mono hb1.size)
      go_wp2
      exact ⟨.bool true, by simp [results, Try.results3, go_sem], rfl, hb02⟩
    · have h1000' : decide ((1000 : Int) < (nf : Int) + (nt : Int)) = false := decide_eq_false (by omega)
      go_wp2_with fail
      refine HF.out.mono ?_
      rintro e w2 ⟨rfl, hb2⟩
      have hb02 := hb1.trans (hb2.mono hb1.size)
      have l2 := HL.out w2 hb02
      have HW := c_AllM w2 (cc := c) l2.els l2.hB (by omega) (by omega)
      unfold AllPost at HW
      have HW := Lib.hid HW
      have Hb02 := Lib.hid hb02
      clear HF hb1 hb2 hb02 l2 h1000
      go_wp2_with fail
      refine HW.out.mono ?_
      rintro e w3 ⟨Aw, nw, cw, O, rfl, hncw, hnl, hO, hOm, hOp, hb3⟩
      obtain ⟨all, hall⟩ : ∃ all, all = allL (Ls.map Sl.pls).flatten := ⟨_, rfl⟩
      rw [← hall] at HKey
      have hOa : O.map Pr.pl = all := by rw [hOp, flat_pls, hall]
      have hal : all.length ≤ 5000 := by
        rw [hall]
        have h1 := (allL_all (Ls.map Sl.pls).flatten)
        rw [← flat_pls]
        exact Nat.le_trans (allL_len _) (by rw [List.length_map]; exact f2)
      have hb03 := Hb02.out.trans (hb3.mono Hb02.out.size)
      have HVw := c_View w3 (c := cw) (cF := cf) (cT := ct) sq hO ((HRf.out w3 hb03).more hb03.size) ((HRt.out w3 hb03).more hb03.size) (Nat.le_refl _) (by omega) (fun m hm => by
        have h1 := HKey.out m.pl (by rw [← hOa]; exact List.mem_map.2 ⟨m, hm, rfl⟩)
        have h2 := (hO.2 m hm).1.1
        rw [bcs_length] at h2
        have h3 : m.pl.1.length = m.key.length := rfl
        omega) (by omega)
      rw [hOa] at HVw
      have hsrt : Srt all := by rw [hall]; exact (allL_all _).srt
      rw [← part_law hsrt] at HVw
      have HVw := Lib.hid HVw
      have Hb03 := Lib.hid hb03
      have Hal := Lib.hid hal
      have Hall := Lib.hid hall
      clear HW hO hOm hOp hOa hb3 hb03 hsrt hal hall
      go_wp2_with fail
      refine HVw.out.mono ?_
      rintro e w4 ⟨Av, nv, cv, Fv, rfl, hncv, hEv, hFv, hb4⟩
      have hb04 := Hb03.out.trans (hb4.mono Hb03.out.size)
      have l4 := HL.out w4 hb04
      have HSr := c_sources w4 (c := c) l4.els l4.hB (by omega) (fun s hs => by have := f3 s hs; omega)
      unfold SourcesP at HSr
      have HSr := Lib.hid HSr
      have Hlen := Lib.hid (show Ls.length = n from Hl.out.els.2.1)
      have Hb04 := Lib.hid hb04
      have HEv := Lib.hid hEv
      have HFv := Lib.hid hFv
      clear HVw hb4 hb04 l4 hEv hFv
      go_wp2_with fail
      refine HSr.out.mono ?_
      rintro e w5 ⟨D, Ss, A4, c4, rfl, hS⟩
      have HN := c_New w5 (c := c4) (rd_ownK hS.own) (Nat.le_refl _) hS.srcs (by rw [hS.len, Hlen.out]; omega) (fun b hb => (hS.dlt b hb).2)
      unfold NewP at HN
      have HN := Lib.hid HN
      have HS := Lib.hid hS
      clear hS HSr
      go_wp2_with fail
      refine HN.out.mono ?_
      rintro e w6 ⟨X, D5, rfl, hI5, hX5, hb5, hg5, hib5, hhb5⟩
      have hN := it_new HS.out hI5 hX5 hb5 hg5 hib5 hhb5 Hlen.out f1
      rw [← Hall.out] at hN
      have HNw := Lib.hid hN
      have HmV := Lib.hid (c_mView w6 (ib := X.ib) (Af := Af) (nf := nf) (cf := cf) (At := At) (nt := nt) (ct := ct) (sq := sq))
      clear HN HS hI5 hX5 hb5 hg5 hib5 hhb5 hN
      go_wp2_with fail
      refine HmV.out.mono ?_
      rintro e w7 ⟨rfl, hw7⟩
      have hb06 := Hb04.out.trans (HNw.out.below.mono Hb04.out.size)
      obtain ⟨hC7, hb67, hz7⟩ := caps_new w6 (X := X) (cf := cf) (ct := ct) sq (HRf.out w6 hb06) (HRt.out w6 hb06) (Nat.le_trans (Nat.le_refl _) hb06.size) hw7
      have HC7 := Lib.hid hC7
      have Hb67 := Lib.hid hb67
      have Hb06 := Lib.hid hb06
      clear hC7 hb67 hb06 hw7 HmV
      have hnf := run_eql_seq
      go_wp2_with fail
      clear hnf
      have hN := HNw.out
      have hz46 := hN.below.size
      have hz67 := Hb67.out.size
      have hz04 := Hb04.out.size
      have hcf : 0 < nf → ∀ a, Af = some a → a.block < w.heap.size := fun hn a e => by
        obtain ⟨b, o, e', hb, _⟩ := (HRf.out w (Below.refl _ _)).2 hn
        rw [e] at e'; cases e'; exact hb
      have hct : 0 < nt → ∀ a, At = some a → a.block < w.heap.size := fun hn a e => by
        obtain ⟨b, o, e', hb, _⟩ := (HRt.out w (Below.refl _ _)).2 hn
        rw [e] at e'; cases e'; exact hb
      have hcb : ∀ b, CbV w6.heap.size Af nf At nt b → b < w.heap.size ∨ (w6.heap.size ≤ b ∧ b < w6.heap.size + 4) := fun b hb => by
        rcases hb with ⟨hn, a, e, rfl⟩ | ⟨hn, a, e, rfl⟩ | h
        · exact .inl (hcf hn a e)
        · exact .inl (hct hn a e)
        · exact .inr h
      have hcx : ∀ b, CbV w6.heap.size Af nf At nt b → b ∉ X.ctl := fun b hb hx => by
        have := hN.ctl b hx
        have := hcb b hb
        omega
      have hcl : ∀ b, CbV w6.heap.size Af nf At nt b → b < w7.heap.size := fun b hb => by have := hcb b hb; omega
      have hkey : ∀ p ∈ all, p.1.length ≤ 1099511627 := fun p hp => by have := HKey.out p hp; omega
      have hal := Hal.out
      have hXn := hN.n
      have hb47 := hN.below.trans (Hb67.out.mono hN.below.size)
      have Hcb := Lib.hid hcb
      have Hcx := Lib.hid hcx
      have Hkey := Lib.hid hkey
      have Hcl := Lib.hid hcl
      clear hcb hcx hcl hkey hcf hct
      refine wp_meetD (fun D W => w7.heap.size ≤ D ∧ Below w4.heap.size w4 W ∧ VCaps w6.heap.size (w6.heap.size + 1) (w6.heap.size + 1 + 1) (w6.heap.size + 1 + 1 + 1) X Af nf cf At nt ct sq frm upt (CbV w6.heap.size Af nf At nt) W ∧ UIt X (0 + 10002 * X.Hs.length) (fun b => b = D) W ∧ W.heap[D]? = some (.deferred (some []))) ?_ ?_
      · refine wp_named fun a0 ha0 => ?_
        refine (wpIn_wide (n := 9)).1 ?_
        have hV := view_H 8 (by omega) (M := 0) (sx := w6.heap.size) (fb := w6.heap.size + 1) (tb := w6.heap.size + 1 + 1) (qb := w6.heap.size + 1 + 1 + 1) (Af := Af) (nf := nf) (cf := cf) (At := At) (nt := nt) (ct := ct) (sq := sq) (frm := frm) (upt := upt) (Cb := CbV w6.heap.size Af nf At nt) w7 hN.mks (by omega) (by omega) (by omega) Hcx.out Hcl.out Hkey.out
        refine range_H (n := 9) (by omega) (gf := 21) (lb := #[.pointer (some ⟨w6.heap.size, 0, none⟩), .pointer (some ⟨w6.heap.size + 1, 0, none⟩), .pointer (some ⟨w6.heap.size + 1 + 1, 0, none⟩), .pointer (some ⟨w6.heap.size + 1 + 1 + 1, 0, none⟩)]) (by rw [ha0]; rfl) (enters_of Try.func21 (by kernel_rfl) rfl) (fun y b h => h.1) hV (fun b hb => by have := hN.ctl b hb; omega) (Below.refl _ _) (fun _ => rfl)
          (G0 := fun _ => False) (fun _ h => h.elim)
          (fun W' hW' => ⟨hN.uit.keep (Kx.new_ (Hb67.out.trans (hW'.mono Hb67.out.size))) (fun b hb => .inl (hb.elim (fun h => h.elim) (fun h => .inr (by omega)))), HC7.out.kx (Kx.new_ hW' : Kx (fun _ => False) w7 W') (fun _ _ h => h), fun b hb hg => by have := Hcl.out b hb; exact hg.elim (fun h => h) (fun h => by omega)⟩)
          (fun G G' W W' h hs hk => h.keep hk (fun b hb => .inl (hs b hb)))
          (fun pre G W => pre = [] ∧ Below w4.heap.size w4 W ∧ VCaps w6.heap.size (w6.heap.size + 1) (w6.heap.size + 1 + 1) (w6.heap.size + 1 + 1 + 1) X Af nf cf At nt ct sq frm upt (CbV w6.heap.size Af nf At nt) W)
          (fun c' pre G W => c' = .exit 0 ∧ Below w4.heap.size w4 W ∧ VCaps w6.heap.size (w6.heap.size + 1) (w6.heap.size + 1 + 1) (w6.heap.size + 1 + 1 + 1) X Af nf cf At nt ct sq frm upt (CbV w6.heap.size Af nf At nt) W)
          (fun s G V V' h hk => ⟨h.1, h.2.1.trans (hk.below (fun b hb => hb.1.elim (fun h => (hN.ctl b h).1) (fun h => by omega)) h.2.1.size), h.2.2.kx hk (fun b hb hy => hy.1.elim (fun h => Hcx.out b hb h) (fun h => by have := Hcl.out b hb; omega))⟩)
          ⟨rfl, hb47, HC7.out⟩
          (fun pre x G a' W => Below w4.heap.size w4 W ∧ VCaps w6.heap.size (w6.heap.size + 1) (w6.heap.size + 1 + 1) (w6.heap.size + 1 + 1 + 1) X Af nf cf At nt ct sq frm upt (CbV w6.heap.size Af nf At nt) W)
          (fun pre x G a' V V' h hk => ⟨h.1.trans (hk.below (fun b hb => by omega) h.1.size), h.2.kx hk (fun b hb hy => by have := Hcl.out b hb; omega)⟩)
          ?assign ?body ?done ?stop
          (fun c' s G V V' h hk => ⟨h.1, h.2.1.trans (hk.below (fun b hb => by omega) h.2.1.size), h.2.2.kx hk (fun b hb hy => by have := Hcl.out b hb; omega)⟩)
        case assign =>
          rintro l pre x G W ⟨h1, h2, h3⟩ hy hg
          gi_wp2
          exact ⟨G, Kx.refl _ _, fun b hb => .inl hb, h2, h3⟩
        case body =>
          rintro l pre x G a' W ⟨h2, h3⟩ hlen
          gi_wp2
          exact ⟨fun _ => False, Kx.refl _ _, fun _ h => h.elim, rfl, h2, h3⟩
        case done =>
          rintro D xs G W hD hnG hS ⟨h1, h2, h3⟩ hE hK
          exact ⟨.inl rfl, D, by rw [ha0], hD, h2, h3, hE.sub (fun b hb => .inr hb), hK⟩
        case stop =>
          rintro D c' pre G W hD hnG hS ⟨rfl, h2, h3⟩ hE hK
          exact wpIn_exit ⟨.inr rfl, D, by rw [ha0], hD, h2, h3, hE.sub (fun b hb => .inr hb), hK⟩
      · rintro D1 W1 ⟨hD1, hbW1, hCW1, hUW1, hDW1⟩
        dsimp only
        go_wp2_with fail
        have hbA := (Below.refl W1.heap.size W1).alloc (Nat.le_refl _) (.cells #[.slice none 0 0] 26)
        have NA := Bk.new_ W1 26 #[.slice none 0 0]
        obtain ⟨W2, hW2⟩ : ∃ x, x = W1.alloc (.cells #[.slice none 0 0] 26) := ⟨_, rfl⟩
        have hzA : W2.heap.size = W1.heap.size + 1 := by rw [hW2]; simp
        rw [← hW2] at hbA NA ⊢
        clear hW2
        obtain ⟨gb, hgb⟩ : ∃ x, x = W1.heap.size := ⟨_, rfl⟩
        rw [← hgb] at NA ⊢
        have hD1l : D1 < W1.heap.size := (Array.getElem?_eq_some_iff.1 hDW1).1
        have hb4W : w4.heap.size ≤ W1.heap.size := hbW1.size
        have hbW2 := hbW1.trans (hbA.mono hb4W)
        have hD2 : W2.heap[D1]? = some (.deferred (some [])) := (hbA.block D1 hD1l).trans hDW1
        have h0 : GtR w4.heap.size gb W2.heap.size (fun _ => False) (· ∈ X.ctl) [] [] w4 [(D1, .deferred (some []))] [] (fun b => b = gb ∨ b = D1) W2 :=
          ⟨none, 0, ⟨NA, OwnK.nil_ _ _ _ _, fun a e => (by cases e), fun m hm => (by cases hm), fun m hm => (by cases hm), fun y hy => (by cases hy), fun b h hg => h.elim (fun h => h) (fun hx => by have := hN.ctl b hx; omega), .inl rfl, by omega, fun b hb => by omega⟩, hbW2, fun p hp => by
            rw [List.mem_singleton] at hp; subst hp; exact ⟨.inr rfl, hD2, by dsimp only; omega, fun a e => (by cases e), by dsimp only; omega⟩⟩
        have hge : w4.heap.size ≤ gb ∧ gb < W2.heap.size := by omega
        refine wp_named fun a0 ha0 => ?_
        refine (wpIn_wide (n := 9)).1 ?_
        have hV := view_H 8 (by omega) (M := 0 + 10002 * X.Hs.length) (sx := w6.heap.size) (fb := w6.heap.size + 1) (tb := w6.heap.size + 1 + 1) (qb := w6.heap.size + 1 + 1 + 1) (Af := Af) (nf := nf) (cf := cf) (At := At) (nt := nt) (ct := ct) (sq := sq) (frm := frm) (upt := upt) (Cb := CbV w6.heap.size Af nf At nt) W2 hN.mks (by omega) (by omega) (by omega) Hcx.out (fun b hb => by have := Hcl.out b hb; omega) Hkey.out
        obtain ⟨V, hVV⟩ : ∃ V, V = viewP sq none (partL all frm upt) := ⟨_, rfl⟩
        rw [← hVV] at hV
        have hVl : V.length ≤ 5000 := by
          rw [hVV]
          refine Nat.le_trans (viewP_le _ _ _) (Nat.le_trans ?_ hal)
          unfold partL
          refine Nat.le_trans (List.takeWhile_prefix _).length_le ?_
          rw [List.length_drop]; omega
        have HVV := Lib.hid hVV
        clear hVV
        refine range_H (n := 9) (by omega) (gf := 21) (lb := #[.pointer (some ⟨w6.heap.size, 0, none⟩), .pointer (some ⟨w6.heap.size + 1, 0, none⟩), .pointer (some ⟨w6.heap.size + 1 + 1, 0, none⟩), .pointer (some ⟨w6.heap.size + 1 + 1 + 1, 0, none⟩)]) (by rw [ha0]; rfl) (enters_of Try.func21 (by kernel_rfl) rfl) (fun y b h => h.1) hV (fun b hb => by have := hN.ctl b hb; omega) (Below.refl _ _) (fun _ => rfl)
          (G0 := fun b => b = gb ∨ b = D1) (fun b hb => by omega)
          (fun W' hW' => ⟨hUW1.keep (Kx.new_ (hbA.trans (hW'.mono (by omega)))) (fun b hb => by
              rcases hb with (h | h) | h
              · exact .inr (by omega)
              · exact .inl h
              · exact .inr (by omega)), hCW1.kx (Kx.new_ (hbA.trans (hW'.mono (by omega))) : Kx (fun _ => False) W1 W') (fun _ _ h => h), fun b hb hg => by
              have := Hcl.out b hb
              rcases hg with (h | h) | h <;> omega⟩)
          (fun G G' W W' h hs hk => h.keep hk (fun b hb => .inl (hs b hb)))
          (fun pre G W => GtR w4.heap.size gb W2.heap.size (fun _ => False) (· ∈ X.ctl) [] [] w4 [(D1, .deferred (some []))] pre G W)
          (fun _ _ _ _ => False)
          (fun s G V' V'' h hk => h.kx hk (fun b hb hg => by
              obtain ⟨A0, c0, h1, _⟩ := h
              exact hb.1.elim (fun hx => h1.no b (.inr hx) hg) (fun h => h.2 hg)) (fun _ _ h => h) (fun b hb => hb.2) (fun b hb => hb.1.elim (fun hx => (hN.ctl b hx).1) (fun h => by omega)) (Nat.le_refl _))
          h0
          (fun pre x G a' W => ∃ xb, GtAll w4.heap.size gb (fun _ => False) (· ∈ X.ctl) [] [] w4 [(D1, .deferred (some []))] W2.heap.size V pre x G xb W ∧ a' = { tmps := (a0.tmps.setIfInBounds 45 (.agg #[.int .i64 x.F.K.ep, .slice x.F.A1 (bcs x.F.K.srt).length x.F.c1, .int .i64 x.F.K.sq, .int .i64 x.F.K.kd, .string ⟨x.F.K.txt.toArray⟩, .slice x.F.A2 x.F.n2 x.F.c2])).setIfInBounds 12 (.pointer (some ⟨xb, 0, none⟩)), defers := [] })
          (fun pre x G a' V' V'' h hk => by
            obtain ⟨xb, h1, h2⟩ := h
            exact ⟨xb, h1.kx hk (fun b hb => hb.1.2) (fun _ _ h => h) (fun b hb => hb.2) (fun b hb => by have := hb.1.1; omega) (Nat.le_refl _), h2⟩)
          ?assign ?body ?done ?stop (fun _ _ _ _ _ h => h.elim)
        case stop =>
          rintro D c' pre G W hD hnG hS h hE hK
          exact h.elim
        case assign =>
          clear hgb
          rintro l pre x G W h hy hg
          have hA := h.assign hy hg (fun b h => h.elim (fun h => h.elim) (fun hx => (by have := hN.ctl b hx; omega : b < W2.heap.size))) (by have := hy.2.2.2.2.2; exact this) (Nat.le_refl _)
          have HA := Lib.hid hA
          clear hA h
          unfold Vx.val
          rw [ha0]
          gi_wp2
          exact ⟨_, Kx.new_ ((Below.refl W.heap.size W).alloc (Nat.le_refl _) _), fun b hb => hb.imp id (fun h => h.1), W.heap.size, HA.out, rfl⟩
        case body =>
          clear hgb
          rintro l pre x G a' W ⟨xb, ⟨A0, c0, h1, h2, h3, h6, h7⟩, rfl⟩ hlen
          rw [ha0]
          simp only [List.setIfInBounds_toArray, List.set_cons_zero, List.set_cons_succ]
          obtain ⟨q, hq⟩ : ∃ q, q = (([] : List Fnd) ++ pre.map Vx.F).length := ⟨_, rfl⟩
          have hown := h1.own
          have gc := h1.bk.cell 0
          rw [← hq] at hown gc
          have xc := h7.bx.cell
          have hpl : q + 1 ≤ 137438953472 := by rw [hq]; simp; omega
          have Hq := Lib.hid hq
          have Hown := Lib.hid hown
          have Hpl := Lib.hid hpl
          have H1 := Lib.hid h1
          have H2 := Lib.hid h2
          have H3 := Lib.hid h3
          have H6 := Lib.hid h6
          have H7 := Lib.hid h7
          have hw4W : w4.heap.size ≤ W.heap.size := h2.1.size
          clear h1 h2 h3 h6 h7 hpl hq hown
          gi_wp2_with (gi_at_builtin; refine listIn_step1 rfl (by intro c h; cases h) (fun K hK => wpList_appK_new (w := W) (w0 := W) rfl (.tmp 46) (.tmp 48) rfl slf (by decide) rfl Hown.out (Below.refl _ _) hw4W rfl (news := x.F.cs) rfl (encFd.one x.F) Hpl.out (fun v3 w3 ho3 hb3 hg3 hat3 hs3 => wpList_nil (hK _ _ ?_))); obtain ⟨A3, c3, rfl, hbk3, hI3, hk3, hl3⟩ := H1.out.snoc Hq.out H2.out hge.1 (Nat.le_refl _) H3.out H7.out (fun b h => h.elim (fun h => h.elim) (fun hx => (by have := hN.ctl b hx; omega : b < W2.heap.size))) ho3 hg3 hat3; have q3 := hbk3.cell 0; have z3 := hbk3.frz 0)
          exact ⟨fun b => G b ∨ (x.lo ≤ b ∧ b < w3.heap.size), hk3, fun b hb => ⟨hl3 b hb, hb.imp id (fun h => h.1)⟩, hI3⟩
        case done =>
          clear hgb
          rintro D2 xs G W hDD hnG hS ⟨A0, c0, hI, hKp⟩ hE hK
          have hbW := hKp.1
          have hEW := (HEv.out.below hbW (Nat.le_refl _)).more hbW.size
          obtain ⟨q, hq⟩ : ∃ q, q = (([] : List Fnd) ++ xs.map Vx.F).length := ⟨_, rfl⟩
          have hEg := hI.els
          have gc := hI.bk.cell 0
          rw [← hq] at hEg gc
          have HSm := Lib.hid (c_Same W (c1 := c0) (c2 := cv) hEg hEW (Nat.le_refl _) (by
            rw [HFv.out]
            have h2 := hS
            rw [HVV.out] at h2
            unfold partL at h2
            rw [List.nil_append, List.map_map]
            exact h2) (by
            have h1 := congrArg List.length hS
            rw [List.length_map] at h1
            rw [hq]; simp; omega))
          have HK := Lib.hid hK
          have HKp := Lib.hid hKp
          clear hEg hEW hq hK hKp hI hS
          rw [ha0]
          dsimp only
          go_wp2_with fail
          refine HSm.out.mono ?_
          rintro e W4 ⟨rfl, hb4⟩
          go_wp2
          have hKa := (hb4.block D2 (Array.getElem?_eq_some_iff.1 HK.out).1).trans HK.out
          have hD1K := (HKp.out.2 (D1, .deferred (some [])) (List.mem_singleton.2 rfl)).2.1
          have hKb := (hb4.block D1 (Array.getElem?_eq_some_iff.1 hD1K).1).trans hD1K
          have hbf := Hb04.out.trans ((HKp.out.1.trans (hb4.mono HKp.out.1.size)).mono hz04)
          have hne : D1 ≠ D2 := by omega
          have hKc := ((grownBy_putObj' W4 D2 (.deferred none)).block D1 (Array.getElem?_eq_some_iff.1 hKb).1 (fun e => hne (Option.some.inj e))).trans hKb
          refine ⟨by simp, .inl ⟨_, _, rfl, run_takeDeferred hKa, ?_⟩⟩
          refine ⟨by simp, .inl ⟨_, _, rfl, run_takeDeferred hKc, ?_⟩⟩
          have hbg := (hbf.grown (grownBy_putObj' W4 D2 (.deferred none)) hbf.size (fun k e => by cases e; omega)).grown (grownBy_putObj' _ D1 (.deferred none)) (by simp; have := hbf.size; omega) (fun k e => by cases e; omega)
          exact ⟨.bool true, by simp [results, Try.results3, go_sem], rfl, hbg⟩
  · rw [decide_eq_false hfew] at HF
    go_wp2_with fail
    refine HF.mono ?_
    rintro e w2 ⟨rfl, hb2⟩
    have hb02 := hb1.trans (hb2.mono hb1.size)
    go_wp2
    exact ⟨.bool true, by simp [results, Try.results3, go_sem], rfl, hb02⟩
#print axioms w_MergeSees
end Go.Proofs.Ytedelkifadonjaa
