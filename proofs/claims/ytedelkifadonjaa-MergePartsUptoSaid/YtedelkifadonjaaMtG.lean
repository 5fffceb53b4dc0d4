/- Layer 23: the newest of a key, by going on from a place (Newest). -/
import Derived.Test.YtedelkifadonjaaMtF
import Derived.Test.YtedelkifadonjaaKeyX
import Derived.Test.YtedelkifadonjaaSeG
import Derived.Test.YtedelkifadonjaaMtE
import Derived.Test.YtedelkifadonjaaSeH
namespace Go.Proofs.Ytedelkifadonjaa
open Go.RowKit Go.Lec Go.Op
theorem prefix_take (p l : List UInt8) : p.isPrefixOf l = decide (l.take p.length = p) := by
  rw [Bool.eq_iff_iff, List.isPrefixOf_iff_prefix, decide_eq_true_eq]
  exact ⟨fun h => (List.prefix_iff_eq_take.1 h).symm, fun h => List.prefix_iff_eq_take.2 h.symm⟩
theorem prefix_long {p l : List UInt8} (h : l.length < p.length) : p.isPrefixOf l = false := by
  rw [prefix_take]
  refine decide_eq_false fun e => ?_
  have := congrArg List.length e
  rw [List.length_take] at this
  omega
set_option maxRecDepth 100000 in
/-- bytes.HasPrefix. -/
theorem c_nHas (w : World) {B B2 : Nat} {A A2 : Option Addr} {n c n2 c2 : Nat} {l p : List UInt8} (hr : Rd w B A n (bcs l)) (hr2 : Rd w B2 A2 n2 (bcs p)) (hc : n ≤ c) :
    Calls Try.prog 30 #[.slice A n c, .slice A2 n2 c2] w fun e w' => e = .returned (.bool (p.isPrefixOf l)) ∧ w' = w := by
  have hl : l.length = n := by have := hr.1; rwa [bcs_length] at this
  have hp : p.length = n2 := by have := hr2.1; rwa [bcs_length] at this
  by_cases h : n2 ≤ n
  · have hle : (n2 : Int) ≤ (n : Int) := by omega
    have hcut := fun W => run_cutH (P := Try.prog) slb A n c n2 (by omega) .i64 (n2 : Int) rfl W
    have hr1 : Rd w B A n2 (bcs (l.take n2)) := by rw [bcs_take]; exact ⟨by rw [List.length_take, bcs_length]; omega, fun h0 => by
      obtain ⟨b, o, e, hb, hcc⟩ := hr.2 (by omega)
      exact ⟨b, o, e, hb, fun i u hu => hcc i u (by rw [List.getElem?_take] at hu; split at hu <;> first | exact hu | cases hu)⟩⟩
    have HE := Lib.hid (c_bEqual w (c := c) (c2 := c2) hr1 hr2)
    have e := prefix_take p l
    rw [hp] at e
    rw [e]
    clear hr hr2 hr1 hl hp e h
    go_enter Try.func30, Try.ntmps30
    go_wp2_with (first | (go_at_call 41; refine HE.out.mono ?_; rintro e w1 ⟨rfl, rfl⟩))
    go_ret
    exact ⟨rfl, rfl⟩
  · have hle : ¬ (n2 : Int) ≤ (n : Int) := by omega
    rw [prefix_long (by omega)]
    clear hr hr2 hl hp h
    go_enter Try.func30, Try.ntmps30
    go_wp2
    go_ret
    exact ⟨rfl, rfl⟩
theorem seek_ok {ep sq : Int} {srt : List UInt8} (hs : srt.length ≤ 65536) (h : seekE ep srt sq = 0) : (0 ≤ ep ∧ ep ≤ 65535) ∧ (0 ≤ sq ∧ sq ≤ 281474976710655) ∧ preE ep srt = 0 ∧ preB ep srt = be 2 ep.toNat ++ escT srt ∧ seekB ep srt sq = be 2 ep.toNat ++ escT srt ++ stampB sq ++ [0] := by
  unfold seekE at h
  by_cases hk : (okEpoch ep && okSeq sq) = true
  · obtain ⟨h1, h2⟩ := Bool.and_eq_true_iff.1 hk
    refine ⟨okEpoch_true h1, okSeq_true h2, ?_, ?_, ?_⟩
    · unfold preE; rw [if_pos h1, if_neg (by omega)]
    · unfold preB; rw [if_pos h1, if_neg (by omega)]
    · unfold seekB; rw [if_pos hk, if_neg (by omega)]
  · rw [if_neg hk] at h; cases h
end Go.Proofs.Ytedelkifadonjaa
/- Layer 23: the newest of a key: the walk. -/
namespace Go.Proofs.Ytedelkifadonjaa
open Go.RowKit Go.Lec Go.Op
attribute [local go_sem] Oper.semAt_some
def fdZ : Array Value := #[.int .i64 0, .slice none 0 0, .int .i64 0, .int .i64 0, .string ⟨#[]⟩, .slice none 0 0]
/-- What is answered: the error, and what was found. -/
def NewestP (B : Nat) (w : World) (err : Int) (o : Option (Key × List UInt8)) (e : Ending) (w' : World) : Prop :=
  Below B w w' ∧ ((o = none ∧ e = .returned (.tuple #[.agg #[.int .i64 0, .slice none 0 0, .int .i64 0, .int .i64 0, .string ⟨#[]⟩, .slice none 0 0], .bool false, .int .i64 err])) ∨
    (∃ F : Fnd, o = some F.pl ∧ encFd.ok w' w'.heap.size F ∧ e = .returned (.tuple #[.agg #[.int .i64 F.K.ep, .slice F.A1 (bcs F.K.srt).length F.c1, .int .i64 F.K.sq, .int .i64 F.K.kd, .string ⟨F.K.txt.toArray⟩, .slice F.A2 F.n2 F.c2], .bool true, .int .i64 err])))
/-- Between the rounds: nothing found yet. -/
structure NwI (B n0 : Nat) (w : World) (pb : Nat) (A2 : Option Addr) (n2 c2 : Nat) (pref : List UInt8) (R : List PairB) (pre : List Ex) (G : Nat → Prop) (W : World) : Prop where
  bel : Below B w W
  b8 : Bk W n0 40 #[.int .i64 0, .slice none 0 0, .int .i64 0, .int .i64 0, .string ⟨#[]⟩, .slice none 0 0]
  b9 : Bk W (n0 + 1) 4 #[.bool false]
  b10 : Bk W (n0 + 1 + 1) 49 #[.int .i64 0]
  bp : Bk W pb 23 #[.slice A2 n2 c2]
  rp : Rd W W.heap.size A2 n2 (bcs pref)
  g8 : G n0
  g9 : G (n0 + 1)
  g10 : G (n0 + 1 + 1)
  gl : ∀ b, G b → b < W.heap.size
  gw : ∀ b, G b → n0 ≤ b
  law : newestF pref (R.drop pre.length) = newestF pref R
/-- When the loop is left. -/
def NwX (B n0 : Nat) (w : World) (pref : List UInt8) (R : List PairB) (c : Code) (_pre : List Ex) (G : Nat → Prop) (W : World) : Prop :=
  Below B w W ∧ G n0 ∧ G (n0 + 1) ∧ G (n0 + 1 + 1) ∧
    ((c = .exit 0 ∧ newestF pref R = none ∧ Bk W n0 40 #[.int .i64 0, .slice none 0 0, .int .i64 0, .int .i64 0, .string ⟨#[]⟩, .slice none 0 0] ∧ Bk W (n0 + 1) 4 #[.bool false] ∧ Bk W (n0 + 1 + 1) 49 #[.int .i64 0]) ∨
     (c = .ret ∧ ∃ F : Fnd, newestF pref R = some F.pl ∧ Rd W W.heap.size F.A1 (bcs F.K.srt).length (bcs F.K.srt) ∧ Rd W W.heap.size F.A2 F.n2 (bcs F.vl) ∧ encFd.side F ∧ (0 < (bcs F.K.srt).length → ∀ a, F.A1 = some a → G a.block) ∧ (0 < F.n2 → ∀ a, F.A2 = some a → G a.block) ∧
       Bk W n0 40 #[.int .i64 F.K.ep, .slice F.A1 (bcs F.K.srt).length F.c1, .int .i64 F.K.sq, .int .i64 F.K.kd, .string ⟨F.K.txt.toArray⟩, .slice F.A2 F.n2 F.c2] ∧ Bk W (n0 + 1) 4 #[.bool true] ∧ Bk W (n0 + 1 + 1) 49 #[.int .i64 0]))
theorem NwI.kx {B n0 : Nat} {w : World} {pb : Nat} {A2 : Option Addr} {n2 c2 : Nat} {pref : List UInt8} {R : List PairB} {pre : List Ex} {G Y : Nat → Prop} {W W' : World} (h : NwI B n0 w pb A2 n2 c2 pref R pre G W) (hk : Kx Y W W') (hB : ∀ b, Y b → B ≤ b) (hBw : B ≤ w.heap.size) (hG : ∀ b, Y b → ¬ G b) (hp : ¬ Y pb) (ha : 0 < n2 → ∀ a, A2 = some a → ¬ Y a.block) : NwI B n0 w pb A2 n2 c2 pref R pre G W' :=
  ⟨h.bel.trans (hk.below hB (Nat.le_trans hBw h.bel.size)), h.b8.kx hk (fun hy => hG _ hy h.g8), h.b9.kx hk (fun hy => hG _ hy h.g9), h.b10.kx hk (fun hy => hG _ hy h.g10), h.bp.kx hk hp, h.rp.kx hk ha, h.g8, h.g9, h.g10, fun b hb => Nat.lt_of_lt_of_le (h.gl b hb) hk.size, h.gw, h.law⟩
theorem NwI.below {B n0 : Nat} {w : World} {pb : Nat} {A2 : Option Addr} {n2 c2 : Nat} {pref : List UInt8} {R : List PairB} {pre : List Ex} {G : Nat → Prop} {W W' : World} (h : NwI B n0 w pb A2 n2 c2 pref R pre G W) (hk : Below W.heap.size W W') (hBw : B ≤ w.heap.size) : NwI B n0 w pb A2 n2 c2 pref R pre G W' :=
  h.kx (Y := fun _ => False) (Kx.new_ hk) (fun _ h => h.elim) hBw (fun _ h => h.elim) (fun h => h) (fun _ _ _ h => h)
theorem NwX.kx {B n0 : Nat} {w : World} {pref : List UInt8} {R : List PairB} {c : Code} {pre : List Ex} {G Y : Nat → Prop} {W W' : World} (h : NwX B n0 w pref R c pre G W) (hk : Kx Y W W') (hB : ∀ b, Y b → B ≤ b) (hBw : B ≤ w.heap.size) (hG : ∀ b, Y b → ¬ G b) : NwX B n0 w pref R c pre G W' := by
  obtain ⟨h1, g8, g9, g10, h⟩ := h
  refine ⟨h1.trans (hk.below hB (Nat.le_trans hBw h1.size)), g8, g9, g10, ?_⟩
  rcases h with ⟨rfl, h2, h3, h4, h5⟩ | ⟨rfl, F, h2, h3, h4, h5, h6, h7, h8, h9, h10⟩
  · exact .inl ⟨rfl, h2, h3.kx hk (fun hy => hG _ hy g8), h4.kx hk (fun hy => hG _ hy g9), h5.kx hk (fun hy => hG _ hy g10)⟩
  · exact .inr ⟨rfl, F, h2, h3.kx hk (fun hn a e hy => hG _ hy (h6 hn a e)), h4.kx hk (fun hn a e hy => hG _ hy (h7 hn a e)), h5, h6, h7, h8.kx hk (fun hy => hG _ hy g8), h9.kx hk (fun hy => hG _ hy g9), h10.kx hk (fun hy => hG _ hy g10)⟩
/-- A pair in a round, in its block. -/
structure NwA (wz : Nat) (R : List PairB) (pre : List Ex) (x : Ex) (G : Nat → Prop) (xb : Nat) (W : World) : Prop where
  bx : Bk W xb 56 #[.slice x.m.A1 x.m.n1 x.m.c1, .slice x.m.A2 x.m.n2 x.m.c2]
  gx : G xb
  ok : x.m.ok W W.heap.size
  g1 : 0 < x.m.n1 → ∀ a, x.m.A1 = some a → G a.block
  g2 : 0 < x.m.n2 → ∀ a, x.m.A2 = some a → G a.block
  at_ : R[pre.length]? = some x.m.pl
  lo : x.lo ≤ W.heap.size
  hi : x.m.hi x.lo ∧ wz ≤ x.lo
theorem NwA.kx {wz : Nat} {R : List PairB} {pre : List Ex} {x : Ex} {G Y : Nat → Prop} {xb : Nat} {W W' : World} (h : NwA wz R pre x G xb W) (hk : Kx Y W W') (hG : ∀ b, Y b → ¬ G b) : NwA wz R pre x G xb W' :=
  ⟨h.bx.kx hk (fun hy => hG _ hy h.gx), h.gx, ⟨h.ok.1.kx hk (fun hn a e hy => hG _ hy (h.g1 hn a e)), h.ok.2.1.kx hk (fun hn a e hy => hG _ hy (h.g2 hn a e)), h.ok.2.2⟩, h.g1, h.g2, h.at_, Nat.le_trans h.lo hk.size, h.hi⟩
theorem tw_true {α : Type} : ∀ l : List α, l.takeWhile (fun _ => true) = l
  | [] => rfl
  | x :: l => by rw [List.takeWhile_cons, if_pos rfl, tw_true l]
theorem Bk.keptN {w w' : World} {b : Nat} {t : TypeId} {cs : Array Value} {row : Option Nat} (h : Bk w b t cs) (hg : w.grownBy w' row) (hr : ∀ r, row = some r → ∃ o : Obj, w.heap[r]? = some o ∧ o.isCells = false) : Bk w' b t cs :=
  (grownBy_keeps_cells hg hr h rfl).trans h
theorem Rd.keptN {w w' : World} {B n : Nat} {A : Option Addr} {xs : List Value} {row : Option Nat} (h : Rd w B A n xs) (hg : w.grownBy w' row) (hr : ∀ r, row = some r → ∃ o : Obj, w.heap[r]? = some o ∧ o.isCells = false) : Rd w' B A n xs :=
  ⟨h.1, fun hn => by obtain ⟨b, o, e, hb, hc⟩ := h.2 hn; exact ⟨b, o, e, hb, fun i u hu => cell_kept (hc i u hu) hg hr⟩⟩
/-- The answer. -/
def newA (ep : Int) (srt : List UInt8) (sq : Int) (all : List PairB) : Option (Key × List UInt8) := if seekE ep srt sq = 0 then newestP ep.toNat srt sq all else none
set_option maxRecDepth 100000 in
set_option maxHeartbeats 4000000 in
theorem c_Newest (w : World) {B st0 st ns cs : Nat} {D : Nat → Prop} {X : It} {all : List PairB} {As : Option Addr} {srt : List UInt8} {ep sq : Int} (hI : ItM D w X st0 st) (hm : Makes X all) (hal : all.length ≤ 10000) (hst : st ≤ 1152921504606846976) (hX : X.Hs.length ≤ 100000) (hD : ∀ b, D b → b < w.heap.size) (hB : B ≤ w.heap.size) (hctl : ∀ b ∈ X.ctl, B ≤ b)
    (hrs : Rd w w.heap.size As ns (bcs srt)) (hns : ns ≤ 65536) (hkey : ∀ p ∈ all, p.1.length ≤ 1099511627) (hsr : Srt all) :
    Calls Try.prog 16 #[.iface 33 (.pointer (some ⟨X.ib, 0, none⟩)), .int .i64 ep, .slice As ns cs, .int .i64 sq] w (NewestP B w (seekE ep srt sq) (newA ep srt sq all)) := by
  have hln : srt.length = ns := by have := hrs.1; rwa [bcs_length] at this
  have h8 := ((Bk.new_ w 40 #[.int .i64 0, .slice none 0 0, .int .i64 0, .int .i64 0, .string ⟨#[]⟩, .slice none 0 0]).alloc (.cells #[.bool false] 4)).alloc (.cells #[.int .i64 0] 49)
  have h9 := (Bk.new_ (w.alloc (.cells #[.int .i64 0, .slice none 0 0, .int .i64 0, .int .i64 0, .string ⟨#[]⟩, .slice none 0 0] 40)) 4 #[.bool false]).alloc (.cells #[.int .i64 0] 49)
  have h10 := Bk.new_ ((w.alloc (.cells #[.int .i64 0, .slice none 0 0, .int .i64 0, .int .i64 0, .string ⟨#[]⟩, .slice none 0 0] 40)).alloc (.cells #[.bool false] 4)) 49 #[.int .i64 0]
  rw [World.size_alloc] at h9
  rw [World.size_alloc, World.size_alloc] at h10
  have hb0 : Below w.heap.size w (((w.alloc (.cells #[.int .i64 0, .slice none 0 0, .int .i64 0, .int .i64 0, .string ⟨#[]⟩, .slice none 0 0] 40)).alloc (.cells #[.bool false] 4)).alloc (.cells #[.int .i64 0] 49)) := (((Below.refl _ _).alloc (Nat.le_refl _) _).alloc (by simp) _).alloc (by simp; omega) _
  obtain ⟨w0, hw0⟩ : ∃ W, W = (((w.alloc (.cells #[.int .i64 0, .slice none 0 0, .int .i64 0, .int .i64 0, .string ⟨#[]⟩, .slice none 0 0] 40)).alloc (.cells #[.bool false] 4)).alloc (.cells #[.int .i64 0] 49)) := ⟨_, rfl⟩
  have hz0 : w0.heap.size = w.heap.size + 3 := by rw [hw0]; simp
  rw [← hw0] at h8 h9 h10 hb0
  have HW0 := Lib.hid hw0
  have HSk := c_Seek w0 ep sq (c := cs) (hrs.below hb0 (Nat.le_refl _)) hb0.size (by omega)
  unfold RetBE at HSk
  have H8 := Lib.hid h8
  have H9 := Lib.hid h9
  have H10 := Lib.hid h10
  have Hb0 := Lib.hid hb0
  have HRs := Lib.hid hrs
  clear hw0 h8 h9 h10 hb0 hrs
  refine (callsIn_wide (n := 5)).1 ?_
  refine callsIn_of_wp_marks Try.func16 rfl trivial ?_ rfl
  simp only [Try.ntmps16, List.size_toArray, List.length_cons, List.length_nil, Nat.reduceAdd, Nat.reduceSub, Array.replicate_succ, Array.replicate_zero, List.push_toArray, List.append_toArray, List.nil_append, List.cons_append]
  by_cases hse : seekE ep srt sq = 0
  · obtain ⟨he, hq, hpe, hpb, hsb⟩ := seek_ok (by omega) hse
    have hnew := newest_law (srt := srt) hsr (ep := ep.toNat) (by omega) hq.1 hq.2
    have hA : newA ep srt sq all = newestP ep.toNat srt sq all := if_pos hse
    rw [hA, ← hnew, ← hsb]
    rw [hse] at HSk ⊢
    have HSk := Lib.hid HSk
    obtain ⟨R, hR⟩ : ∃ R, R = partL all (seekB ep srt sq) [] := ⟨_, rfl⟩
    have hRd : all.drop (posD (fun k => bytesLess k (seekB ep srt sq)) all) = R := by
      rw [hR]; unfold partL
      rw [show (fun p : PairB => ends [] p.1) = fun _ => true from funext fun p => by simp [ends]]
      exact (tw_true _).symm
    rw [hRd, ← hpb]
    have HR := Lib.hid hR
    clear hnew hA hRd hR hpb hsb
    gi_wp2_with (refine ⟨trivial, ?_⟩; gi_at_call 28; rw [← HW0.out]; refine (callsIn_wide.2 HSk.out).mono ?_; rintro e w1 ⟨v1, rfl, ho1, hb1⟩; obtain ⟨A1, c1, rfl, hc1⟩ := ho1.shape)
    have hrs1 := (HRs.out.below Hb0.out (Nat.le_refl _)).below (hb1.mono Hb0.out.size) (Nat.le_refl _)
    have HPr := c_Prefix w1 ep (c := cs) hrs1 (Nat.le_trans Hb0.out.size hb1.size) (by omega)
    unfold RetBE at HPr
    rw [hpe] at HPr
    have HPr := Lib.hid HPr
    have Ho1 := Lib.hid ho1
    have Hb1 := Lib.hid hb1
    clear hrs1 ho1 hb1
    gi_wp2_with (refine ⟨trivial, ?_⟩; gi_at_call 29; refine (callsIn_wide.2 HPr.out).mono ?_; rintro e w2 ⟨v2, rfl, ho2, hb2⟩; obtain ⟨A2, c2, rfl, hc2⟩ := ho2.shape)
    have HP := Bk.new_ w2 23 #[.slice A2 (bcs (preB ep srt)).length c2]
    have hb3 := (Below.refl w2.heap.size w2).alloc (Nat.le_refl _) (.cells #[.slice A2 (bcs (preB ep srt)).length c2] 23)
    obtain ⟨w3, hw3⟩ : ∃ W, W = w2.alloc (.cells #[.slice A2 (bcs (preB ep srt)).length c2] 23) := ⟨_, rfl⟩
    rw [← hw3] at HP hb3
    have hz3 : w3.heap.size = w2.heap.size + 1 := by rw [hw3]; simp
    have HEn := Lib.hid (c_entries w3 (ib := X.ib) (Af := A1) (nf := (bcs (seekB ep srt sq)).length) (cf := c1) (At := none) (nt := 0) (ct := 0))
    have Hw3 := Lib.hid hw3
    have HP := Lib.hid HP
    have Hb3 := Lib.hid hb3
    have Ho2 := Lib.hid ho2
    have Hb2 := Lib.hid hb2
    clear hw3 hb3 ho2 hb2 HPr HSk
    gi_wp2_with (refine ⟨trivial, ?_⟩; gi_at_call 22; rw [← Hw3.out]; refine (callsIn_wide.2 HEn.out).mono ?_; rintro e w4 ⟨rfl, hw4⟩)
    have hz4 : w4.heap.size = w3.heap.size + 3 := by rw [hw4]; simp
    have hb4 : Below w3.heap.size w3 w4 := by rw [hw4]; exact (((Below.refl _ _).alloc (Nat.le_refl _) _).alloc (by simp) _).alloc (by simp; omega) _
    have hbs := ((Bk.new_ w3 59 #[.iface 33 (.pointer (some ⟨X.ib, 0, none⟩))]).alloc (.cells #[.slice A1 (bcs (seekB ep srt sq)).length c1] 23)).alloc (.cells #[.slice none 0 0] 23)
    have hbf := (Bk.new_ (w3.alloc (.cells #[.iface 33 (.pointer (some ⟨X.ib, 0, none⟩))] 59)) 23 #[.slice A1 (bcs (seekB ep srt sq)).length c1]).alloc (.cells #[.slice none 0 0] 23)
    have hbt := Bk.new_ ((w3.alloc (.cells #[.iface 33 (.pointer (some ⟨X.ib, 0, none⟩))] 59)).alloc (.cells #[.slice A1 (bcs (seekB ep srt sq)).length c1] 23)) 23 #[.slice none 0 0]
    rw [← hw4] at hbs hbf hbt
    rw [World.size_alloc] at hbf
    rw [World.size_alloc, World.size_alloc] at hbt
    rw [← hw4]
    have hz1 := Hb1.out.size
    have hz2 := Hb2.out.size
    have hz30 := Hb3.out.size
    have hb14 : Below w2.heap.size w2 w4 := Hb3.out.trans (hb4.mono Hb3.out.size)
    have hb04 : Below w.heap.size w w4 := ((Hb0.out.trans (Hb1.out.mono (by omega))).trans (Hb2.out.mono (by omega))).trans (hb14.mono (by omega))
    have ho1 := Ho1.out
    have ho2 := Ho2.out
    have g1 : 0 < (bcs (seekB ep srt sq)).length → ∀ a, A1 = some a → w0.heap.size ≤ a.block ∧ a.block < w1.heap.size := fun _ a e => ho1.lt a.block (by rw [e]; rfl)
    have g2 : 0 < (bcs (preB ep srt)).length → ∀ a, A2 = some a → w1.heap.size ≤ a.block ∧ a.block < w2.heap.size := fun _ a e => ho2.lt a.block (by rw [e]; rfl)
    have hr1 := (((ho1.rd.below Hb2.out (Nat.le_refl _)).below (hb14.mono hz2) (Nat.le_refl _)).more (Nat.le_trans hz2 hb14.size))
    have hr2 := ((ho2.rd.below hb14 (Nat.le_refl _)).more hb14.size)
    have hbp := HP.out.below hb4 HP.out.lt
    rw [hz3] at hbs hbf hbt
    have hCaps : Caps (w2.heap.size + 1) (w2.heap.size + 1 + 1) (w2.heap.size + 1 + 1 + 1) X A1 (bcs (seekB ep srt sq)).length c1 none 0 0 (seekB ep srt sq) [] (fun b => w.heap.size + 3 ≤ b ∧ b < w4.heap.size) w4 :=
      ⟨hbs, hbf, hbt, hr1, Rd.nil_, by omega, by omega, by omega, fun hn a e => by have := g1 hn a e; omega, fun h => absurd h (by decide)⟩
    have hUw : UIt X st (fun b => w.heap.size ≤ b) w := ⟨D, X, st0, st, Same.refl X, hI, Nat.le_refl _, hD, fun b hb => ⟨fun hx => by have := hI.lt b hx; omega, fun hx => by have := hD b hx; omega⟩⟩
    have h84 := ((H8.out.below Hb1.out H8.out.lt).below Hb2.out (Nat.lt_of_lt_of_le H8.out.lt hz1)).below hb14 (by have := H8.out.lt; omega)
    have h94 := ((H9.out.below Hb1.out H9.out.lt).below Hb2.out (Nat.lt_of_lt_of_le H9.out.lt hz1)).below hb14 (by have := H9.out.lt; omega)
    have h104 := ((H10.out.below Hb1.out H10.out.lt).below Hb2.out (Nat.lt_of_lt_of_le H10.out.lt hz1)).below hb14 (by have := H10.out.lt; omega)
    have hcw : ∀ b ∈ X.ctl, b < w.heap.size := hI.lt
    have hseq := entries_G 4 (by omega) (M := st) (sx := w2.heap.size + 1) (fb := w2.heap.size + 1 + 1) (tb := w2.heap.size + 1 + 1 + 1) (Af := A1) (nf := (bcs (seekB ep srt sq)).length) (cf := c1) (At := none) (nt := 0) (ct := 0) (frm := seekB ep srt sq) (upt := []) (Cb := fun b => w.heap.size + 3 ≤ b ∧ b < w4.heap.size) w4 hm hal hst hX (fun b hb hx => by have := hcw b hx; omega) (fun b hb => hb.2)
    rw [← HR.out] at hseq
    have hpbw : w2.heap.size < w4.heap.size := by omega
    have Hcw := Lib.hid hcw
    have Hctl := Lib.hid hctl
    have Hkey : ∀ p ∈ R, p.1.length ≤ 1099511627 := fun p hp => hkey p (by
      rw [HR.out] at hp; unfold partL at hp
      exact List.mem_of_mem_drop (List.takeWhile_prefix _ |>.subset hp))
    have Hkey := Lib.hid Hkey
    obtain ⟨nz, hnz⟩ : ∃ nz, nz = w4.heap.size := ⟨_, rfl⟩
    have I0 : NwI B w.heap.size w w2.heap.size A2 (bcs (preB ep srt)).length c2 (preB ep srt) R [] (fun b => b = w.heap.size ∨ b = w.heap.size + 1 ∨ b = w.heap.size + 1 + 1) w4 :=
      ⟨hb04.mono hB, h84, h94, h104, hbp, hr2, .inl rfl, .inr (.inl rfl), .inr (.inr rfl), fun b hb => by omega, fun b hb => by omega, rfl⟩
    clear hr1 hr2 ho1 ho2 H8 H9 H10 h84 h94 h104 hbp hbs hbf hbt HP hctl hkey hcw
    refine range_G (n := 5) (by omega) (gf := 43) (lb := #[.pointer (some ⟨w2.heap.size + 1, 0, none⟩), .pointer (some ⟨w2.heap.size + 1 + 1, 0, none⟩), .pointer (some ⟨w2.heap.size + 1 + 1 + 1, 0, none⟩)]) rfl (enters_of Try.func43 (by kernel_rfl) rfl)
      hseq (fun b hb => by have := Hcw.out b hb; omega) (Below.refl _ _) (fun _ => rfl)
      (G0 := fun b => b = w.heap.size ∨ b = w.heap.size + 1 ∨ b = w.heap.size + 1 + 1) (fun b hb => by omega)
      (fun W' hW => ⟨hUw.keep (Kx.new_ (hb04.trans (hW.mono (by omega)))) (fun b hb => .inl (by omega)), hCaps.kx (Kx.new_ hW : Kx (fun _ => False) w4 W') (fun _ _ h => h), fun b hb hg => by omega⟩)
      (fun G G' W W' h hs hk => h.keep hk (fun b hb => .inl (hs b hb)))
      (fun pre G W => NwI B w.heap.size w w2.heap.size A2 (bcs (preB ep srt)).length c2 (preB ep srt) R pre G W)
      (fun c pre G W => NwX B w.heap.size w (preB ep srt) R c pre G W)
      (fun s G A Bw h hk => h.kx hk (fun b hb => hb.elim (fun hb => Hctl.out b hb) (fun hb => by omega)) hB (fun b hb hg => hb.elim (fun hb => by have := Hcw.out b hb; have := h.gw b hg; omega) (fun hb => hb.2 hg)) (fun hb => hb.elim (fun hb => by have := Hcw.out _ hb; omega) (fun hb => by omega)) (fun hn a e hb => by have := g2 hn a e; exact hb.elim (fun hb => by have := Hcw.out _ hb; omega) (fun hb => by omega)))
      I0
      (fun pre x G a' W => NwI B w.heap.size w w2.heap.size A2 (bcs (preB ep srt)).length c2 (preB ep srt) R pre G W ∧ ∃ xb, NwA nz R pre x G xb W ∧ a' = { tmps := #[.iface 33 (.pointer (some ⟨X.ib, 0, none⟩)), .int .i64 ep, .slice As ns cs, .int .i64 sq, undef, undef, undef, undef,
          .pointer (some ⟨w.heap.size, 0, none⟩), .pointer (some ⟨w.heap.size + 1, 0, none⟩), .pointer (some ⟨w.heap.size + 1 + 1, 0, none⟩),
          .slice A1 (bcs (seekB ep srt sq)).length c1, .int .i64 0, .pointer (some ⟨w2.heap.size, 0, none⟩), .int .i64 0, .pointer (some ⟨xb, 0, none⟩), undef, undef,
          .tuple #[.slice A1 (bcs (seekB ep srt sq)).length c1, .int .i64 0], .int .i64 ep, .slice As ns cs, .int .i64 sq, .tuple #[.slice A1 (bcs (seekB ep srt sq)).length c1, .int .i64 0],
          .slice A1 (bcs (seekB ep srt sq)).length c1, .int .i64 0, .int .i64 0, .bool false, undef, undef, .tuple #[.slice A2 (bcs (preB ep srt)).length c2, .int .i64 0],
          .int .i64 ep, .slice As ns cs, .tuple #[.slice A2 (bcs (preB ep srt)).length c2, .int .i64 0], .slice A2 (bcs (preB ep srt)).length c2, .int .i64 0,
          .iface 33 (.pointer (some ⟨X.ib, 0, none⟩)), .slice A1 (bcs (seekB ep srt sq)).length c1,
          .func (.func 43) #[] #[.pointer (some ⟨w2.heap.size + 1, 0, none⟩), .pointer (some ⟨w2.heap.size + 1 + 1, 0, none⟩), .pointer (some ⟨w2.heap.size + 1 + 1 + 1, 0, none⟩)],
          .agg #[.slice x.m.A1 x.m.n1 x.m.c1, .slice x.m.A2 x.m.n2 x.m.c2], undef, undef, undef, undef, undef, undef, undef, undef, undef, undef, undef, undef, undef, undef, undef, undef, undef, undef], defers := [] })
      (fun pre x G a' A Bw h hk => ⟨h.1.kx hk (fun b hb => by omega) hB (fun b hb => hb.2) (fun hb => by omega) (fun hn a e hb => by have := g2 hn a e; omega), by
        obtain ⟨xb, h1, h2⟩ := h.2
        exact ⟨xb, h1.kx hk (fun b hb => hb.2), h2⟩⟩)
      ?assign ?body ?done ?stop (fun c s G A Bw h hk => h.kx hk (fun b hb => by omega) hB (fun b hb => hb.2))
    case assign =>
      clear I0 hUw hCaps hseq
      rintro l pre ⟨m, lo⟩ G W hi ⟨hy1, hy2, hy3, hy4, hy5⟩ _
      dsimp only [Ex.val]
      gi_wp2
      have hba := (Below.refl W.heap.size W).alloc (Nat.le_refl _) (.cells #[.slice m.A1 m.n1 m.c1, .slice m.A2 m.n2 m.c2] 56)
      have hN := Bk.new_ W 56 #[.slice m.A1 m.n1 m.c1, .slice m.A2 m.n2 m.c2]
      have hzz : (W.alloc (.cells #[.slice m.A1 m.n1 m.c1, .slice m.A2 m.n2 m.c2] 56)).heap.size = W.heap.size + 1 := by simp
      have hi2 := hi.below hba hB
      have hmo := (hy2.below hba (Nat.le_refl _)).more hba.size
      have hgg := hi.gl
      have hnn := hi.bel.size
      refine ⟨Kx.new_ hba, fun b => G b ∨ (lo ≤ b ∧ w.heap.size ≤ b ∧ b < W.heap.size + 1), fun b hb => hb.elim .inl (fun h => .inr h.1), ⟨hi2.bel, hi2.b8, hi2.b9, hi2.b10, hi2.bp, hi2.rp, .inl hi2.g8, .inl hi2.g9, .inl hi2.g10, fun b hb => ?_, fun b hb => ?_, hi2.law⟩, ⟨hN, .inr ⟨hy4, hnn, Nat.lt_succ_self _⟩, hmo, fun hn a e => ?_, fun hn a e => ?_, hy1, by rw [hzz]; exact Nat.le_succ_of_le hy4, hy3, by dsimp only at hy5 ⊢; omega⟩⟩
      · rw [hzz]; exact hb.elim (fun h => Nat.lt_succ_of_lt (hgg b h)) (fun h => h.2.2)
      · exact hb.elim (hi2.gw b) (fun h => h.2.1)
      · have h1 := hy3.1 a e
        obtain ⟨b, o, e', hb, _⟩ := hy2.1.2 hn
        rw [e] at e'; cases e'
        dsimp only at h1 hb hy5 ⊢
        exact .inr ⟨h1, by omega, by omega⟩
      · have h1 := hy3.2 a e
        obtain ⟨b, o, e', hb, _⟩ := hy2.2.1.2 hn
        rw [e] at e'; cases e'
        dsimp only at h1 hb hy5 ⊢
        exact .inr ⟨h1, by omega, by omega⟩
    case body =>
      clear I0 hUw hCaps hseq
      rintro l pre ⟨m, lo⟩ G a' W ⟨hi, xb, hA, rfl⟩ hlen
      obtain ⟨bx, gx, hok, g3, g4, hat, hlo, hmh, hlw⟩ := hA
      dsimp only at bx gx hok g3 g4 hat hlo hmh hlw
      have hdr : R.drop pre.length = m.pl :: R.drop (pre.length + 1) := by
        obtain ⟨h1, h2⟩ := List.getElem?_eq_some_iff.1 hat
        rw [← h2]; exact List.drop_eq_getElem_cons h1
      have hlaw := hi.law
      rw [hdr, newestF] at hlaw
      have hkl : m.key.length ≤ 1099511627 := Hkey.out m.pl (List.mem_of_getElem? hat)
      have hk1 : m.key.length = m.n1 := by have := hok.1.1; rwa [bcs_length] at this
      have q1 := bx.cell 0
      have q2 := bx.cell 1
      have qp := hi.bp.cell 0
      have HHas := Lib.hid (c_nHas W (c2 := c2) hok.1 hi.rp hok.2.2.1)
      have HDec := Lib.hid (c_Decode W hok.1 (Nat.le_refl _) hok.2.2.1 (by omega))
      have Hi := Lib.hid hi
      have Hok := Lib.hid hok
      have Hgl := Lib.hid hi.gl
      have Hat := Lib.hid hat
      have hd : 1 ≤ 5 - 1 - 1 := by omega
      clear hat hok hi hdr hkl
      by_cases hpf : (preB ep srt).isPrefixOf m.key = true
      · have hpl : (preB ep srt).isPrefixOf m.pl.1 = true := hpf
        rw [if_pos hpl] at hlaw
        rw [hpf] at HHas
        cases hdc : dec m.key with
        | error err =>
          have hdl : dec m.pl.1 = .error err := hdc
          rw [hdl] at hlaw
          have hne : (err == 0) = false := by rcases dec_err hdc with rfl | rfl <;> rfl
          have HDc : Calls Try.prog 23 #[.slice m.A1 m.n1 m.c1] W fun e w' => e = .returned (.tuple #[.agg #[.int .i64 0, .slice none 0 0, .int .i64 0, .int .i64 0, .string ⟨#[]⟩], .int .i64 err]) ∧ Below W.heap.size W w' := HDec.out.mono (by
            rintro e w' (⟨K', v, h, _⟩ | ⟨err', h, rfl, hb⟩)
            · rw [hdc] at h; cases h
            · rw [hdc] at h; cases h; exact ⟨rfl, hb⟩)
          have HDc := Lib.hid HDc
          have Hlaw := Lib.hid hlaw
          clear hlaw hpl hpf HDec hdl hdc
          gi_wp2_with (refine ⟨trivial, ?_⟩; first
            | (gi_at_call 30; refine (CallsIn.inRound l (callsIn_wide.2 HHas.out)).mono ?_; rintro e W1 ⟨rfl, rfl⟩)
            | (gi_at_call 23; refine (CallsIn.inRound l (callsIn_wide.2 HDc.out)).mono ?_; rintro e W2 ⟨rfl, hb2⟩))
          have hb3 := hb2.alloc hb2.size (.cells #[.int .i64 0, .slice none 0 0, .int .i64 0, .int .i64 0, .string ⟨#[]⟩] 38)
          have h := Hi.out.below hb3 hB
          exact ⟨G, Kx.new_ hb3, fun b hb => ⟨Nat.lt_of_lt_of_le (Hgl.out b hb) hb3.size, .inl hb⟩, h.bel, h.b8, h.b9, h.b10, h.bp, h.rp, h.g8, h.g9, h.g10, h.gl, h.gw, by rw [List.length_append, List.length_singleton]; exact Hlaw.out⟩
        | ok K =>
          have hdl : dec m.pl.1 = .ok K := hdc
          rw [hdl] at hlaw
          have HDc : Calls Try.prog 23 #[.slice m.A1 m.n1 m.c1] W fun e w' => ∃ v, e = .returned (.tuple #[.agg #[.int .i64 K.ep, v, .int .i64 K.sq, .int .i64 K.kd, .string ⟨K.txt.toArray⟩], .int .i64 0]) ∧ Lec.Own w' W.heap.size 5 v (bcs K.srt) ∧ Below W.heap.size W w' := HDec.out.mono (by
            rintro e w' (⟨K', v, h, rfl, h2, h3⟩ | ⟨err', h, _⟩)
            · rw [hdc] at h; cases h; exact ⟨v, rfl, h2, h3⟩
            · rw [hdc] at h; cases h)
          have HDc := Lib.hid HDc
          have Hlaw := Lib.hid hlaw
          clear hlaw hpl hpf HDec hdl hdc
          have z8 := Hi.out.b8.lt
          have z9 := Hi.out.b9.lt
          have z10 := Hi.out.b10.lt
          gi_wp2_with (refine ⟨trivial, ?_⟩; first
            | (gi_at_call 30; refine (CallsIn.inRound l (callsIn_wide.2 HHas.out)).mono ?_; rintro e W1 ⟨rfl, rfl⟩)
            | (gi_at_call 23; refine (CallsIn.inRound l (callsIn_wide.2 HDc.out)).mono ?_; rintro e W2 ⟨v, rfl, ho, hb2⟩; obtain ⟨Av, cv, rfl, hcv⟩ := ho.shape; have B8 := (Hi.out.b8.below hb2 Hi.out.b8.lt).alloc (.cells #[.int .i64 K.ep, .slice Av (bcs K.srt).length cv, .int .i64 K.sq, .int .i64 K.kd, .string ⟨K.txt.toArray⟩] 38); have B9 := (Hi.out.b9.below hb2 Hi.out.b9.lt).alloc (.cells #[.int .i64 K.ep, .slice Av (bcs K.srt).length cv, .int .i64 K.sq, .int .i64 K.kd, .string ⟨K.txt.toArray⟩] 38); have B10 := (Hi.out.b10.below hb2 Hi.out.b10.lt).alloc (.cells #[.int .i64 K.ep, .slice Av (bcs K.srt).length cv, .int .i64 K.sq, .int .i64 K.kd, .string ⟨K.txt.toArray⟩] 38);
               have BX := (bx.below hb2 bx.lt).alloc (.cells #[.int .i64 K.ep, .slice Av (bcs K.srt).length cv, .int .i64 K.sq, .int .i64 K.kd, .string ⟨K.txt.toArray⟩] 38); have BN := Bk.new_ W2 38 #[.int .i64 K.ep, .slice Av (bcs K.srt).length cv, .int .i64 K.sq, .int .i64 K.kd, .string ⟨K.txt.toArray⟩]; have x2 := BX.cell 1; have n_ := BN.cell; have c8 := B8.cell; have c9 := B9.cell; have c10 := B10.cell; have f8 := B8.frz; have f9 := B9.frz; have f10 := B10.frz; have hz2 := hb2.size))
          have hb3 := hb2.alloc hb2.size (.cells #[.int .i64 K.ep, .slice Av (bcs K.srt).length cv, .int .i64 K.sq, .int .i64 K.kd, .string ⟨K.txt.toArray⟩] 38)
          have ho3 := ho.alloc (.cells #[.int .i64 K.ep, .slice Av (bcs K.srt).length cv, .int .i64 K.sq, .int .i64 K.kd, .string ⟨K.txt.toArray⟩] 38)
          have hzb : (W2.alloc (.cells #[.int .i64 K.ep, .slice Av (bcs K.srt).length cv, .int .i64 K.sq, .int .i64 K.kd, .string ⟨K.txt.toArray⟩] 38)).heap.size = W2.heap.size + 1 := by simp
          obtain ⟨W3, hW3⟩ : ∃ x, x = W2.alloc (.cells #[.int .i64 K.ep, .slice Av (bcs K.srt).length cv, .int .i64 K.sq, .int .i64 K.kd, .string ⟨K.txt.toArray⟩] 38) := ⟨_, rfl⟩
          rw [← hW3] at B8 B9 B10 hb3 ho3 hzb ⊢
          have E8 := ((((((((B8.set_ 0 (.int .i64 K.ep)).set_ 1 (.slice Av (bcs K.srt).length cv)).set_ 2 (.int .i64 K.sq)).set_ 3 (.int .i64 K.kd)).set_ 4 (.string ⟨K.txt.toArray⟩)).set_ 5 (.slice m.A2 m.n2 m.c2)).far (p := ⟨w.heap.size + 1, 0, none⟩) (by dsimp only; omega) (.bool true)).far (p := ⟨w.heap.size + 1 + 1, 0, none⟩) (by dsimp only; omega) (.int .i64 0))
          have E9 := ((((((((B9.far (p := ⟨w.heap.size, 0, none⟩) (by dsimp only; omega) (.int .i64 K.ep)).far (p := ⟨w.heap.size, 1, none⟩) (by dsimp only; omega) (.slice Av (bcs K.srt).length cv)).far (p := ⟨w.heap.size, 2, none⟩) (by dsimp only; omega) (.int .i64 K.sq)).far (p := ⟨w.heap.size, 3, none⟩) (by dsimp only; omega) (.int .i64 K.kd)).far (p := ⟨w.heap.size, 4, none⟩) (by dsimp only; omega) (.string ⟨K.txt.toArray⟩)).far (p := ⟨w.heap.size, 5, none⟩) (by dsimp only; omega) (.slice m.A2 m.n2 m.c2)).set_ 0 (.bool true)).far (p := ⟨w.heap.size + 1 + 1, 0, none⟩) (by dsimp only; omega) (.int .i64 0))
          have E10 := ((((((((B10.far (p := ⟨w.heap.size, 0, none⟩) (by dsimp only; omega) (.int .i64 K.ep)).far (p := ⟨w.heap.size, 1, none⟩) (by dsimp only; omega) (.slice Av (bcs K.srt).length cv)).far (p := ⟨w.heap.size, 2, none⟩) (by dsimp only; omega) (.int .i64 K.sq)).far (p := ⟨w.heap.size, 3, none⟩) (by dsimp only; omega) (.int .i64 K.kd)).far (p := ⟨w.heap.size, 4, none⟩) (by dsimp only; omega) (.string ⟨K.txt.toArray⟩)).far (p := ⟨w.heap.size, 5, none⟩) (by dsimp only; omega) (.slice m.A2 m.n2 m.c2)).far (p := ⟨w.heap.size + 1, 0, none⟩) (by dsimp only; omega) (.bool true)).set_ 0 (.int .i64 0))
          have hkx := (((((((((Kx.refl (fun b => b = w.heap.size ∨ b = w.heap.size + 1 ∨ b = w.heap.size + 1 + 1) W3).setCell (p := ⟨w.heap.size, 0, none⟩) (.inl (.inl rfl)) (.int .i64 K.ep)).setCell (p := ⟨w.heap.size, 1, none⟩) (.inl (.inl rfl)) (.slice Av (bcs K.srt).length cv)).setCell (p := ⟨w.heap.size, 2, none⟩) (.inl (.inl rfl)) (.int .i64 K.sq)).setCell (p := ⟨w.heap.size, 3, none⟩) (.inl (.inl rfl)) (.int .i64 K.kd)).setCell (p := ⟨w.heap.size, 4, none⟩) (.inl (.inl rfl)) (.string ⟨K.txt.toArray⟩)).setCell (p := ⟨w.heap.size, 5, none⟩) (.inl (.inl rfl)) (.slice m.A2 m.n2 m.c2)).setCell (p := ⟨w.heap.size + 1, 0, none⟩) (.inl (.inr (.inl rfl))) (.bool true)).setCell (p := ⟨w.heap.size + 1 + 1, 0, none⟩) (.inl (.inr (.inr rfl))) (.int .i64 0))
          obtain ⟨W4, hW4⟩ : ∃ x, x = ((((((((W3.setCell ⟨w.heap.size, 0, none⟩ (.int .i64 K.ep)).setCell ⟨w.heap.size, 1, none⟩ (.slice Av (bcs K.srt).length cv)).setCell ⟨w.heap.size, 2, none⟩ (.int .i64 K.sq)).setCell ⟨w.heap.size, 3, none⟩ (.int .i64 K.kd)).setCell ⟨w.heap.size, 4, none⟩ (.string ⟨K.txt.toArray⟩)).setCell ⟨w.heap.size, 5, none⟩ (.slice m.A2 m.n2 m.c2)).setCell ⟨w.heap.size + 1, 0, none⟩ (.bool true)).setCell ⟨w.heap.size + 1 + 1, 0, none⟩ (.int .i64 0)) := ⟨_, rfl⟩
          rw [← hW4] at E8 E9 E10 hkx ⊢
          have hov : 0 < (bcs K.srt).length → ∀ a, Av = some a → W1.heap.size ≤ a.block ∧ a.block < W3.heap.size := fun _ a e => ho3.lt a.block (by rw [e]; rfl)
          have hkx1 : Kx (fun b => G b ∨ lo ≤ b) W1 W4 := (Kx.new_ hb3 : Kx (fun b => G b ∨ lo ≤ b) W1 W3).trans hkx (fun b hb => by
            rcases hb with rfl | rfl | rfl
            · exact .inl (.inl Hi.out.g8)
            · exact .inl (.inl Hi.out.g9)
            · exact .inl (.inl Hi.out.g10))
          have hmo3 := (Hok.out.below hb3 (Nat.le_refl _)).more hb3.size
          have hWz := hkx1.size
          refine ⟨fun b => G b ∨ (lo ≤ b ∧ b < W4.heap.size), hkx1, fun b hb => ⟨hb.elim (fun h => Nat.lt_of_lt_of_le (Hgl.out b h) hWz) (fun h => h.2), hb.imp id (fun h => h.1)⟩, Hi.out.bel.trans (hkx1.below (fun b hb => hb.elim (fun h => Nat.le_trans hB (Hi.out.gw b h)) (fun h => by omega)) (Nat.le_trans hB Hi.out.bel.size)), .inl Hi.out.g8, .inl Hi.out.g9, .inl Hi.out.g10,
            .inr ⟨rfl, ⟨K, Av, cv, m.A2, m.n2, m.c2, m.vl⟩, Hlaw.out.symm, ho3.rd.kx hkx (fun hn a e hx => by have := hov hn a e; omega), hmo3.2.1.kx hkx (fun hn a e hx => by have := hmh.2 a e; omega), ⟨hcv, hmo3.2.2.2.1⟩, fun hn a e => by
              have h1 := hov hn a e
              have h2 := hkx.size
              exact .inr ⟨by omega, by omega⟩, fun hn a e => .inl (g4 hn a e), E8, E9, E10⟩⟩
      · have hpl : ¬ (preB ep srt).isPrefixOf m.pl.1 = true := hpf
        rw [if_neg hpl] at hlaw
        rw [Bool.not_eq_true] at hpf
        rw [hpf] at HHas
        have Hlaw := Lib.hid hlaw
        clear hlaw hpl hpf HDec
        gi_wp2_with (refine ⟨trivial, ?_⟩; gi_at_call 30; refine (CallsIn.inRound l (callsIn_wide.2 HHas.out)).mono ?_; rintro e W1 ⟨rfl, rfl⟩)
        exact ⟨G, Kx.refl _ _, fun b hb => ⟨Hgl.out b hb, .inl hb⟩, Hi.out.bel, Hi.out.g8, Hi.out.g9, Hi.out.g10, .inl ⟨rfl, Hlaw.out.symm, Hi.out.b8, Hi.out.b9, Hi.out.b10⟩⟩
    case done =>
      clear I0 hUw hCaps hseq
      rintro Dm xs G W hDm hnG hS hi _ hK
      have hRn : newestF (preB ep srt) R = none := by
        have hl := congrArg List.length hS
        rw [List.length_map] at hl
        have h1 := hi.law
        rw [hl, List.drop_length] at h1
        exact h1.symm
      have Hi := Lib.hid hi
      have c8 := hi.b8.cell
      have c9 := hi.b9.cell
      have c10 := hi.b10.cell
      have f8 := hi.b8.frz
      have f9 := hi.b9.frz
      have f10 := hi.b10.frz
      have z8 := hi.b8.lt
      have z9 := hi.b9.lt
      have z10 := hi.b10.lt
      have HRn := Lib.hid hRn
      clear hi hRn hS
      gi_wp2
      have E8 := ((((((((Hi.out.b8.set_ 0 (.int .i64 0)).set_ 1 (.slice none 0 0)).set_ 2 (.int .i64 0)).set_ 3 (.int .i64 0)).set_ 4 (.string ⟨#[]⟩)).set_ 5 (.slice none 0 0)).far (p := ⟨w.heap.size + 1, 0, none⟩) (by dsimp only; omega) (.bool false)).far (p := ⟨w.heap.size + 1 + 1, 0, none⟩) (by dsimp only; omega) (.int .i64 0))
      have E9 := ((((((((Hi.out.b9.far (p := ⟨w.heap.size, 0, none⟩) (by dsimp only; omega) (.int .i64 0)).far (p := ⟨w.heap.size, 1, none⟩) (by dsimp only; omega) (.slice none 0 0)).far (p := ⟨w.heap.size, 2, none⟩) (by dsimp only; omega) (.int .i64 0)).far (p := ⟨w.heap.size, 3, none⟩) (by dsimp only; omega) (.int .i64 0)).far (p := ⟨w.heap.size, 4, none⟩) (by dsimp only; omega) (.string ⟨#[]⟩)).far (p := ⟨w.heap.size, 5, none⟩) (by dsimp only; omega) (.slice none 0 0)).set_ 0 (.bool false)).far (p := ⟨w.heap.size + 1 + 1, 0, none⟩) (by dsimp only; omega) (.int .i64 0))
      have E10 := ((((((((Hi.out.b10.far (p := ⟨w.heap.size, 0, none⟩) (by dsimp only; omega) (.int .i64 0)).far (p := ⟨w.heap.size, 1, none⟩) (by dsimp only; omega) (.slice none 0 0)).far (p := ⟨w.heap.size, 2, none⟩) (by dsimp only; omega) (.int .i64 0)).far (p := ⟨w.heap.size, 3, none⟩) (by dsimp only; omega) (.int .i64 0)).far (p := ⟨w.heap.size, 4, none⟩) (by dsimp only; omega) (.string ⟨#[]⟩)).far (p := ⟨w.heap.size, 5, none⟩) (by dsimp only; omega) (.slice none 0 0)).far (p := ⟨w.heap.size + 1, 0, none⟩) (by dsimp only; omega) (.bool false)).set_ 0 (.int .i64 0))
      have hkx := (((((((((Kx.refl (fun b => (b = w.heap.size ∨ b = w.heap.size + 1 ∨ b = w.heap.size + 1 + 1) ∨ b = Dm) W).setCell (p := ⟨w.heap.size, 0, none⟩) (.inl (.inl (.inl rfl))) (.int .i64 0)).setCell (p := ⟨w.heap.size, 1, none⟩) (.inl (.inl (.inl rfl))) (.slice none 0 0)).setCell (p := ⟨w.heap.size, 2, none⟩) (.inl (.inl (.inl rfl))) (.int .i64 0)).setCell (p := ⟨w.heap.size, 3, none⟩) (.inl (.inl (.inl rfl))) (.int .i64 0)).setCell (p := ⟨w.heap.size, 4, none⟩) (.inl (.inl (.inl rfl))) (.string ⟨#[]⟩)).setCell (p := ⟨w.heap.size, 5, none⟩) (.inl (.inl (.inl rfl))) (.slice none 0 0)).setCell (p := ⟨w.heap.size + 1, 0, none⟩) (.inl (.inl (.inr (.inl rfl)))) (.bool false)).setCell (p := ⟨w.heap.size + 1 + 1, 0, none⟩) (.inl (.inl (.inr (.inr rfl)))) (.int .i64 0))
      have hK0 := (KeepsOthers.setCell _ ⟨w.heap.size, 0, none⟩ (.int .i64 0)).same Dm _ hK rfl
      have hK1 := (KeepsOthers.setCell _ ⟨w.heap.size, 1, none⟩ (.slice none 0 0)).same Dm _ hK0 rfl
      have hK2 := (KeepsOthers.setCell _ ⟨w.heap.size, 2, none⟩ (.int .i64 0)).same Dm _ hK1 rfl
      have hK3 := (KeepsOthers.setCell _ ⟨w.heap.size, 3, none⟩ (.int .i64 0)).same Dm _ hK2 rfl
      have hK4 := (KeepsOthers.setCell _ ⟨w.heap.size, 4, none⟩ (.string ⟨#[]⟩)).same Dm _ hK3 rfl
      have hK5 := (KeepsOthers.setCell _ ⟨w.heap.size, 5, none⟩ (.slice none 0 0)).same Dm _ hK4 rfl
      have hK6 := (KeepsOthers.setCell _ ⟨w.heap.size + 1, 0, none⟩ (.bool false)).same Dm _ hK5 rfl
      have hK7 := (KeepsOthers.setCell _ ⟨w.heap.size + 1 + 1, 0, none⟩ (.int .i64 0)).same Dm _ hK6 rfl
      have hg := fun (X : World) => grownBy_putObj' X Dm (.deferred none)
      obtain ⟨W4, hW4⟩ : ∃ x, x = ((((((((W.setCell ⟨w.heap.size, 0, none⟩ (.int .i64 0)).setCell ⟨w.heap.size, 1, none⟩ (.slice none 0 0)).setCell ⟨w.heap.size, 2, none⟩ (.int .i64 0)).setCell ⟨w.heap.size, 3, none⟩ (.int .i64 0)).setCell ⟨w.heap.size, 4, none⟩ (.string ⟨#[]⟩)).setCell ⟨w.heap.size, 5, none⟩ (.slice none 0 0)).setCell ⟨w.heap.size + 1, 0, none⟩ (.bool false)).setCell ⟨w.heap.size + 1 + 1, 0, none⟩ (.int .i64 0)) := ⟨_, rfl⟩
      rw [← hW4] at E8 E9 E10 hkx hK7 ⊢
      have F8 := (Bk.keptN E8 (hg _) (fun r e => by cases e; exact ⟨_, hK7, rfl⟩)).cell
      have f9' := (Bk.keptN E9 (hg _) (fun r e => by cases e; exact ⟨_, hK7, rfl⟩)).cell 0
      have f10' := (Bk.keptN E10 (hg _) (fun r e => by cases e; exact ⟨_, hK7, rfl⟩)).cell 0
      have f80 := F8 0
      have f81 := F8 1
      have f82 := F8 2
      have f83 := F8 3
      have f84 := F8 4
      have f85 := F8 5
      have hkt := hkx.trans (Kx.put (X := fun b => (b = w.heap.size ∨ b = w.heap.size + 1 ∨ b = w.heap.size + 1 + 1) ∨ b = Dm) W4 Dm (.deferred none) (.inr rfl)) (fun b hb => .inl hb)
      refine ⟨by simp, .inl ⟨_, _, rfl, run_takeDeferred hK7, ?_⟩⟩
      refine ⟨.tuple #[.agg #[.int .i64 0, .slice none 0 0, .int .i64 0, .int .i64 0, .string ⟨#[]⟩, .slice none 0 0], .bool false, .int .i64 0], ?_, Hi.out.bel.trans (hkt.below (fun b hb => by omega) (Nat.le_trans hB Hi.out.bel.size)), .inl ⟨HRn.out, rfl⟩⟩
      simp [results, Try.results16, go_sem, f80, f81, f82, f83, f84, f85, f9', f10']
    case stop =>
      clear I0 hUw hCaps hseq
      rintro Dm c pre G W hDm hnG _ ⟨hbW, g8, g9, g10, (⟨rfl, hRn, b8, b9, b10⟩ | ⟨rfl, F, hRF, r1, r2, hsd, _, _, b8, b9, b10⟩)⟩ _ hK
      · have c8 := b8.cell
        have c9 := b9.cell
        have c10 := b10.cell
        have f8 := b8.frz
        have f9 := b9.frz
        have f10 := b10.frz
        have z8 := b8.lt
        have z9 := b9.lt
        have z10 := b10.lt
        gi_wp2
        have E8 := ((((((((b8.set_ 0 (.int .i64 0)).set_ 1 (.slice none 0 0)).set_ 2 (.int .i64 0)).set_ 3 (.int .i64 0)).set_ 4 (.string ⟨#[]⟩)).set_ 5 (.slice none 0 0)).far (p := ⟨w.heap.size + 1, 0, none⟩) (by dsimp only; omega) (.bool false)).far (p := ⟨w.heap.size + 1 + 1, 0, none⟩) (by dsimp only; omega) (.int .i64 0))
        have E9 := ((((((((b9.far (p := ⟨w.heap.size, 0, none⟩) (by dsimp only; omega) (.int .i64 0)).far (p := ⟨w.heap.size, 1, none⟩) (by dsimp only; omega) (.slice none 0 0)).far (p := ⟨w.heap.size, 2, none⟩) (by dsimp only; omega) (.int .i64 0)).far (p := ⟨w.heap.size, 3, none⟩) (by dsimp only; omega) (.int .i64 0)).far (p := ⟨w.heap.size, 4, none⟩) (by dsimp only; omega) (.string ⟨#[]⟩)).far (p := ⟨w.heap.size, 5, none⟩) (by dsimp only; omega) (.slice none 0 0)).set_ 0 (.bool false)).far (p := ⟨w.heap.size + 1 + 1, 0, none⟩) (by dsimp only; omega) (.int .i64 0))
        have E10 := ((((((((b10.far (p := ⟨w.heap.size, 0, none⟩) (by dsimp only; omega) (.int .i64 0)).far (p := ⟨w.heap.size, 1, none⟩) (by dsimp only; omega) (.slice none 0 0)).far (p := ⟨w.heap.size, 2, none⟩) (by dsimp only; omega) (.int .i64 0)).far (p := ⟨w.heap.size, 3, none⟩) (by dsimp only; omega) (.int .i64 0)).far (p := ⟨w.heap.size, 4, none⟩) (by dsimp only; omega) (.string ⟨#[]⟩)).far (p := ⟨w.heap.size, 5, none⟩) (by dsimp only; omega) (.slice none 0 0)).far (p := ⟨w.heap.size + 1, 0, none⟩) (by dsimp only; omega) (.bool false)).set_ 0 (.int .i64 0))
        have hkx := (((((((((Kx.refl (fun b => (b = w.heap.size ∨ b = w.heap.size + 1 ∨ b = w.heap.size + 1 + 1) ∨ b = Dm) W).setCell (p := ⟨w.heap.size, 0, none⟩) (.inl (.inl (.inl rfl))) (.int .i64 0)).setCell (p := ⟨w.heap.size, 1, none⟩) (.inl (.inl (.inl rfl))) (.slice none 0 0)).setCell (p := ⟨w.heap.size, 2, none⟩) (.inl (.inl (.inl rfl))) (.int .i64 0)).setCell (p := ⟨w.heap.size, 3, none⟩) (.inl (.inl (.inl rfl))) (.int .i64 0)).setCell (p := ⟨w.heap.size, 4, none⟩) (.inl (.inl (.inl rfl))) (.string ⟨#[]⟩)).setCell (p := ⟨w.heap.size, 5, none⟩) (.inl (.inl (.inl rfl))) (.slice none 0 0)).setCell (p := ⟨w.heap.size + 1, 0, none⟩) (.inl (.inl (.inr (.inl rfl)))) (.bool false)).setCell (p := ⟨w.heap.size + 1 + 1, 0, none⟩) (.inl (.inl (.inr (.inr rfl)))) (.int .i64 0))
        have hK0 := (KeepsOthers.setCell _ ⟨w.heap.size, 0, none⟩ (.int .i64 0)).same Dm _ hK rfl
        have hK1 := (KeepsOthers.setCell _ ⟨w.heap.size, 1, none⟩ (.slice none 0 0)).same Dm _ hK0 rfl
        have hK2 := (KeepsOthers.setCell _ ⟨w.heap.size, 2, none⟩ (.int .i64 0)).same Dm _ hK1 rfl
        have hK3 := (KeepsOthers.setCell _ ⟨w.heap.size, 3, none⟩ (.int .i64 0)).same Dm _ hK2 rfl
        have hK4 := (KeepsOthers.setCell _ ⟨w.heap.size, 4, none⟩ (.string ⟨#[]⟩)).same Dm _ hK3 rfl
        have hK5 := (KeepsOthers.setCell _ ⟨w.heap.size, 5, none⟩ (.slice none 0 0)).same Dm _ hK4 rfl
        have hK6 := (KeepsOthers.setCell _ ⟨w.heap.size + 1, 0, none⟩ (.bool false)).same Dm _ hK5 rfl
        have hK7 := (KeepsOthers.setCell _ ⟨w.heap.size + 1 + 1, 0, none⟩ (.int .i64 0)).same Dm _ hK6 rfl
        have hg := fun (X : World) => grownBy_putObj' X Dm (.deferred none)
        obtain ⟨W4, hW4⟩ : ∃ x, x = ((((((((W.setCell ⟨w.heap.size, 0, none⟩ (.int .i64 0)).setCell ⟨w.heap.size, 1, none⟩ (.slice none 0 0)).setCell ⟨w.heap.size, 2, none⟩ (.int .i64 0)).setCell ⟨w.heap.size, 3, none⟩ (.int .i64 0)).setCell ⟨w.heap.size, 4, none⟩ (.string ⟨#[]⟩)).setCell ⟨w.heap.size, 5, none⟩ (.slice none 0 0)).setCell ⟨w.heap.size + 1, 0, none⟩ (.bool false)).setCell ⟨w.heap.size + 1 + 1, 0, none⟩ (.int .i64 0)) := ⟨_, rfl⟩
        rw [← hW4] at E8 E9 E10 hkx hK7 ⊢
        have F8 := (Bk.keptN E8 (hg _) (fun r e => by cases e; exact ⟨_, hK7, rfl⟩)).cell
        have f9' := (Bk.keptN E9 (hg _) (fun r e => by cases e; exact ⟨_, hK7, rfl⟩)).cell 0
        have f10' := (Bk.keptN E10 (hg _) (fun r e => by cases e; exact ⟨_, hK7, rfl⟩)).cell 0
        have f80 := F8 0
        have f81 := F8 1
        have f82 := F8 2
        have f83 := F8 3
        have f84 := F8 4
        have f85 := F8 5
        have hkt := hkx.trans (Kx.put (X := fun b => (b = w.heap.size ∨ b = w.heap.size + 1 ∨ b = w.heap.size + 1 + 1) ∨ b = Dm) W4 Dm (.deferred none) (.inr rfl)) (fun b hb => .inl hb)
        refine ⟨by simp, .inl ⟨_, _, rfl, run_takeDeferred hK7, ?_⟩⟩
        refine ⟨.tuple #[.agg #[.int .i64 0, .slice none 0 0, .int .i64 0, .int .i64 0, .string ⟨#[]⟩, .slice none 0 0], .bool false, .int .i64 0], ?_, hbW.trans (hkt.below (fun b hb => by omega) (Nat.le_trans hB hbW.size)), .inl ⟨hRn, rfl⟩⟩
        simp [results, Try.results16, go_sem, f80, f81, f82, f83, f84, f85, f9', f10']
      · have c8 := b8.cell
        have c9 := b9.cell
        have c10 := b10.cell
        gi_wp2
        have hg := grownBy_putObj' W Dm (.deferred none)
        have hr_ : ∀ r, some Dm = some r → ∃ o : Obj, W.heap[r]? = some o ∧ o.isCells = false := fun r e => by cases e; exact ⟨_, hK, rfl⟩
        have F8 := (Bk.keptN b8 hg hr_).cell
        have f9' := (Bk.keptN b9 hg hr_).cell 0
        have f10' := (Bk.keptN b10 hg hr_).cell 0
        have f80 := F8 0
        have f81 := F8 1
        have f82 := F8 2
        have f83 := F8 3
        have f84 := F8 4
        have f85 := F8 5
        have hkt := Kx.put (X := fun b => b = Dm) W Dm (.deferred none) rfl
        have r1' := Rd.keptN r1 hg hr_
        have r2' := Rd.keptN r2 hg hr_
        refine ⟨by simp, .inl ⟨_, _, rfl, run_takeDeferred hK, ?_⟩⟩
        refine ⟨.tuple #[.agg #[.int .i64 F.K.ep, .slice F.A1 (bcs F.K.srt).length F.c1, .int .i64 F.K.sq, .int .i64 F.K.kd, .string ⟨F.K.txt.toArray⟩, .slice F.A2 F.n2 F.c2], .bool true, .int .i64 0], ?_, hbW.trans (hkt.below (fun b hb => by omega) (Nat.le_trans hB hbW.size)), .inr ⟨F, hRF, ⟨fun p hp => ?_, hsd⟩, rfl⟩⟩
        · simp [results, Try.results16, go_sem, f80, f81, f82, f83, f84, f85, f9', f10']
        · rcases List.mem_cons.1 hp with rfl | hp
          · exact r1'.more (by simp)
          · rcases List.mem_cons.1 hp with rfl | hp
            · exact r2'.more (by simp)
            · cases hp
  · have hA : newA ep srt sq all = none := if_neg hse
    have hne : (seekE ep srt sq != 0) = true := by simpa using hse
    rw [hA]
    have HSk := Lib.hid HSk
    clear hA
    gi_wp2_with (refine ⟨trivial, ?_⟩; gi_at_call 28; rw [← HW0.out]; refine (callsIn_wide.2 HSk.out).mono ?_; rintro e w1 ⟨v1, rfl, ho1, hb1⟩; obtain ⟨A1, c1, rfl, hc1⟩ := ho1.shape; have b8 := H8.out.below hb1 H8.out.lt; have b9 := H9.out.below hb1 H9.out.lt; have b10 := H10.out.below hb1 H10.out.lt; have c8 := b8.cell; have c9 := b9.cell; have c10 := b10.cell; have f8 := b8.frz; have f9 := b9.frz; have f10 := b10.frz; have z8 := b8.lt; have z9 := b9.lt; have z10 := b10.lt)
    have E8 := ((((((((b8.set_ 0 (.int .i64 0)).set_ 1 (.slice none 0 0)).set_ 2 (.int .i64 0)).set_ 3 (.int .i64 0)).set_ 4 (.string ⟨#[]⟩)).set_ 5 (.slice none 0 0)).far (p := ⟨w.heap.size + 1, 0, none⟩) (by dsimp only; omega) (.bool false)).far (p := ⟨w.heap.size + 1 + 1, 0, none⟩) (by dsimp only; omega) (.int .i64 (seekE ep srt sq)))
    have E9 := ((((((((b9.far (p := ⟨w.heap.size, 0, none⟩) (by dsimp only; omega) (.int .i64 0)).far (p := ⟨w.heap.size, 1, none⟩) (by dsimp only; omega) (.slice none 0 0)).far (p := ⟨w.heap.size, 2, none⟩) (by dsimp only; omega) (.int .i64 0)).far (p := ⟨w.heap.size, 3, none⟩) (by dsimp only; omega) (.int .i64 0)).far (p := ⟨w.heap.size, 4, none⟩) (by dsimp only; omega) (.string ⟨#[]⟩)).far (p := ⟨w.heap.size, 5, none⟩) (by dsimp only; omega) (.slice none 0 0)).set_ 0 (.bool false)).far (p := ⟨w.heap.size + 1 + 1, 0, none⟩) (by dsimp only; omega) (.int .i64 (seekE ep srt sq)))
    have E10 := ((((((((b10.far (p := ⟨w.heap.size, 0, none⟩) (by dsimp only; omega) (.int .i64 0)).far (p := ⟨w.heap.size, 1, none⟩) (by dsimp only; omega) (.slice none 0 0)).far (p := ⟨w.heap.size, 2, none⟩) (by dsimp only; omega) (.int .i64 0)).far (p := ⟨w.heap.size, 3, none⟩) (by dsimp only; omega) (.int .i64 0)).far (p := ⟨w.heap.size, 4, none⟩) (by dsimp only; omega) (.string ⟨#[]⟩)).far (p := ⟨w.heap.size, 5, none⟩) (by dsimp only; omega) (.slice none 0 0)).far (p := ⟨w.heap.size + 1, 0, none⟩) (by dsimp only; omega) (.bool false)).set_ 0 (.int .i64 (seekE ep srt sq)))
    have hkx := (((((((((Kx.refl (fun b => b = w.heap.size ∨ b = w.heap.size + 1 ∨ b = w.heap.size + 1 + 1) w1).setCell (p := ⟨w.heap.size, 0, none⟩) (.inl (.inl rfl)) (.int .i64 0)).setCell (p := ⟨w.heap.size, 1, none⟩) (.inl (.inl rfl)) (.slice none 0 0)).setCell (p := ⟨w.heap.size, 2, none⟩) (.inl (.inl rfl)) (.int .i64 0)).setCell (p := ⟨w.heap.size, 3, none⟩) (.inl (.inl rfl)) (.int .i64 0)).setCell (p := ⟨w.heap.size, 4, none⟩) (.inl (.inl rfl)) (.string ⟨#[]⟩)).setCell (p := ⟨w.heap.size, 5, none⟩) (.inl (.inl rfl)) (.slice none 0 0)).setCell (p := ⟨w.heap.size + 1, 0, none⟩) (.inl (.inr (.inl rfl))) (.bool false)).setCell (p := ⟨w.heap.size + 1 + 1, 0, none⟩) (.inl (.inr (.inr rfl))) (.int .i64 (seekE ep srt sq)))
    have F8 := E8.cell
    have f9' := E9.cell 0
    have f10' := E10.cell 0
    have f80 := F8 0
    have f81 := F8 1
    have f82 := F8 2
    have f83 := F8 3
    have f84 := F8 4
    have f85 := F8 5
    have hb : Below B w w1 := (Hb0.out.trans (hb1.mono (by omega))).mono hB
    refine ⟨.tuple #[.agg #[.int .i64 0, .slice none 0 0, .int .i64 0, .int .i64 0, .string ⟨#[]⟩, .slice none 0 0], .bool false, .int .i64 (seekE ep srt sq)], ?_, hb.trans (hkx.below (fun b hb => by omega) (Nat.le_trans hB (by have := hb.size; omega))), .inl ⟨rfl, rfl⟩⟩
    simp [results, Try.results16, go_sem, f80, f81, f82, f83, f84, f85, f9', f10']
end Go.Proofs.Ytedelkifadonjaa
/- Layer 23: the document's newest of a key: the walk. -/
namespace Go.Proofs.Ytedelkifadonjaa
open Go.RowKit Go.Lec Go.Op
theorem newestP_err {ep : Nat} {srt : List UInt8} {s : Int} {p : PairB} {l : List PairB} {e : Int} (h : dec p.1 = .error e) : newestP ep srt s (p :: l) = newestP ep srt s l := by rw [newestP, h]
theorem newestP_no {ep : Nat} {srt : List UInt8} {s : Int} {p : PairB} {l : List PairB} {K : Key} (h : dec p.1 = .ok K) (hi : isOf ep srt s K = false) : newestP ep srt s (p :: l) = newestP ep srt s l := by
  rw [newestP, h]; simp only; rw [hi]; rfl
theorem newestP_yes {ep : Nat} {srt : List UInt8} {s : Int} {p : PairB} {l : List PairB} {K : Key} (h : dec p.1 = .ok K) (hi : isOf ep srt s K = true) : newestP ep srt s (p :: l) = some (K, p.2) := by
  rw [newestP, h]; simp only; rw [hi]; rfl
set_option maxRecDepth 100000 in
set_option maxHeartbeats 3200000 in
theorem c_rNewest (w : World) {B B2 n c ns cs : Nat} {A As : Option Addr} {L : List Pr} {srt : List UInt8} {ep sq : Int} (hr : Prs w B A n L) (hB : B ≤ w.heap.size) (hrs : Rd w B2 As ns (bcs srt)) (hB2 : B2 ≤ w.heap.size) (hn : n ≤ 1000000) (hm : ∀ m ∈ L, m.n1 ≤ 1099511627) (hns : ns ≤ 65536) :
    Calls Try.prog 17 #[.slice A n c, .int .i64 ep, .slice As ns cs, .int .i64 sq] w (NewestP w.heap.size w (seekE ep srt sq) (newA ep srt sq (L.map Pr.pl))) := by
  have hln : srt.length = ns := by have := hrs.1; rwa [bcs_length] at this
  have hb0 : Below w.heap.size w (w.alloc (.cells #[.int .i64 0, .slice none 0 0, .int .i64 0, .int .i64 0, .string ⟨#[]⟩, .slice none 0 0] 40)) := (Below.refl _ _).alloc (Nat.le_refl _) _
  have h8 := Bk.new_ w 40 #[.int .i64 0, .slice none 0 0, .int .i64 0, .int .i64 0, .string ⟨#[]⟩, .slice none 0 0]
  have HSk := c_rSeek _ ep sq (c := cs) (hrs.below hb0 hB2) (Nat.le_trans hB2 hb0.size) (by omega)
  unfold RetBE at HSk
  have H8 := Lib.hid h8
  have Hb0 := Lib.hid hb0
  have HM := Lib.hid hm
  clear h8 hb0 hm
  by_cases hse : seekE ep srt sq = 0
  · obtain ⟨he, hq, hpe, hpb, hsb⟩ := seek_ok (by omega) hse
    have hA : newA ep srt sq (L.map Pr.pl) = newestP ep.toNat srt sq (L.map Pr.pl) := if_pos hse
    rw [hA, hse]
    clear hA
    rw [hse] at HSk
    have HSk := Lib.hid HSk
    obtain ⟨an, han⟩ : ∃ an, an = newestP ep.toNat srt sq (L.map Pr.pl) := ⟨_, rfl⟩
    rw [← han]
    have Han := Lib.hid han
    clear han hpe hpb hsb hse
    obtain ⟨ee, hee⟩ : ∃ ee, ee = ep.toNat := ⟨_, rfl⟩
    obtain rfl : ep = (ee : Int) := by omega
    have hee2 : (ee : Int).toNat = ee := Int.toNat_natCast ee
    rw [hee2] at Han
    clear hee hee2
    go_enter Try.func17, Try.ntmps17
    go_wp2_with fail
    refine HSk.out.mono ?_
    rintro e w1 ⟨v1, rfl, ho1, hb1⟩
    obtain ⟨A1, c1, rfl, hc1⟩ := ho1.shape
    have hb01 : Below w.heap.size w w1 := Hb0.out.trans (hb1.mono Hb0.out.size)
    have B8 := H8.out.below hb1 H8.out.lt
    clear HSk ho1 hb1
    go_wp2
    go_loopw [30] (fun i wr => ∃ k : Nat, k ≤ n ∧ i = .int .i64 k ∧ Below w.heap.size w wr ∧ Bk wr w.heap.size 40 #[.int .i64 0, .slice none 0 0, .int .i64 0, .int .i64 0, .string ⟨#[]⟩, .slice none 0 0] ∧ Hid (newestP ee srt sq ((L.map Pr.pl).drop k) = an)) (fun i _ => n - (intOf i).toNat)
    case atStart => exact ⟨0, Nat.zero_le _, rfl, hb01, B8, Lib.hid Han.out.symm⟩
    case round =>
      clear hb01 B8
      obtain ⟨k, hk, rfl, hbr, b8, HO⟩ := hrel
      by_cases hlt : k < n
      · obtain ⟨b, o, m, rfl, hbB, hmk, htk, hmok, hcell⟩ := hr.cell2 hlt
        obtain ⟨h0, h1⟩ := hcell wr (hbr.mono hB)
        have hBr : B ≤ wr.heap.size := Nat.le_trans hB hbr.size
        have hbx := (Below.refl wr.heap.size wr).alloc (Nat.le_refl _) (.cells #[.slice m.A1 m.n1 m.c1, .slice m.A2 m.n2 m.c2] 56)
        have HX := Bk.new_ wr 56 #[.slice m.A1 m.n1 m.c1, .slice m.A2 m.n2 m.c2]
        have hmo := ((hmok.below (hbr.mono hB) (Nat.le_refl _)).below hbx hBr).more (Nat.le_trans hBr hbx.size)
        have hmvB := hmok.2.1
        have b8x := b8.below hbx b8.lt
        have hbrx := hbr.trans (hbx.mono hbr.size)
        have hml := HM.out m (List.mem_of_getElem? hmk)
        have hdr := drop_pl hmk
        have HDe := c_rDecode _ hmo.1 (Nat.le_refl _) hmo.2.2.1 (by omega)
        have Hdr := Lib.hid hdr
        have qx := HX.cell 0
        clear hmk htk hcell hmok hdr
        cases hd : dec m.key with
        | error err =>
          have hV := newestP_err (ep := ee) (srt := srt) (s := sq) (p := m.pl) (l := (L.map Pr.pl).drop (k + 1)) hd
          have hne : (err == 0) = false := by rcases dec_err hd with rfl | rfl <;> rfl
          have HV := Lib.hid hV
          have HDc := Lib.hid (HDe.mono (R' := fun e w' => e = .returned (.tuple #[.agg #[.int .i64 0, .slice none 0 0, .int .i64 0, .int .i64 0, .string ⟨#[]⟩], .int .i64 err]) ∧ Below (wr.alloc (.cells #[.slice m.A1 m.n1 m.c1, .slice m.A2 m.n2 m.c2] 56)).heap.size (wr.alloc (.cells #[.slice m.A1 m.n1 m.c1, .slice m.A2 m.n2 m.c2] 56)) w') (by
            rintro e w' (⟨K', v, h, _⟩ | ⟨err', h, rfl, hb⟩)
            · rw [hd] at h; cases h
            · rw [hd] at h; cases h; exact ⟨rfl, hb⟩))
          clear HDe hV hd
          go_wp2_with (first | (go_at_call 20; refine HDc.out.mono ?_; rintro e w2 ⟨rfl, hb2⟩))
          have hb3 := hb2.alloc hb2.size (.cells #[.int .i64 0, .slice none 0 0, .int .i64 0, .int .i64 0, .string ⟨#[]⟩] 38)
          go_roundw
          case rel => exact ⟨k + 1, by omega, by go_num, hbrx.trans (hb3.mono hbrx.size), b8x.below hb3 b8x.lt, Lib.hid (by rw [← HO.out, Hdr.out, HV.out])⟩
          case measure => simp [intOf]; omega
        | ok K =>
          have HDc := Lib.hid (HDe.mono (R' := fun e w' => ∃ v, e = .returned (.tuple #[.agg #[.int .i64 K.ep, v, .int .i64 K.sq, .int .i64 K.kd, .string ⟨K.txt.toArray⟩], .int .i64 0]) ∧ Lec.Own w' (wr.alloc (.cells #[.slice m.A1 m.n1 m.c1, .slice m.A2 m.n2 m.c2] 56)).heap.size 5 v (bcs K.srt) ∧ Below (wr.alloc (.cells #[.slice m.A1 m.n1 m.c1, .slice m.A2 m.n2 m.c2] 56)).heap.size (wr.alloc (.cells #[.slice m.A1 m.n1 m.c1, .slice m.A2 m.n2 m.c2] 56)) w') (by
            rintro e w' (⟨K', v, h, rfl, h2, h3⟩ | ⟨err', h, _⟩)
            · rw [hd] at h; cases h; exact ⟨v, rfl, h2, h3⟩
            · rw [hd] at h; cases h))
          have hmv := hmo.2.1
          have hms := hmo.2.2.2.1
          have hzx : (wr.alloc (.cells #[.slice m.A1 m.n1 m.c1, .slice m.A2 m.n2 m.c2] 56)).heap.size = wr.heap.size + 1 := by simp
          clear HDe
          obtain ⟨kep, ksrt, ksq, kkd, ktxt⟩ := K
          dsimp only at HDc
          by_cases h1 : kep = ee
          · subst h1
            by_cases h2 : ksrt = srt
            · subst h2
              by_cases h3 : ksq ≤ sq
              · have hi : isOf kep ksrt sq ⟨kep, ksrt, ksq, kkd, ktxt⟩ = true := by unfold isOf; simp [h3]
                have hV := newestP_yes (p := m.pl) (l := (L.map Pr.pl).drop (k + 1)) hd hi
                have HV := Lib.hid hV
                clear hV hd hi
                go_wp2_with (first | (go_at_call 20; refine HDc.out.mono ?_; rintro e w2 ⟨v, rfl, ho, hb2⟩; obtain ⟨Av, cv, rfl, hcv⟩ := ho.shape; have hb3 := hb2.alloc hb2.size (.cells #[.int .i64 kep, .slice Av (bcs ksrt).length cv, .int .i64 ksq, .int .i64 kkd, .string ⟨ktxt.toArray⟩] 38); have HK := Bk.new_ w2 38 #[.int .i64 kep, .slice Av (bcs ksrt).length cv, .int .i64 ksq, .int .i64 kkd, .string ⟨ktxt.toArray⟩]; have n_ := HK.cell; have hzk : (w2.alloc (.cells #[.int .i64 kep, .slice Av (bcs ksrt).length cv, .int .i64 ksq, .int .i64 kkd, .string ⟨ktxt.toArray⟩] 38)).heap.size = w2.heap.size + 1 := (by simp); have hrK := (ho.alloc (.cells #[.int .i64 kep, .slice Av (bcs ksrt).length cv, .int .i64 ksq, .int .i64 kkd, .string ⟨ktxt.toArray⟩] 38)).rd; have hsv1 := run_str (P := Try.prog) Try.underlying23 Try.underlying5 Try.underlying9 (c := cv) hrK; have hsv2 := run_str (P := Try.prog) Try.underlying23 Try.underlying5 Try.underlying9 (c := cs) (hrs.below (hbrx.trans (hb3.mono hbrx.size)) hB2); have bX := HX.below hb3 HX.lt; have x1 := bX.cell 1; have b8 := b8x.below hb3 b8x.lt; have c8 := b8.cell; have f8 := b8.frz; have z8 := b8.lt))
                have E8 := ((((((b8.set_ 0 (.int .i64 kep)).set_ 1 (.slice Av (bcs ksrt).length cv)).set_ 2 (.int .i64 ksq)).set_ 3 (.int .i64 kkd)).set_ 4 (.string ⟨ktxt.toArray⟩)).set_ 5 (.slice m.A2 m.n2 m.c2))
                have hkx := (((((((Kx.refl (fun b => b = w.heap.size) (w2.alloc (.cells #[.int .i64 kep, .slice Av (bcs ksrt).length cv, .int .i64 ksq, .int .i64 kkd, .string ⟨ktxt.toArray⟩] 38))).setCell (p := ⟨w.heap.size, 0, none⟩) (.inl rfl) (.int .i64 kep)).setCell (p := ⟨w.heap.size, 1, none⟩) (.inl rfl) (.slice Av (bcs ksrt).length cv)).setCell (p := ⟨w.heap.size, 2, none⟩) (.inl rfl) (.int .i64 ksq)).setCell (p := ⟨w.heap.size, 3, none⟩) (.inl rfl) (.int .i64 kkd)).setCell (p := ⟨w.heap.size, 4, none⟩) (.inl rfl) (.string ⟨ktxt.toArray⟩)).setCell (p := ⟨w.heap.size, 5, none⟩) (.inl rfl) (.slice m.A2 m.n2 m.c2))
                have F8 := E8.cell
                have f80 := F8 0
                have f81 := F8 1
                have f82 := F8 2
                have f83 := F8 3
                have f84 := F8 4
                have f85 := F8 5
                have hav : 0 < (bcs ksrt).length → ∀ a, Av = some a → (wr.alloc (.cells #[.slice m.A1 m.n1 m.c1, .slice m.A2 m.n2 m.c2] 56)).heap.size ≤ a.block := fun _ a e => (ho.lt a.block (by rw [e]; rfl)).1
                have hzw := hbr.size
                have hmv3 := (hmv.below hb3 (Nat.le_refl _)).more hb3.size
                have hb33 := hbrx.trans (hb3.mono hbrx.size)
                refine bodyPost_ret (v := .tuple #[.agg #[.int .i64 kep, .slice Av (bcs ksrt).length cv, .int .i64 ksq, .int .i64 kkd, .string ⟨ktxt.toArray⟩, .slice m.A2 m.n2 m.c2], .bool true, .int .i64 0]) ?_ rfl ⟨hb33.trans (hkx.below (fun b hb => by omega) hb33.size), .inr ⟨⟨⟨kep, ksrt, ksq, kkd, ktxt⟩, Av, cv, m.A2, m.n2, m.c2, m.vl⟩, by rw [← HO.out, Hdr.out, HV.out]; rfl, ⟨fun p hp => ?_, hcv, hms⟩, rfl⟩⟩
                · simp [results, Try.results17, go_sem, f80, f81, f82, f83, f84, f85]
                · rcases List.mem_cons.1 hp with rfl | hp
                  · exact hrK.kx hkx (fun hn a e hx => by have := hav hn a e; omega)
                  · rcases List.mem_cons.1 hp with rfl | hp
                    · exact hmv3.kx hkx (fun hn a e hx => by
                        obtain ⟨b', o', e', hb', _⟩ := hmvB.2 hn
                        rw [e'] at e; cases e; dsimp only at hx; omega)
                    · cases hp
              · have hi : isOf kep ksrt sq ⟨kep, ksrt, ksq, kkd, ktxt⟩ = false := by unfold isOf; simp [h3]
                have hV := newestP_no (ep := kep) (srt := ksrt) (s := sq) (p := m.pl) (l := (L.map Pr.pl).drop (k + 1)) hd hi
                have HV := Lib.hid hV
                clear hV hd
                go_wp2_with (first | (go_at_call 20; refine HDc.out.mono ?_; rintro e w2 ⟨v, rfl, ho, hb2⟩; obtain ⟨Av, cv, rfl, hcv⟩ := ho.shape; have hb3 := hb2.alloc hb2.size (.cells #[.int .i64 kep, .slice Av (bcs ksrt).length cv, .int .i64 ksq, .int .i64 kkd, .string ⟨ktxt.toArray⟩] 38); have HK := Bk.new_ w2 38 #[.int .i64 kep, .slice Av (bcs ksrt).length cv, .int .i64 ksq, .int .i64 kkd, .string ⟨ktxt.toArray⟩]; have n_ := HK.cell; have hzk : (w2.alloc (.cells #[.int .i64 kep, .slice Av (bcs ksrt).length cv, .int .i64 ksq, .int .i64 kkd, .string ⟨ktxt.toArray⟩] 38)).heap.size = w2.heap.size + 1 := (by simp); have hrK := (ho.alloc (.cells #[.int .i64 kep, .slice Av (bcs ksrt).length cv, .int .i64 ksq, .int .i64 kkd, .string ⟨ktxt.toArray⟩] 38)).rd; have hsv1 := run_str (P := Try.prog) Try.underlying23 Try.underlying5 Try.underlying9 (c := cv) hrK; have hsv2 := run_str (P := Try.prog) Try.underlying23 Try.underlying5 Try.underlying9 (c := cs) (hrs.below (hbrx.trans (hb3.mono hbrx.size)) hB2); have bX := HX.below hb3 HX.lt; have x1 := bX.cell 1; have b8 := b8x.below hb3 b8x.lt; have c8 := b8.cell; have f8 := b8.frz; have z8 := b8.lt))
                go_roundw
                case rel => exact ⟨k + 1, by omega, by go_num, hbrx.trans (hb3.mono hbrx.size), b8, Lib.hid (by rw [← HO.out, Hdr.out, HV.out])⟩
                case measure => simp [intOf]; omega
            · have h2' : (ksrt == srt) = false := by rw [beq_eq_false_iff_ne]; exact h2
              have hi : isOf kep srt sq ⟨kep, ksrt, ksq, kkd, ktxt⟩ = false := by unfold isOf; simp [h2]
              have hV := newestP_no (ep := kep) (srt := srt) (s := sq) (p := m.pl) (l := (L.map Pr.pl).drop (k + 1)) hd hi
              have HV := Lib.hid hV
              clear hV hd
              go_wp2_with (first | (go_at_call 20; refine HDc.out.mono ?_; rintro e w2 ⟨v, rfl, ho, hb2⟩; obtain ⟨Av, cv, rfl, hcv⟩ := ho.shape; have hb3 := hb2.alloc hb2.size (.cells #[.int .i64 kep, .slice Av (bcs ksrt).length cv, .int .i64 ksq, .int .i64 kkd, .string ⟨ktxt.toArray⟩] 38); have HK := Bk.new_ w2 38 #[.int .i64 kep, .slice Av (bcs ksrt).length cv, .int .i64 ksq, .int .i64 kkd, .string ⟨ktxt.toArray⟩]; have n_ := HK.cell; have hzk : (w2.alloc (.cells #[.int .i64 kep, .slice Av (bcs ksrt).length cv, .int .i64 ksq, .int .i64 kkd, .string ⟨ktxt.toArray⟩] 38)).heap.size = w2.heap.size + 1 := (by simp); have hrK := (ho.alloc (.cells #[.int .i64 kep, .slice Av (bcs ksrt).length cv, .int .i64 ksq, .int .i64 kkd, .string ⟨ktxt.toArray⟩] 38)).rd; have hsv1 := run_str (P := Try.prog) Try.underlying23 Try.underlying5 Try.underlying9 (c := cv) hrK; have hsv2 := run_str (P := Try.prog) Try.underlying23 Try.underlying5 Try.underlying9 (c := cs) (hrs.below (hbrx.trans (hb3.mono hbrx.size)) hB2); have bX := HX.below hb3 HX.lt; have x1 := bX.cell 1; have b8 := b8x.below hb3 b8x.lt; have c8 := b8.cell; have f8 := b8.frz; have z8 := b8.lt))
              go_roundw
              case rel => exact ⟨k + 1, by omega, by go_num, hbrx.trans (hb3.mono hbrx.size), b8, Lib.hid (by rw [← HO.out, Hdr.out, HV.out])⟩
              case measure => simp [intOf]; omega
          · have h1' : ((kep : Int) == (ee : Int)) = false := by rw [beq_eq_false_iff_ne]; omega
            have hi : isOf ee srt sq ⟨kep, ksrt, ksq, kkd, ktxt⟩ = false := by unfold isOf; simp [h1]
            have hV := newestP_no (ep := ee) (srt := srt) (s := sq) (p := m.pl) (l := (L.map Pr.pl).drop (k + 1)) hd hi
            have HV := Lib.hid hV
            clear hV hd
            go_wp2_with (first | (go_at_call 20; refine HDc.out.mono ?_; rintro e w2 ⟨v, rfl, ho, hb2⟩; obtain ⟨Av, cv, rfl, hcv⟩ := ho.shape; have hb3 := hb2.alloc hb2.size (.cells #[.int .i64 kep, .slice Av (bcs ksrt).length cv, .int .i64 ksq, .int .i64 kkd, .string ⟨ktxt.toArray⟩] 38); have HK := Bk.new_ w2 38 #[.int .i64 kep, .slice Av (bcs ksrt).length cv, .int .i64 ksq, .int .i64 kkd, .string ⟨ktxt.toArray⟩]; have n_ := HK.cell; have hzk : (w2.alloc (.cells #[.int .i64 kep, .slice Av (bcs ksrt).length cv, .int .i64 ksq, .int .i64 kkd, .string ⟨ktxt.toArray⟩] 38)).heap.size = w2.heap.size + 1 := (by simp); have hrK := (ho.alloc (.cells #[.int .i64 kep, .slice Av (bcs ksrt).length cv, .int .i64 ksq, .int .i64 kkd, .string ⟨ktxt.toArray⟩] 38)).rd; have hsv1 := run_str (P := Try.prog) Try.underlying23 Try.underlying5 Try.underlying9 (c := cv) hrK; have hsv2 := run_str (P := Try.prog) Try.underlying23 Try.underlying5 Try.underlying9 (c := cs) (hrs.below (hbrx.trans (hb3.mono hbrx.size)) hB2); have bX := HX.below hb3 HX.lt; have x1 := bX.cell 1; have b8 := b8x.below hb3 b8x.lt; have c8 := b8.cell; have f8 := b8.frz; have z8 := b8.lt))
            go_roundw
            case rel => exact ⟨k + 1, by omega, by go_num, hbrx.trans (hb3.mono hbrx.size), b8, Lib.hid (by rw [← HO.out, Hdr.out, HV.out])⟩
            case measure => simp [intOf]; omega
      · obtain rfl : k = n := by omega
        have hno : an = none := by
          rw [← HO.out, List.drop_eq_nil_of_le (by rw [List.length_map, hr.len]; exact Nat.le_refl _)]; rfl
        have z8 := b8.lt
        have f8 := b8.frz
        have c8 := b8.cell
        have Hno := Lib.hid hno
        clear hno
        go_wp2
        have E8 := ((((((b8.set_ 0 (.int .i64 0)).set_ 1 (.slice none 0 0)).set_ 2 (.int .i64 0)).set_ 3 (.int .i64 0)).set_ 4 (.string ⟨#[]⟩)).set_ 5 (.slice none 0 0))
        have hkx := (((((((Kx.refl (fun b => b = w.heap.size) wr).setCell (p := ⟨w.heap.size, 0, none⟩) (.inl rfl) (.int .i64 0)).setCell (p := ⟨w.heap.size, 1, none⟩) (.inl rfl) (.slice none 0 0)).setCell (p := ⟨w.heap.size, 2, none⟩) (.inl rfl) (.int .i64 0)).setCell (p := ⟨w.heap.size, 3, none⟩) (.inl rfl) (.int .i64 0)).setCell (p := ⟨w.heap.size, 4, none⟩) (.inl rfl) (.string ⟨#[]⟩)).setCell (p := ⟨w.heap.size, 5, none⟩) (.inl rfl) (.slice none 0 0))
        have F8 := E8.cell
        have f80 := F8 0
        have f81 := F8 1
        have f82 := F8 2
        have f83 := F8 3
        have f84 := F8 4
        have f85 := F8 5
        refine bodyPost_ret (v := .tuple #[.agg #[.int .i64 0, .slice none 0 0, .int .i64 0, .int .i64 0, .string ⟨#[]⟩, .slice none 0 0], .bool false, .int .i64 0]) ?_ rfl ⟨hbr.trans (hkx.below (fun b hb => by omega) hbr.size), .inl ⟨Hno.out, rfl⟩⟩
        simp [results, Try.results17, go_sem, f80, f81, f82, f83, f84, f85]
  · have hA : newA ep srt sq (L.map Pr.pl) = none := if_neg hse
    have hne : (seekE ep srt sq != 0) = true := by simpa using hse
    rw [hA]
    have HSk := Lib.hid HSk
    clear hA
    go_enter Try.func17, Try.ntmps17
    go_wp2_with fail
    refine HSk.out.mono ?_
    rintro e w1 ⟨v1, rfl, ho1, hb1⟩
    obtain ⟨A1, c1, rfl, hc1⟩ := ho1.shape
    have b8 := H8.out.below hb1 H8.out.lt
    have z8 := b8.lt
    have f8 := b8.frz
    have c8 := b8.cell
    have hb01 : Below w.heap.size w w1 := Hb0.out.trans (hb1.mono Hb0.out.size)
    clear HSk ho1 hb1
    go_wp2
    have E8 := ((((((b8.set_ 0 (.int .i64 0)).set_ 1 (.slice none 0 0)).set_ 2 (.int .i64 0)).set_ 3 (.int .i64 0)).set_ 4 (.string ⟨#[]⟩)).set_ 5 (.slice none 0 0))
    have hkx := (((((((Kx.refl (fun b => b = w.heap.size) w1).setCell (p := ⟨w.heap.size, 0, none⟩) (.inl rfl) (.int .i64 0)).setCell (p := ⟨w.heap.size, 1, none⟩) (.inl rfl) (.slice none 0 0)).setCell (p := ⟨w.heap.size, 2, none⟩) (.inl rfl) (.int .i64 0)).setCell (p := ⟨w.heap.size, 3, none⟩) (.inl rfl) (.int .i64 0)).setCell (p := ⟨w.heap.size, 4, none⟩) (.inl rfl) (.string ⟨#[]⟩)).setCell (p := ⟨w.heap.size, 5, none⟩) (.inl rfl) (.slice none 0 0))
    have F8 := E8.cell
    have f80 := F8 0
    have f81 := F8 1
    have f82 := F8 2
    have f83 := F8 3
    have f84 := F8 4
    have f85 := F8 5
    refine bodyPost_ret (v := .tuple #[.agg #[.int .i64 0, .slice none 0 0, .int .i64 0, .int .i64 0, .string ⟨#[]⟩, .slice none 0 0], .bool false, .int .i64 (seekE ep srt sq)]) ?_ rfl ⟨hb01.trans (hkx.below (fun b hb => by omega) hb01.size), .inl ⟨rfl, rfl⟩⟩
    simp [results, Try.results17, go_sem, f80, f81, f82, f83, f84, f85]
end Go.Proofs.Ytedelkifadonjaa
/- Layer 23: the newest of a key among several lists (MergeNewest). -/
namespace Go.Lec
theorem mem_le_sum {x : Nat} : ∀ {l : List Nat}, x ∈ l → x ≤ l.sum
  | y :: l, h => by
    rw [List.sum_cons]
    rcases List.mem_cons.1 h with rfl | h
    · omega
    · have := mem_le_sum h; omega
theorem key_tot {ls : List (List PairB)} {p : PairB} (h : p ∈ ls.flatten) : p.1.length ≤ totM ls := by
  obtain ⟨l, hl, hp⟩ := List.mem_flatten.1 h
  have h1 : szP p ≤ szL l := mem_le_sum (List.mem_map.2 ⟨p, hp, rfl⟩)
  have h2 : szL l ≤ (ls.map szL).sum := mem_le_sum (List.mem_map.2 ⟨l, hl, rfl⟩)
  unfold totM
  unfold szP at h1
  omega
theorem putIn_len (out : List PairB) (p : PairB) : (putIn out p).length ≤ out.length + 1 := by
  unfold putIn
  split
  · omega
  · have := slot_le out p.1 out.length
    rw [List.length_append, List.length_cons, List.length_take, List.length_drop]; omega
theorem fold_len : ∀ (l out : List PairB), (l.foldl putIn out).length ≤ out.length + l.length
  | [], out => by simp
  | p :: l, out => by
    have h1 := fold_len l (putIn out p)
    have h2 := putIn_len out p
    rw [List.foldl_cons, List.length_cons]; omega
theorem allL_len (l : List PairB) : (allL l).length ≤ l.length := by have := fold_len l []; rw [List.length_nil] at this; unfold allL; omega
theorem all_key {l : List PairB} {p : PairB} (h : p ∈ allL l) : p ∈ l := (firstK_mem (((allL_all l).mem p).1 h)).1
end Go.Lec
namespace Go.Proofs.Ytedelkifadonjaa
open Go.RowKit Go.Lec Go.Op
/-- What was found lies so, or is zero. -/
def fd0 : Fnd := ⟨⟨0, [], 0, 0, []⟩, none, 0, none, 0, 0, []⟩
theorem newP_one {B : Nat} {w w' : World} {err : Int} {o : Option (Key × List UInt8)} {e : Ending} (h : NewestP B w err o e w') :
    ∃ F : Fnd, encFd.ok w' w'.heap.size F ∧ e = .returned (.tuple #[.agg #[.int .i64 F.K.ep, .slice F.A1 (bcs F.K.srt).length F.c1, .int .i64 F.K.sq, .int .i64 F.K.kd, .string ⟨F.K.txt.toArray⟩, .slice F.A2 F.n2 F.c2], .bool o.isSome, .int .i64 err]) ∧ F.pl = o.getD fd0.pl ∧ Below B w w' := by
  obtain ⟨hb, (⟨rfl, rfl⟩ | ⟨F, rfl, hok, rfl⟩)⟩ := h
  · refine ⟨fd0, ⟨fun p hp => ?_, Nat.le_refl _, Nat.le_refl _⟩, rfl, rfl, hb⟩
    rcases List.mem_cons.1 hp with rfl | hp
    · exact Rd.nil_
    · rcases List.mem_cons.1 hp with rfl | hp
      · exact Rd.nil_
      · cases hp
  · exact ⟨F, hok, rfl, rfl, hb⟩
set_option maxRecDepth 100000 in
set_option maxHeartbeats 3200000 in
theorem w_MergeNewest (w : World) {B B2 n c ns cs : Nat} {A As : Option Addr} {Ls : List (Sl Pr)} {srt : List UInt8} {ep sq : Int} (hl : Lists w B n A Ls) (hs : Rd w B2 As ns (bcs srt)) (hB2 : B2 ≤ w.heap.size) :
    Calls Try.prog 5 #[.slice A n c, .int .i64 ep, .slice As ns cs, .int .i64 sq] w (BoolP w true) := by
  have HA := c_awake w
  unfold BoolP at HA
  have HA := Lib.hid HA
  have HL := Lib.hid (fun (V : World) (hV : Below w.heap.size w V) => hl.below hV)
  have HR := Lib.hid (fun (V : World) (hV : Below w.heap.size w V) => (hs.below hV hB2).more (Nat.le_trans hB2 hV.size))
  have Hl := Lib.hid hl
  clear hl hs
  go_enter Try.func5, Try.ntmps5
  go_wp2_with fail
  refine HA.out.mono ?_
  rintro e w1 ⟨rfl, hb1⟩
  have l1 := HL.out w1 hb1
  have HF := c_fewM w1 (c := c) l1.els l1.hB (by have := l1.n; omega) (fun s hs => by have := l1.ns s hs; omega) (by have := l1.tot; omega)
  unfold BoolP at HF
  clear HA
  by_cases hfew : totM (Ls.map Sl.pls) ≤ 5000
  · rw [decide_eq_true hfew] at HF
    have HF := Lib.hid HF
    obtain ⟨f1, f2, f3⟩ := Hl.out.few hfew
    have HKey := Lib.hid (fun (p : PairB) (hp : p ∈ allL (Ls.map Sl.pls).flatten) => Nat.le_trans (key_tot (all_key hp)) hfew)
    clear l1 hfew
    by_cases h1000 : 1000 < ns
    · have h1000' : (1000 : Int) < (ns : Int) := by omega
      go_wp2_with fail
      refine HF.out.mono ?_
      rintro e w2 ⟨rfl, hb2⟩
      have hb02 := hb1.trans (hb2.mono hb1.size)
      go_wp2
      go_ret
      exact ⟨rfl, hb02⟩
    · have h1000' : ¬ (1000 : Int) < (ns : Int) := by omega
      go_wp2_with fail
      refine HF.out.mono ?_
      rintro e w2 ⟨rfl, hb2⟩
      have hb02 := hb1.trans (hb2.mono hb1.size)
      have Hb02 := Lib.hid hb02
      have l2 := HL.out w2 hb02
      have HSr := c_sources w2 (c := c) l2.els l2.hB (by omega) (fun s hs => by have := f3 s hs; omega)
      unfold SourcesP at HSr
      have HSr := Lib.hid HSr
      have Hlen := Lib.hid (show Ls.length = n from Hl.out.els.2.1)
      clear HF hb1 hb2 hb02 l2
      go_wp2_with fail
      refine HSr.out.mono ?_
      rintro e w4 ⟨D, Ss, A4, c4, rfl, hS⟩
      have HN := c_New w4 (c := c4) (rd_ownK hS.own) (Nat.le_refl _) hS.srcs (by rw [hS.len, Hlen.out]; omega) (fun b hb => (hS.dlt b hb).2)
      unfold NewP at HN
      have HN := Lib.hid HN
      have HS := Lib.hid hS
      clear hS HSr
      go_wp2_with fail
      refine HN.out.mono ?_
      rintro e w5 ⟨X, D5, rfl, hI5, hX5, hb5, hg5, hib5, hhb5⟩
      obtain ⟨all, hall⟩ : ∃ all, all = allL (Ls.map Sl.pls).flatten := ⟨_, rfl⟩
      rw [← hall] at HKey
      have hal : all.length ≤ 5000 := by
        rw [hall]
        have h1 := (allL_all (Ls.map Sl.pls).flatten)
        rw [← flat_pls]
        exact Nat.le_trans (allL_len _) (by rw [List.length_map]; exact f2)
      have hmk : Makes X all := by
        have h1 := new_makes hX5
        rw [HS.out.srcL_] at h1
        refine ⟨by rw [h1, hall]; exact all_of_all _, fun l hl => ?_⟩
        rw [h1] at hl
        obtain ⟨x, _, rfl⟩ := List.mem_map.1 hl
        exact (allL_all x).srt
      have hctl : ∀ b ∈ X.ctl, w2.heap.size ≤ b := fun b hb => by
        have hz := HS.out.below.size
        rcases ctl_mem.1 hb with rfl | ⟨h, hh, rfl | rfl⟩
        · omega
        · have := hhb5 h hh; omega
        · refine HS.out.sge h.src ?_
          have h1 : h.src ∈ Ss.filterMap id := by rw [← hX5]; exact List.mem_map.2 ⟨h, hh, rfl⟩
          obtain ⟨o, ho, he⟩ := List.mem_filterMap.1 h1
          have he : o = some h.src := he
          rw [← he]; exact ho
      have hXn : X.Hs.length ≤ 5000 := by
        have h1 := congrArg List.length hX5
        rw [List.length_map] at h1
        have h2 := List.length_filterMap_le (id : Option (Nat × Sl Pr) → Option (Nat × Sl Pr)) Ss
        have h3 := HS.out.len
        have h4 := Hlen.out
        omega
      have hb25 := HS.out.below.trans (hb5.mono HS.out.below.size)
      have hb05 := Hb02.out.trans (hb25.mono Hb02.out.size)
      have hNw := c_Newest w5 (cs := cs) (ep := ep) (sq := sq) hI5 hmk (by omega) (by omega) (by omega) (fun b hb => (hg5.new_ b hb).elim (fun h => Nat.lt_of_lt_of_le (HS.out.dlt b h).2 hg5.size) (fun h => h.2)) hb25.size hctl (HR.out w5 hb05) (by omega) (fun p hp => by have := HKey.out p hp; omega) (by rw [hall]; exact (allL_all _).srt)
      have HNw := Lib.hid hNw
      have Hb25 := Lib.hid hb25
      have Hal := Lib.hid hal
      have Hall := Lib.hid hall
      clear HN HS hI5 hX5 hb5 hg5 hib5 hhb5 hmk hctl hNw hb25 hb05 hal hall
      go_wp2_with fail
      refine HNw.out.mono ?_
      intro e w6 hP
      obtain ⟨F1, hok1, rfl, hpl1, hb6⟩ := newP_one hP
      have hb26 := Hb25.out.trans hb6
      have hb7 := (Below.refl w6.heap.size w6).alloc (Nat.le_refl _) (.cells #[.int .i64 F1.K.ep, .slice F1.A1 (bcs F1.K.srt).length F1.c1, .int .i64 F1.K.sq, .int .i64 F1.K.kd, .string ⟨F1.K.txt.toArray⟩, .slice F1.A2 F1.n2 F1.c2] 40)
      have N7 := Bk.new_ w6 40 #[.int .i64 F1.K.ep, .slice F1.A1 (bcs F1.K.srt).length F1.c1, .int .i64 F1.K.sq, .int .i64 F1.K.kd, .string ⟨F1.K.txt.toArray⟩, .slice F1.A2 F1.n2 F1.c2]
      obtain ⟨w7, hw7⟩ : ∃ x, x = w6.alloc (.cells #[.int .i64 F1.K.ep, .slice F1.A1 (bcs F1.K.srt).length F1.c1, .int .i64 F1.K.sq, .int .i64 F1.K.kd, .string ⟨F1.K.txt.toArray⟩, .slice F1.A2 F1.n2 F1.c2] 40) := ⟨_, rfl⟩
      rw [← hw7] at hb7 N7
      have Hw7 := Lib.hid hw7
      have hb07 := (Hb02.out.trans (hb26.mono Hb02.out.size)).trans (hb7.mono (by have := hb26.size; have := Hb02.out.size; omega))
      have l7 := HL.out w7 hb07
      have HW := c_AllM w7 (cc := c) l7.els l7.hB (by omega) (by omega)
      unfold AllPost at HW
      have HW := Lib.hid HW
      have Hok1 := Lib.hid hok1
      have Hb07 := Lib.hid hb07
      have Hb7 := Lib.hid hb7
      have HN7 := Lib.hid N7
      have Hpl1 := Lib.hid hpl1
      clear hP hok1 hb6 hb26 hb7 N7 hw7 hb07 l7 HNw hpl1
      go_wp2_with (go_at_call 9; rw [← Hw7.out]; refine HW.out.mono ?_; rintro e w8 ⟨Aw, nw, cw, O, rfl, hncw, hnl, hO, hOm, hOp, hb8⟩)
      have hOa : O.map Pr.pl = all := by rw [hOp, flat_pls, Hall.out]
      have hb08 := Hb07.out.trans (hb8.mono Hb07.out.size)
      have hrN := c_rNewest w8 (c := cw) (cs := cs) (ep := ep) (sq := sq) hO (Nat.le_refl _) (HR.out w8 hb08) (Nat.le_refl _) (by omega) (fun m hm => by
        have h1 := HKey.out m.pl (by rw [← hOa]; exact List.mem_map.2 ⟨m, hm, rfl⟩)
        have h2 := (hO.2 m hm).1.1
        rw [bcs_length] at h2
        have h3 : m.pl.1.length = m.key.length := rfl
        omega) (by omega)
      rw [hOa] at hrN
      have HrN := Lib.hid hrN
      have Hb08 := Lib.hid hb08
      have HN8 := Lib.hid (HN7.out.below hb8 HN7.out.lt)
      have Hok8 := Lib.hid (And.intro ((Hok1.out.below Hb7.out (Nat.le_refl _)).more Hb7.out.size) hb8)
      clear hOa hb08 hrN hO hOm hOp hb8 HW
      go_wp2_with (go_at_call 17; refine HrN.out.mono ?_; intro e w9 hP; obtain ⟨F2, hok2, rfl, hpl2, hb9⟩ := newP_one hP; clear hP; have hbA := (Below.refl w9.heap.size w9).alloc (Nat.le_refl _) (.cells #[.int .i64 F2.K.ep, .slice F2.A1 (bcs F2.K.srt).length F2.c1, .int .i64 F2.K.sq, .int .i64 F2.K.kd, .string ⟨F2.K.txt.toArray⟩, .slice F2.A2 F2.n2 F2.c2] 40); have BA1 := (HN8.out.below hb9 HN8.out.lt).alloc (.cells #[.int .i64 F2.K.ep, .slice F2.A1 (bcs F2.K.srt).length F2.c1, .int .i64 F2.K.sq, .int .i64 F2.K.kd, .string ⟨F2.K.txt.toArray⟩, .slice F2.A2 F2.n2 F2.c2] 40); have BA2 := Bk.new_ w9 40 #[.int .i64 F2.K.ep, .slice F2.A1 (bcs F2.K.srt).length F2.c1, .int .i64 F2.K.sq, .int .i64 F2.K.kd, .string ⟨F2.K.txt.toArray⟩, .slice F2.A2 F2.n2 F2.c2]; have hbB := hbA.alloc hbA.size (.cells #[.int .i64 F1.K.ep, .slice F1.A1 (bcs F1.K.srt).length F1.c1, .int .i64 F1.K.sq, .int .i64 F1.K.kd, .string ⟨F1.K.txt.toArray⟩, .slice F1.A2 F1.n2 F1.c2] 40); have hbC := hbB.alloc hbB.size (.cells #[.int .i64 F2.K.ep, .slice F2.A1 (bcs F2.K.srt).length F2.c1, .int .i64 F2.K.sq, .int .i64 F2.K.kd, .string ⟨F2.K.txt.toArray⟩, .slice F2.A2 F2.n2 F2.c2] 40); have BB2 := BA2.alloc (.cells #[.int .i64 F1.K.ep, .slice F1.A1 (bcs F1.K.srt).length F1.c1, .int .i64 F1.K.sq, .int .i64 F1.K.kd, .string ⟨F1.K.txt.toArray⟩, .slice F1.A2 F1.n2 F1.c2] 40); have R1 := (Bk.new_ (w9.alloc (.cells #[.int .i64 F2.K.ep, .slice F2.A1 (bcs F2.K.srt).length F2.c1, .int .i64 F2.K.sq, .int .i64 F2.K.kd, .string ⟨F2.K.txt.toArray⟩, .slice F2.A2 F2.n2 F2.c2] 40)) 40 #[.int .i64 F1.K.ep, .slice F1.A1 (bcs F1.K.srt).length F1.c1, .int .i64 F1.K.sq, .int .i64 F1.K.kd, .string ⟨F1.K.txt.toArray⟩, .slice F1.A2 F1.n2 F1.c2]).alloc (.cells #[.int .i64 F2.K.ep, .slice F2.A1 (bcs F2.K.srt).length F2.c1, .int .i64 F2.K.sq, .int .i64 F2.K.kd, .string ⟨F2.K.txt.toArray⟩, .slice F2.A2 F2.n2 F2.c2] 40); have R2 := Bk.new_ ((w9.alloc (.cells #[.int .i64 F2.K.ep, .slice F2.A1 (bcs F2.K.srt).length F2.c1, .int .i64 F2.K.sq, .int .i64 F2.K.kd, .string ⟨F2.K.txt.toArray⟩, .slice F2.A2 F2.n2 F2.c2] 40)).alloc (.cells #[.int .i64 F1.K.ep, .slice F1.A1 (bcs F1.K.srt).length F1.c1, .int .i64 F1.K.sq, .int .i64 F1.K.kd, .string ⟨F1.K.txt.toArray⟩, .slice F1.A2 F1.n2 F1.c2] 40)) 40 #[.int .i64 F2.K.ep, .slice F2.A1 (bcs F2.K.srt).length F2.c1, .int .i64 F2.K.sq, .int .i64 F2.K.kd, .string ⟨F2.K.txt.toArray⟩, .slice F2.A2 F2.n2 F2.c2]; have ok1 := (((((Hok8.out.1.below Hok8.out.2 (Nat.le_refl _)).more Hok8.out.2.size).below hb9 (Nat.le_refl _)).more hb9.size).below hbC (Nat.le_refl _)).more hbC.size; have ok2 := (hok2.below hbC (Nat.le_refl _)).more hbC.size; have HS_ := c_Same _ (c1 := 1) (c2 := 1) (F1 := [F1]) (F2 := [F2]) ⟨rdK_bkM (k := 6) (n := 1) R1 rfl rfl, rfl, fun m hm => by rw [List.mem_singleton.1 hm]; exact ok1⟩ ⟨rdK_bkM (k := 6) (n := 1) R2 rfl rfl, rfl, fun m hm => by rw [List.mem_singleton.1 hm]; exact ok2⟩ (Nat.le_refl _) (by rw [List.map_singleton, List.map_singleton, Hpl1.out, hpl2]) (by decide); have HS_ := Lib.hid HS_; have HbC := Lib.hid (And.intro hb9 hbC); have q1 := BA1.cell; have q2 := BB2.cell; have z9 := BA2.lt; clear hbA BA1 BA2 hbB hbC BB2 R1 R2 ok1 ok2 hok2 hpl2 hb9)
      have HS2 := HS_.out
      simp only [World.size_alloc] at HS2
      go_at_call 13
      refine HS2.mono ?_
      rintro e w10 ⟨rfl, hb10⟩
      have hz8 := Hb08.out.size
      have hb09 := Hb08.out.trans (HbC.out.1.mono hz8)
      have hb0C := hb09.trans (HbC.out.2.mono hb09.size)
      have hb0D := hb0C.trans (hb10.mono (by have h1 := hb0C.size; simp only [World.size_alloc] at h1 ⊢; omega))
      clear HS2 hb10 hb0C hb09
      go_wp2
      go_ret
      exact ⟨rfl, hb0D⟩
  · rw [decide_eq_false hfew] at HF
    have HF := Lib.hid HF
    clear l1
    go_wp2_with fail
    refine HF.out.mono ?_
    rintro e w2 ⟨rfl, hb2⟩
    have hb02 := hb1.trans (hb2.mono hb1.size)
    go_wp2
    go_ret
    exact ⟨rfl, hb02⟩
end Go.Proofs.Ytedelkifadonjaa
