/- Layer 17: a log in a file system: how it lies; the walks of Create, Append, Sync. -/
import Derived.Test.YtgilnjngphhhlaaGreatFsOne
import Derived.Test.YtgilnjngphhhlaaGreatWdLaw
import Derived.Test.YtgilnjngphhhlaaGreatWalI
namespace Go.Fsy
theorem begin_pl_ (s : St) : (Fsy.begin s).1.pl = s.pl := by
  unfold Fsy.begin
  split
  · rfl
  · split
    · unfold die; rfl
    · split <;> rfl
theorem append_pl (s : St) (name b : Bs) : (append s name b).1.pl = s.pl := by
  unfold append
  repeat' first | exact begin_pl_ s | split
theorem sync_pl (s : St) (name : Bs) : (sync s name).1.pl = s.pl := by
  unfold sync
  repeat' first | exact begin_pl_ s | split
theorem create_pl (s : St) (name : Bs) : (create s name).1.pl = s.pl := by
  unfold create
  repeat' first | exact begin_pl_ s | split
theorem cutF_pl (s : St) (name : Bs) (k : Int) : (cutF s name k).1.pl = s.pl := by
  unfold cutF
  repeat' first | exact begin_pl_ s | split
end Go.Fsy
namespace Go.Proofs.YtgilnjngphhhlaaGreat
open Go.RowKit Go.Lec Go.Fsy Go.Op Go.Maps
/-- A log's cells. -/
def lgCs (fb : Nat) (name : Bs) (v : Value) (l : Lg) : Array Value := #[.int .i64 1, ptrV fb, svl name, v, .int .i64 (l.size : Int), .bool l.bad]
/-- A log, in a file system that turns nothing of K. All that the log turns lies from block B on. -/
structure LgG (B : Nat) (K E : Nat → Prop) (w : World) (lb fb : Nat) (name : Bs) (s : St) (l : Lg) (v : Value) (es : List Value) : Prop where
  bk : Bk w lb 28 (lgCs fb name v l)
  own : Lec.Own w B 22 v es
  els : BEls w E es l.recs
  one : One B K w fb s
  lo : B ≤ lb
  kb : ∀ b, b < B → K b
  kl : K lb
  kv : ∀ g, v.ownBlock = some g → K g
  ke : ∀ b, E b → K b
  el : ¬ E lb
  ev : ∀ g, v.ownBlock = some g → ¬ E g
  lt : ∀ b, K b → b < w.heap.size
/-- Likewise; the blocks of Z are the caller's: neither the log nor the file system turns them. -/
def LgP (B : Nat) (Z : Nat → Prop) (w : World) (lb fb : Nat) (name : Bs) (s : St) (l : Lg) : Prop := ∃ K E v es, LgG B K E w lb fb name s l v es ∧ ∀ b, Z b → K b ∧ b ≠ lb ∧ v.ownBlock ≠ some b ∧ ¬ E b
section
variable {B lb fb : Nat} {K E : Nat → Prop} {w w' : World} {name : Bs} {s s' : St} {l : Lg} {v : Value} {es : List Value}
theorem LgG.B_le (h : LgG B K E w lb fb name s l v es) : B ≤ w.heap.size := Nat.le_trans h.lo (Nat.le_of_lt h.bk.lt)
theorem LgG.below (h : LgG B K E w lb fb name s l v es) (hb : Below w.heap.size w w') : LgG B K E w' lb fb name s l v es :=
  ⟨h.bk.below hb h.bk.lt, h.own.below hb (Nat.le_refl _), h.els.keep hb.size (fun k _ hk => hb.block k hk) (fun _ hk _ => hk), h.one.below hb, h.lo, h.kb, h.kl, h.kv, h.ke, h.el, h.ev, fun b hb' => Nat.lt_of_lt_of_le (h.lt b hb') hb.size⟩
/-- The file system turns. -/
theorem LgG.turn {K' : Nat → Prop} (h : LgG B K E w lb fb name s l v es) (h1 : One B K' w' fb s') (hk : KbP (fun b => ¬ K' b) w w') (hK : ∀ b, K b → K' b) (hlt : ∀ b, K' b → b < w'.heap.size) : LgG B K' E w' lb fb name s' l v es :=
  ⟨h.bk.kbP hk (fun hn => hn (hK _ h.kl)), OwnK.kbP h.own hk (fun g hg hn => hn (hK _ (h.kv g hg))), h.els.keep hk.size (fun k hk1 hk2 => hk.block k hk2 (fun hn => hn (hK _ (h.ke _ hk1)))) (fun _ hk _ => hk),
    h1, h.lo, fun b hb => hK _ (h.kb b hb), hK _ h.kl, fun g hg => hK _ (h.kv g hg), fun b hb => hK _ (h.ke b hb), h.el, h.ev, hlt⟩
theorem LgG.turnP {r : St × Int} {e : Ending} (h : LgG B K E w lb fb name s l v es) (hO : OneP B K w fb r e w') : LgG B K E w' lb fb name r.1 l v es :=
  h.turn hO.one hO.kb (fun _ h => h) (fun b hb => Nat.lt_of_lt_of_le (h.lt b hb) hO.below.size)
/-- More is kept from the file system. -/
theorem LgG.keepMore {K' : Nat → Prop} (h : LgG B K E w lb fb name s l v es) (h1 : One B K' w fb s) (hK : ∀ b, K b → K' b) (hlt : ∀ b, K' b → b < w.heap.size) : LgG B K' E w lb fb name s l v es :=
  h.turn h1 (KbP.refl _ _) hK hlt
/-- A cell of the log's own turns. -/
theorem LgG.cells_ (h : LgG B K E w lb fb name s l v es) (i : Nat) (u : Value) {l' : Lg} (hc : (lgCs fb name v l).setIfInBounds i u = lgCs fb name v l') (hr : l'.recs = l.recs) : LgG B K E (w.setCell ⟨lb, i, none⟩ u) lb fb name s l' v es := by
  have hk : KbP (fun k => k = lb) w (w.setCell ⟨lb, i, none⟩ u) := (KbP.refl (fun k => k = lb) w).setCell (p := ⟨lb, i, none⟩) (.inl rfl) u
  refine ⟨hc ▸ h.bk.set_ i u, OwnK.kbP h.own hk (fun g hg e => own_bkK h.own h.bk (by decide) (by rw [hg, e])), ?_, h.one.kbP hk (fun k hk => by subst hk; exact h.kl), h.lo, h.kb, h.kl, h.kv, h.ke, h.el, h.ev, fun b' hb' => Nat.lt_of_lt_of_le (h.lt b' hb') hk.size⟩
  rw [hr]
  exact h.els.keep hk.size (fun k hk1 hk2 => hk.block k hk2 (fun e => h.el (by rw [← show k = lb from e]; exact hk1))) (fun _ hk _ => hk)
/-- The caller's blocks may be others. -/
theorem LgP.below {Z : Nat → Prop} (h : LgP B Z w lb fb name s l) (hb : Below w.heap.size w w') : LgP B Z w' lb fb name s l := by
  obtain ⟨K, E, v, es, hG, hZ⟩ := h
  exact ⟨K, E, v, es, hG.below hb, hZ⟩
theorem LgP.fresh {Z Z' : Nat → Prop} (h : LgP B Z w lb fb name s l) (hb : Below w.heap.size w w') (hZ : ∀ b, Z' b → Z b ∨ (w.heap.size ≤ b ∧ b < w'.heap.size)) : LgP B Z' w' lb fb name s l := by
  obtain ⟨K, E, v, es, hG, hK⟩ := h
  refine ⟨fun b => K b ∨ (w.heap.size ≤ b ∧ b < w'.heap.size), E, v, es, (hG.below hb).keepMore ((hG.one.fresh (K' := fun b => K b ∨ (w.heap.size ≤ b ∧ b < w'.heap.size)) (fun b h => h.imp_right (·.1))).below hb) (fun b h => .inl h) (fun b h => h.elim (fun h => Nat.lt_of_lt_of_le (hG.lt b h) hb.size) (·.2)), fun b hz => ?_⟩
  rcases hZ b hz with h | h
  · exact ⟨.inl (hK b h).1, (hK b h).2⟩
  · refine ⟨.inr h, fun e => ?_, fun e => ?_, fun e => ?_⟩
    · have := hG.bk.lt; omega
    · have := hG.lt b (hG.kv b e); omega
    · have := hG.lt b (hG.ke b e); omega
/-- What the log leaves as it was. -/
theorem LgG.kbZ {Z : Nat → Prop} (hZ : ∀ b, Z b → K b ∧ b ≠ lb ∧ v.ownBlock ≠ some b ∧ ¬ E b) {w1 w2 : World} {X : Nat → Prop} (h : KbP X w1 w2) (hX : ∀ b, X b → ¬ K b ∨ b = lb ∨ v.ownBlock = some b) : KbP (fun b => ¬ Z b) w1 w2 :=
  h.more fun b hb hz => by
    rcases hX b hb with h | h | h
    · exact h (hZ b hz).1
    · exact (hZ b hz).2.1 h
    · exact (hZ b hz).2.2.1 h
/-- The caller turns blocks of his own. -/
theorem LgP.kbP {Y Z : Nat → Prop} (h : LgP B Z w lb fb name s l) (hk : KbP Y w w') (hY : ∀ b, Y b → Z b) : LgP B Z w' lb fb name s l := by
  obtain ⟨K, E, v, es, hG, hZ⟩ := h
  refine ⟨K, E, v, es, ⟨hG.bk.kbP hk (fun hb => (hZ _ (hY _ hb)).2.1 rfl), OwnK.kbP hG.own hk (fun g e hb => (hZ _ (hY _ hb)).2.2.1 e), hG.els.keep hk.size (fun k hk1 hk2 => hk.block k hk2 (fun hb => (hZ _ (hY _ hb)).2.2.2 hk1)) (fun _ hk _ => hk),
    hG.one.kbP hk (fun b hb => (hZ _ (hY _ hb)).1), hG.lo, hG.kb, hG.kl, hG.kv, hG.ke, hG.el, hG.ev, fun b hb => Nat.lt_of_lt_of_le (hG.lt b hb) hk.size⟩, hZ⟩
end
theorem l_is (w : World) (lb : Nat) (q : w.cell? ⟨lb, 0, none⟩ = some (.int .i64 1)) : Calls Tryz.prog 21 #[.pointer (some ⟨lb, 0, none⟩)] w fun e w' => e = .returned (.bool true) ∧ w' = w := by
  go_enter Tryz.func21, Tryz.ntmps21
  go_wp2
  go_ret
  exact ⟨rfl, rfl⟩
theorem infoRw : (Tryz.prog.info? 22).map (fun i => (i.zero, i.size, i.bytes)) = some (some (.slice none 0 0), 1, 24) := by kernel_rfl
theorem slrw : SlK Tryz.prog 26 22 (.slice none 0 0) 24 1 := ⟨Tryz.underlying26, info_parts infoRw, rfl, by decide⟩
/-- What a call on a log leaves. -/
structure LgR (B : Nat) (Z : Nat → Prop) (w : World) (lb fb : Nat) (name : Bs) (r : (St × Int) × Lg) (e : Ending) (w' : World) : Prop where
  e : e = .returned (.int .i64 r.1.2)
  lg : LgP B Z w' lb fb name r.1.1 r.2
  below : Below B w w'
  kb : KbP (fun b => ¬ Z b) w w'
set_option maxRecDepth 100000 in
set_option maxHeartbeats 1600000 in
theorem l_Sync (w : World) {B lb fb N : Nat} {Z : Nat → Prop} {name : Bs} {s : St} {l : Lg} (h : LgP B Z w lb fb name s l) (hi : Fsy.Inv s N) (hN : N ≤ 1048575) (hp : s.pl.ok) (hn : name.length ≤ 4294967296) :
    Calls Tryz.prog 7 #[ptrV lb] w (LgR B Z w lb fb name (lgSync s name l)) := by
  obtain ⟨K, E, v, es, hG, hZ⟩ := h
  have hGd := hG.below (Below.refl w.heap.size w).drew
  have q := hG.bk.cell
  have HI := Lib.hid (l_is w lb (q 0))
  have HS := Lib.hid (o_Sync hGd.one hGd.B_le hGd.lt hi hN hp hn)
  have hsd : lgSync s name l = (sync s name, { l with bad := l.bad || decide ((sync s name).2 ≠ 0) }) := rfl
  obtain ⟨r, hr⟩ : ∃ r, r = sync s name := ⟨_, rfl⟩
  rw [← hr] at HS hsd
  rw [hsd]
  clear hsd hr
  unfold lgCs ptrV svl at *
  have HB := Lib.hid (fun (W : World) (hO : OneP B K w.drew fb r (.returned (.int .i64 r.2)) W) => (hGd.turnP hO).bk)
  unfold lgCs ptrV svl at HB
  have HF := Lib.hid (fun (W : World) (b : Bool) (hO : OneP B K w.drew fb r (.returned (.int .i64 r.2)) W) => show LgR B Z w lb fb name (r, { l with bad := b }) (.returned (.int .i64 r.2)) (W.setCell ⟨lb, 5, none⟩ (.bool b)) from
    ⟨rfl, ⟨K, E, v, es, (hGd.turnP hO).cells_ 5 _ rfl rfl, hZ⟩, ((Below.refl B w).drew.trans hO.below).setCell hG.lo _,
      KbP.setCell (LgG.kbZ hZ (((KbP.refl (fun b => ¬ K b) w).drew).trans hO.kb (fun b h => .inl h)) (fun b hb => .inl hb)) (p := ⟨lb, 5, none⟩) (.inl (fun hz => (hZ _ hz).2.1 rfl)) _⟩)
  obtain ⟨st, cd⟩ := r
  obtain ⟨recs, size, bd⟩ := l
  clear hG hGd
  by_cases hc : cd = 0
  · subst hc
    cases bd
    · go_enter Tryz.func7, Tryz.ntmps7
      go_upto_region 3 with (first | (go_at_call 21; refine HI.out.mono ?_; rintro e w1 ⟨rfl, hww⟩; obtain rfl := hww.symm))
      go_region_held3 (fun W => W.cell? ⟨lb, 1, none⟩ = some (.pointer (some ⟨fb, 0, none⟩)) ∧ W.cell? ⟨lb, 2, none⟩ = some (.string ⟨name.toArray⟩))
        (first | exact ⟨q 1, q 2⟩ | exact ⟨q2 1, q2 2⟩)
        (first | (go_at_call 24; (with_reducible refine HS.out.mono ?_); rintro e w2 hO; obtain rfl := hO.e; have q2 := (HB.out _ hO).cell; have z2 := (HB.out _ hO).frz))
      go_wp2
      go_ret
      first | exact HF.out _ _ hO | (have h9 := HF.out _ (cd != 0) hO; simp only [hcd3] at h9 ⊢; exact h9)
    · go_enter Tryz.func7, Tryz.ntmps7
      go_upto_region 3 with (first | (go_at_call 21; refine HI.out.mono ?_; rintro e w1 ⟨rfl, hww⟩; obtain rfl := hww.symm))
      go_region_held3 (fun W => W.cell? ⟨lb, 1, none⟩ = some (.pointer (some ⟨fb, 0, none⟩)) ∧ W.cell? ⟨lb, 2, none⟩ = some (.string ⟨name.toArray⟩))
        (first | exact ⟨q 1, q 2⟩ | exact ⟨q2 1, q2 2⟩)
        (first | (go_at_call 24; (with_reducible refine HS.out.mono ?_); rintro e w2 hO; obtain rfl := hO.e; have q2 := (HB.out _ hO).cell; have z2 := (HB.out _ hO).frz))
      go_wp2
      go_ret
      first | exact HF.out _ _ hO | (have h9 := HF.out _ (cd != 0) hO; simp only [hcd3] at h9 ⊢; exact h9)
  · have hcd : (cd == 0) = false := by rw [beq_eq_false_iff_ne]; exact hc
    have hcd2 : decide (cd ≠ 0) = true := decide_eq_true hc
    have hcd3 : (cd != 0) = true := by simpa using hc
    simp only [hcd2, Bool.or_true] at *
    cases bd
    · go_enter Tryz.func7, Tryz.ntmps7
      go_upto_region 3 with (first | (go_at_call 21; refine HI.out.mono ?_; rintro e w1 ⟨rfl, hww⟩; obtain rfl := hww.symm))
      go_region_held3 (fun W => W.cell? ⟨lb, 1, none⟩ = some (.pointer (some ⟨fb, 0, none⟩)) ∧ W.cell? ⟨lb, 2, none⟩ = some (.string ⟨name.toArray⟩))
        (first | exact ⟨q 1, q 2⟩ | exact ⟨q2 1, q2 2⟩)
        (first | (go_at_call 24; (with_reducible refine HS.out.mono ?_); rintro e w2 hO; obtain rfl := hO.e; have q2 := (HB.out _ hO).cell; have z2 := (HB.out _ hO).frz))
      go_wp2
      go_ret
      first | exact HF.out _ _ hO | (have h9 := HF.out _ (cd != 0) hO; simp only [hcd3] at h9 ⊢; exact h9)
    · go_enter Tryz.func7, Tryz.ntmps7
      go_upto_region 3 with (first | (go_at_call 21; refine HI.out.mono ?_; rintro e w1 ⟨rfl, hww⟩; obtain rfl := hww.symm))
      go_region_held3 (fun W => W.cell? ⟨lb, 1, none⟩ = some (.pointer (some ⟨fb, 0, none⟩)) ∧ W.cell? ⟨lb, 2, none⟩ = some (.string ⟨name.toArray⟩))
        (first | exact ⟨q 1, q 2⟩ | exact ⟨q2 1, q2 2⟩)
        (first | (go_at_call 24; (with_reducible refine HS.out.mono ?_); rintro e w2 hO; obtain rfl := hO.e; have q2 := (HB.out _ hO).cell; have z2 := (HB.out _ hO).frz))
      go_wp2
      go_ret
      first | exact HF.out _ _ hO | (have h9 := HF.out _ (cd != 0) hO; simp only [hcd3] at h9 ⊢; exact h9)
/-- A record is noted. -/
theorem LgG.push {B lb fb size m : Nat} {K E Z : Nat → Prop} {w w6 w7 w8 : World} {name rec : Bs} {s : St} {recs : List Bs} {b : Bool} {v v' u : Value} {es : List Value} (h : LgG B K E w lb fb name s ⟨recs, size, b⟩ v es)
    (h6 : Below w.heap.size w w6) {A' : Option Addr} {c' : Nat} (he : u = .slice A' rec.length c') (hc' : rec.length ≤ c') (hu : RdP (fun b => w.heap.size ≤ b) w6 A' rec.length (bcs rec)) (h7 : Below w6.heap.size w6 w7) (hg : w7.grownBy w8 v.ownBlock) (ho : Lec.Own w8 B 22 v' (es ++ [u])) (hat : v'.ownBlock = v.ownBlock ∨ ∃ g, v'.ownBlock = some g ∧ w7.heap.size ≤ g)
    (hZ : ∀ b, Z b → K b ∧ b ≠ lb ∧ v.ownBlock ≠ some b ∧ ¬ E b) {x : Int} (hx : x = ((size + m : Nat) : Int)) :
    LgP B Z ((w8.setCell ⟨lb, 3, none⟩ v').setCell ⟨lb, 4, none⟩ (.int .i64 x)) lb fb name s ⟨recs ++ [rec], size + m, b⟩ ∧ Below B w ((w8.setCell ⟨lb, 3, none⟩ v').setCell ⟨lb, 4, none⟩ (.int .i64 x)) ∧
      KbP (fun b => ¬ Z b) w ((w8.setCell ⟨lb, 3, none⟩ v').setCell ⟨lb, 4, none⟩ (.int .i64 x)) := by
  subst hx
  have b7 : Below w.heap.size w w7 := h6.trans (h7.mono h6.size)
  have s7 := b7.size
  have s6 := h6.size
  have s67 := h7.size
  have s8 := hg.size
  have hBw := h.B_le
  have k78 : KbP (fun g => v.ownBlock = some g) w7 w8 := KbP.of_grown hg fun _ e => e
  have bk8 : Bk w8 lb 28 (lgCs fb name v ⟨recs, size, b⟩) := (h.bk.below b7 h.bk.lt).kbP k78 (fun e => own_bkK h.own h.bk (by decide) e)
  have k9 : KbP (fun k => k = lb) w8 ((w8.setCell ⟨lb, 3, none⟩ v').setCell ⟨lb, 4, none⟩ (.int .i64 ((size + m : Nat) : Int))) := ((KbP.refl (fun k => k = lb) w8).setCell (p := ⟨lb, 3, none⟩) (.inl rfl) _).setCell (p := ⟨lb, 4, none⟩) (.inl rfl) _
  have s9 := k9.size
  have h9 : ((w8.setCell ⟨lb, 3, none⟩ v').setCell ⟨lb, 4, none⟩ (.int .i64 ((size + m : Nat) : Int))).heap.size = w8.heap.size := by simp
  have hv8 : ∀ g, v'.ownBlock = some g → g < w8.heap.size := fun g e => (World.ownsRow.lt ho g e).2
  have hlb := h.bk.lt
  have hvl : ∀ g, v.ownBlock = some g → g < w.heap.size := fun g e => h.lt g (h.kv g e)
  have hEl : El w6 (fun b => E b ∨ (w.heap.size ≤ b ∧ b < w6.heap.size)) u rec := by
    exact ⟨A', c', he, hc', hu.rd, fun hn a e => .inr ⟨hu.lie hn a e, hu.lt hn a e⟩⟩
  have e7 : BEls w7 (fun b => E b ∨ (w.heap.size ≤ b ∧ b < w6.heap.size)) (es ++ [u]) (recs ++ [rec]) := by
    refine BEls.snoc (h.els.keep s7 (fun k hk hl => b7.block k hl) (fun k hk _ => .inl hk)) (hEl.keep s67 (fun k _ hl => h7.block k hl) (fun k hk _ => hk))
  have hE9 : ∀ b, (E b ∨ (w.heap.size ≤ b ∧ b < w6.heap.size)) → ¬ v.ownBlock = some b ∧ b ≠ lb := fun b hb => hb.elim (fun hb => ⟨fun e => h.ev b e hb, fun e => h.el (e ▸ hb)⟩) (fun hb => ⟨fun e => by have := hvl b e; omega, fun e => by omega⟩)
  refine ⟨⟨fun b => K b ∨ (w.heap.size ≤ b ∧ b < w8.heap.size), fun b => E b ∨ (w.heap.size ≤ b ∧ b < w6.heap.size), v', es ++ [u], ⟨(bk8.set_ 3 v').set_ 4 _, ?_, ?_, ?_, h.lo, fun b hb => .inl (h.kb b hb), .inl h.kl, ?_, ?_, ?_, ?_, ?_⟩, ?_⟩, ?_, ?_⟩
  · exact OwnK.kbP ho k9 (fun g e hgl => own_bkK ho bk8 (by decide) (by rw [e, show g = lb from hgl]))
  · exact (e7.keep s8 (fun k hk hl => hg.block k hl (fun e => (hE9 k hk).1 e.symm)) (fun k hk _ => hk)).keep s9 (fun k hk hl => k9.block k hl (hE9 k hk).2) (fun k hk _ => hk)
  · refine One.kbP ?_ k9 (fun k hk => by subst hk; exact .inl h.kl)
    refine One.kbP ?_ k78 (fun k hk => .inl (h.kv k hk))
    exact (h.one.fresh (fun b hb => hb.imp_right (·.1))).below b7
  · intro g e
    rcases hat with h1 | ⟨g', h1, h2⟩
    · exact .inl (h.kv g (h1 ▸ e))
    · rw [h1] at e; cases e
      exact .inr ⟨by omega, hv8 g h1⟩
  · intro b hb
    rcases hb with hb | hb
    · exact .inl (h.ke b hb)
    · exact .inr ⟨hb.1, by omega⟩
  · exact fun hb => (hE9 lb hb).2 rfl
  · intro g e hb
    rcases hat with h1 | ⟨g', h1, h2⟩
    · exact (hE9 g hb).1 (h1 ▸ e)
    · rw [h1] at e; cases e
      rcases hb with hb | hb
      · have := h.lt g (h.ke g hb); omega
      · omega
  · intro b hb
    rw [h9]
    rcases hb with hb | hb
    · have := h.lt b hb; omega
    · exact hb.2
  · intro b hb
    have hk := hZ b hb
    refine ⟨.inl hk.1, hk.2.1, fun e => ?_, fun e => ?_⟩
    · rcases hat with h1 | ⟨g', h1, h2⟩
      · exact hk.2.2.1 (h1 ▸ e)
      · rw [h1] at e; cases e
        have := h.lt b hk.1; omega
    · have := h.lt b hk.1
      rcases e with e | e
      · exact hk.2.2.2 e
      · omega
  · have hb8 : Below B w w8 := (b7.mono hBw).grown hg (by omega) (fun k hk => (World.ownsRow.lt h.own k hk).1)
    exact (hb8.setCell h.lo _).setCell h.lo _
  · refine (LgG.kbZ hZ ((KbP.of_below b7 : KbP (fun g => g = lb ∨ v.ownBlock = some g) w w7).trans (k78.more (fun b hb => .inr hb)) (fun b hb => .inl hb)) (fun b hb => .inr hb)).trans (LgG.kbZ hZ k9 (fun b hb => .inr (.inl hb))) (fun b hb => .inl hb)
set_option maxRecDepth 100000 in
set_option maxHeartbeats 3200000 in
theorem l_Append (w : World) {B lb fb N c : Nat} {Z : Nat → Prop} {A : Option Addr} {name rec : Bs} {s : St} {l : Lg} {sy : Bool} (h : LgP B Z w lb fb name s l) (hb : l.bad = false) (hi : Fsy.Inv s N) (hN : N ≤ 1000000) (hp : s.pl.ok) (hn : name.length ≤ 4294967296)
    (hr : Rd w B A rec.length (bcs rec)) (hc : rec.length ≤ c) (hrl : rec.length ≤ 10000) (hsz : l.size ≤ 1099511627776) (hll : (lgBytes l rec).length ≤ 1099511627776) (hrn : l.recs.length ≤ 1099511) :
    Calls Tryz.prog 6 #[ptrV lb, .slice A rec.length c, .bool sy] w (LgR B Z w lb fb name (lgAppend s name l rec sy)) := by
  obtain ⟨recs, size, bd⟩ := l
  simp only at hb hsz hrn
  subst hb
  obtain ⟨K, E, v, es, hG, hZ⟩ := h
  have hB := hG.B_le
  have q := hG.bk.cell
  have HI := Lib.hid (l_is w lb (q 0))
  have HE := Lib.hid (c_Encode w size hr hB hrl hc)
  unfold RetBE at HE
  obtain ⟨L, hL⟩ : ∃ L, L = lgBytes ⟨recs, size, false⟩ rec := ⟨_, rfl⟩
  rw [← hL] at hll
  rw [show encL (size % 512) rec = L from hL.symm] at HE
  have HR := Lib.hid (fun (W : World) (hw : Below B w W) => hr.below hw (Nat.le_refl _))
  -- what the log and the file system are once the bytes are made
  have HB := Lib.hid (fun (W : World) (hw : Below w.heap.size w W) => (hG.below hw).bk)
  have H1 := Lib.hid (fun (W : World) (hw : Below w.heap.size w W) => ((hG.below hw).keepMore (K' := fun b => K b ∨ (w.heap.size ≤ b ∧ b < W.heap.size)) ((hG.one.fresh (K' := fun b => K b ∨ (w.heap.size ≤ b ∧ b < W.heap.size)) (fun b h => h.imp_right (·.1))).below hw) (fun b h => .inl h) (fun b h => h.elim (fun h => Nat.lt_of_lt_of_le (hG.lt b h) hw.size) (·.2))).cells_ 5 (.bool true) (l' := ⟨recs, size, true⟩) rfl rfl)
  have Hlb := Lib.hid (show lb < w.heap.size from hG.bk.lt)
  have Hlo := Lib.hid hG.lo
  have hd : lgAppend s name ⟨recs, size, false⟩ rec sy = if (append s name L).2 ≠ 0 then (append s name L, ⟨recs, size, true⟩) else if sy = false then (append s name L, ⟨recs ++ [rec], size + L.length, false⟩)
      else if (sync (append s name L).1 name).2 ≠ 0 then (sync (append s name L).1 name, ⟨recs, size, true⟩) else (sync (append s name L).1 name, ⟨recs ++ [rec], size + L.length, false⟩) := by
    rw [hL]; unfold lgAppend; rw [if_neg (by omega)]; rfl
  rw [hd]
  have hi2 := hi.append name L
  have hp2 : (append s name L).1.pl.ok := by rw [append_pl]; exact hp
  have Hi := Lib.hid hi
  have HA := Lib.hid (show ∀ (W : World) (K2 : Nat → Prop) (A1 : Option Addr) (c1 : Nat), LgG B K2 E W lb fb name s ⟨recs, size, true⟩ v es → RdP K2 W A1 L.length (bcs L) → L.length ≤ c1 → Calls Tryz.prog 23 #[ptrV fb, .string ⟨name.toArray⟩, .slice A1 L.length c1] W (OneP B K2 W fb (append s name L)) from
    (fun W K2 A1 c1 hG hR hc1 => o_Append hG.one hG.B_le hG.lt hi (by omega) hp hn hR hc1 hll))
  obtain ⟨r, hrr⟩ : ∃ r, r = append s name L := ⟨_, rfl⟩
  rw [← hrr] at hi2 hp2 HA ⊢
  have HS := Lib.hid (show ∀ (W : World) (K2 : Nat → Prop), LgG B K2 E W lb fb name r.1 ⟨recs, size, true⟩ v es → Calls Tryz.prog 24 #[ptrV fb, .string ⟨name.toArray⟩] W (OneP B K2 W fb (sync r.1 name)) from
    (fun W K2 hG => o_Sync hG.one hG.B_le hG.lt hi2 (by omega) hp2 hn))
  obtain ⟨r2, hrr2⟩ : ∃ r2, r2 = sync r.1 name := ⟨_, rfl⟩
  rw [← hrr2] at HS ⊢
  clear hd hL hrr hrr2 hi2 hp2 hi hp hr
  have hadd : IntKind.i64.wrap ((size : Int) + (L.length : Int)) = (size : Int) + (L.length : Int) := IntWalk.i64_in _ (by omega)
  unfold lgCs ptrV svl at *
  by_cases hc0 : r.2 = 0
  · rw [if_neg (by simpa using hc0)]
    have hcd : (r.2 == 0) = true := by simpa using hc0
    cases sy with
    | false =>
      rw [if_pos rfl]
      go_enter Tryz.func6, Tryz.ntmps6
      go_upto_region 11 with (first
        | (go_at_call 21; refine HI.out.mono ?_; rintro e w1 ⟨rfl, hww⟩; obtain rfl := hww.symm)
        | (go_at_call 19; (with_reducible refine HE.out.mono ?_); (rintro e w1 ⟨v1, rfl, ho1, hb1⟩)
           obtain ⟨A1, c1, rfl, hc1⟩ := ho1.shape
           rw [bcs_length] at hc1 ho1 ⊢
           have q1 := (HB.out w1 hb1).cell; have z1 := (HB.out w1 hb1).frz))
      have hG2 := (H1.out w1 hb1).below (Below.refl _ _).drew
      have hR2 : RdP (fun b => K b ∨ (w.heap.size ≤ b ∧ b < w1.heap.size)) ((w1.setCell ⟨lb, 5, none⟩ (.bool true)).drew) A1 L.length (bcs L) := by
        have hrd := ho1.rd
        have hlie : RdP (fun b => K b ∨ (w.heap.size ≤ b ∧ b < w1.heap.size)) w1 A1 L.length (bcs L) := ⟨hrd, fun hn a e => by subst e; exact .inr (World.ownsRow.lt ho1 a.block rfl)⟩
        exact ⟨hrd.kbP (((KbP.refl (fun k => k = lb) w1).setCell (p := ⟨lb, 5, none⟩) (.inl rfl) _).drew) (fun hn a e hl => by
          subst e
          have h1 := World.ownsRow.lt ho1 a.block rfl
          have h2 := Hlb.out
          have h3 : a.block = lb := hl
          omega), hlie.lie⟩
      have q2 := hG2.bk.cell
      unfold lgCs ptrV svl at q2
      have HA2 := Lib.hid (HA.out _ _ A1 c1 hG2 hR2 hc1)
      have HT := Lib.hid (fun (W : World) (e : Ending) (hO : OneP B _ _ fb r e W) => hG2.turnP hO)
      go_region_held3 (fun W => W.cell? ⟨lb, 1, none⟩ = some (.pointer (some ⟨fb, 0, none⟩)) ∧ W.cell? ⟨lb, 2, none⟩ = some (.string ⟨name.toArray⟩))
        (first | exact ⟨q2 1, q2 2⟩ | exact ⟨q3 1, q3 2⟩)
        (first | (go_at_call 23; (with_reducible refine HA2.out.mono ?_); rintro e w3 hO; obtain rfl := hO.e; have q3 := (HT.out _ _ hO).bk.cell; have z3 := (HT.out _ _ hO).bk.frz; unfold lgCs ptrV svl at q3))
      have hG3 := HT.out _ _ hO
      have hZ3 : ∀ b, Z b → (K b ∨ (w.heap.size ≤ b ∧ b < w1.heap.size)) ∧ b ≠ lb ∧ v.ownBlock ≠ some b ∧ ¬ E b := fun b hz => ⟨.inl (hZ b hz).1, (hZ b hz).2⟩
      have b3 : Below B w w3 := ((hb1.mono hB).setCell (p := ⟨lb, 5, none⟩) Hlo.out _).drew.trans hO.below
      have k3 : KbP (fun b => ¬ Z b) w w3 := ((KbP.setCell (KbP.of_below hb1 : KbP (fun b => ¬ Z b) w w1) (p := ⟨lb, 5, none⟩) (.inl (fun hz => (hZ lb hz).2.1 rfl)) (.bool true)).drew).trans (LgG.kbZ hZ3 hO.kb (fun b hb => .inl hb)) (fun b hb => .inl hb)
      have q3 := hG3.bk.cell
      unfold lgCs ptrV svl at q3
      clear hR2 hb1 ho1 q1 z1 hG2 q2 HA2 HT hO
      go_upto_region 19 with fail
      have hG5 := (hG3.cells_ 5 (.bool false) (l' := ⟨recs, size, false⟩) rfl rfl).below (Below.refl _ _).drew
      have b5 : Below B w ((w3.setCell ⟨lb, 5, none⟩ (.bool false)).drew) := (Below.setCell b3 (p := ⟨lb, 5, none⟩) Hlo.out _).drew
      have k5 : KbP (fun b => ¬ Z b) w ((w3.setCell ⟨lb, 5, none⟩ (.bool false)).drew) := (KbP.setCell k3 (p := ⟨lb, 5, none⟩) (.inl (fun hz => (hZ lb hz).2.1 rfl)) (.bool false)).drew
      have HF5 := Lib.hid ((show ∀ (W : World), Below (w3.setCell ⟨lb, 5, none⟩ (.bool false)).drew.heap.size (w3.setCell ⟨lb, 5, none⟩ (.bool false)).drew W → _ from fun W hb => (hG5.below hb).bk))
      have HOw := Lib.hid ((show ∀ (W : World), Below (w3.setCell ⟨lb, 5, none⟩ (.bool false)).drew.heap.size (w3.setCell ⟨lb, 5, none⟩ (.bool false)).drew W → _ from fun W hb => (hG5.below hb).own))
      have hBz := hG5.B_le
      have hlen : es.length ≤ 1099511 := by rw [hG5.els.1]; exact hrn
      obtain ⟨w5, hw5⟩ : ∃ W, W = (w3.setCell ⟨lb, 5, none⟩ (.bool false)).drew := ⟨_, rfl⟩
      rw [← hw5] at hG5 b5 k5 HF5 HOw hBz
      have hHeld : (fun W : World => W.cell? ⟨lb, 3, none⟩ = some v ∧ W.cell? ⟨lb, 4, none⟩ = some (.int .i64 (size : Int))) w5 := ⟨hG5.bk.cell 3, hG5.bk.cell 4⟩
      refine wp_region_U (S := fun W : World => W.cell? ⟨lb, 3, none⟩ = some v ∧ W.cell? ⟨lb, 4, none⟩ = some (.int .i64 (size : Int))) (ks := [5, 7, 8, 9, 13]) (by kernel_rfl) ?_
      simp only [List.size_toArray, List.length_cons, List.length_nil, Nat.reduceAdd]
      rw [← hw5]
      have Hw5 := Lib.hid hw5
      clear hw5
      refine uPure (i := 0) (v := ?_) rfl (by kernel_rfl) (by kernel_rfl) (by kernel_rfl) (by kernel_rfl) (fun _ _ _ h => h) (by rfl) ?_ ?_
      rotate_left
      · (intro w; go_simp; try with_reducible rfl)
      try simp only [Act.put, List.setIfInBounds_toArray, List.set_cons_zero, List.set_cons_succ]
      refine uPure (i := 1) (v := ?_) rfl (by kernel_rfl) (by kernel_rfl) (by kernel_rfl) (by kernel_rfl) (fun _ _ _ h => h) (by rfl) ?_ ?_
      rotate_left
      · (intro w; go_simp; try with_reducible rfl)
      try simp only [Act.put, List.setIfInBounds_toArray, List.set_cons_zero, List.set_cons_succ]
      refine uPure (i := 2) (v := ?_) rfl (by kernel_rfl) (by kernel_rfl) (by kernel_rfl) (by kernel_rfl) (fun _ _ _ h => h) (by rfl) ?_ ?_
      rotate_left
      · (intro w; go_simp; try with_reducible rfl)
      try simp only [Act.put, List.setIfInBounds_toArray, List.set_cons_zero, List.set_cons_succ]
      refine uPure (i := 3) (v := ?_) rfl (by kernel_rfl) (by kernel_rfl) (by kernel_rfl) (by kernel_rfl) (fun _ _ _ h => h) (by rfl) ?_ ?_
      rotate_left
      · (intro w; go_simp; try with_reducible rfl)
      try simp only [Act.put, List.setIfInBounds_toArray, List.set_cons_zero, List.set_cons_succ]
      refine uPure (i := 4) (v := ?_) rfl (by kernel_rfl) (by kernel_rfl) (by kernel_rfl) (by kernel_rfl) (fun _ _ _ h => h) (by rfl) ?_ ?_
      rotate_left
      · (intro w; go_simp; try with_reducible rfl)
      try simp only [Act.put, List.setIfInBounds_toArray, List.set_cons_zero, List.set_cons_succ]
      refine uPure (i := 6) (v := ?_) rfl (by kernel_rfl) (by kernel_rfl) (by kernel_rfl) (by kernel_rfl) (fun _ _ _ h => h) (by rfl) ?_ ?_
      rotate_left
      · (intro w; go_simp; try with_reducible rfl)
      try simp only [Act.put, List.setIfInBounds_toArray, List.set_cons_zero, List.set_cons_succ]
      refine uPure (i := 10) (v := ?_) rfl (by kernel_rfl) (by kernel_rfl) (by kernel_rfl) (by kernel_rfl) (fun _ _ _ h => h) (by rfl) ?_ ?_
      rotate_left
      · (intro w; go_simp; try with_reducible rfl)
      try simp only [Act.put, List.setIfInBounds_toArray, List.set_cons_zero, List.set_cons_succ]
      refine uPure (i := 11) (v := ?_) rfl (by kernel_rfl) (by kernel_rfl) (by kernel_rfl) (by kernel_rfl) (fun _ _ _ h => h) (by rfl) ?_ ?_
      rotate_left
      · (intro w; go_simp; try with_reducible rfl)
      try simp only [Act.put, List.setIfInBounds_toArray, List.set_cons_zero, List.set_cons_succ]
      refine uPure (i := 12) (v := ?_) rfl (by kernel_rfl) (by kernel_rfl) (by kernel_rfl) (by kernel_rfl) (fun _ _ _ h => h) (by rfl) ?_ ?_
      rotate_left
      · (intro w; go_simp; try with_reducible rfl)
      try simp only [Act.put, List.setIfInBounds_toArray, List.set_cons_zero, List.set_cons_succ]
      refine uPure (i := 14) (v := ?_) rfl (by kernel_rfl) (by kernel_rfl) (by kernel_rfl) (by kernel_rfl) (fun _ _ _ h => h) (by rfl) ?_ ?_
      rotate_left
      · (intro w; go_simp; try with_reducible rfl)
      try simp only [Act.put, List.setIfInBounds_toArray, List.set_cons_zero, List.set_cons_succ]
      refine uPure (i := 15) (v := ?_) rfl (by kernel_rfl) (by kernel_rfl) (by kernel_rfl) (by kernel_rfl) (fun _ _ _ h => h) (by rfl) ?_ ?_
      rotate_left
      · (intro w; go_simp; try with_reducible rfl)
      try simp only [Act.put, List.setIfInBounds_toArray, List.set_cons_zero, List.set_cons_succ]
      refine uTake (i := 13) (v := ?_) rfl (by kernel_rfl) (by kernel_rfl) (by kernel_rfl) (by kernel_rfl) (fun _ _ _ h => h) hHeld (by rfl) ?_ ?_
      rotate_left
      · (intro w hSw; (try dsimp only at hSw); go_simp; try with_reducible rfl)
      try simp only [Act.put, List.setIfInBounds_toArray, List.set_cons_zero, List.set_cons_succ]
      refine uPure (i := 16) (v := ?_) rfl (by kernel_rfl) (by kernel_rfl) (by kernel_rfl) (by kernel_rfl) (fun _ _ _ h => h) (by rfl) ?_ ?_
      rotate_left
      · (intro w; go_simp; try with_reducible rfl)
      try simp only [Act.put, List.setIfInBounds_toArray, List.set_cons_zero, List.set_cons_succ]
      refine uTake (i := 5) (v := ?_) rfl (by kernel_rfl) (by kernel_rfl) (by kernel_rfl) (by kernel_rfl) (fun _ _ _ h => h) hHeld (by rfl) ?_ ?_
      rotate_left
      · (intro w hSw; (try dsimp only at hSw); go_simp; try with_reducible rfl)
      try simp only [Act.put, List.setIfInBounds_toArray, List.set_cons_zero, List.set_cons_succ]
      refine uStep (i := 7) rfl (by kernel_rfl) (fun K hK => ?_)
      go_simp
      go_at_call 25
      refine (c_CloneB w5 (HR.out w5 b5) hBz (by omega)).mono ?_
      rintro e w6 ⟨A6, c6, rfl, hc6, hu, hb6⟩
      have hHeldN : (fun W : World => W.cell? ⟨lb, 3, none⟩ = some v ∧ W.cell? ⟨lb, 4, none⟩ = some (.int .i64 (size : Int))) _ := ⟨(HF5.out w6 hb6).cell 3, (HF5.out w6 hb6).cell 4⟩
      refine hK.out _ _ (fun _ => hHeldN) ?_
      clear hK K hHeld
      have hHeld := hHeldN
      clear hHeldN
      try simp only [Act.put, List.setIfInBounds_toArray, List.set_cons_zero, List.set_cons_succ]
      refine uStep (i := 8) rfl (by kernel_rfl) (fun K hK => ?_)
      go_simp
      have hb7 := (Below.refl w6.heap.size w6).alloc (Nat.le_refl _) (.cells #[.slice A6 rec.length c6] 22)
      have hN7 := Bk.new_ w6 22 #[.slice A6 rec.length c6]
      have hb57 := hb6.trans (hb7.mono hb6.size)
      have hHeldN : (fun W : World => W.cell? ⟨lb, 3, none⟩ = some v ∧ W.cell? ⟨lb, 4, none⟩ = some (.int .i64 (size : Int))) _ := ⟨(HF5.out _ hb57).cell 3, (HF5.out _ hb57).cell 4⟩
      refine hK.out _ _ (fun _ => hHeldN) ?_
      clear hK K hHeld
      have hHeld := hHeldN
      clear hHeldN
      try simp only [Act.put, List.setIfInBounds_toArray, List.set_cons_zero, List.set_cons_succ]
      refine uStep (i := 9) rfl (by kernel_rfl) (fun K hK => ?_)
      refine at_app (.tmp 84) (.tmp 87) ?_
      refine step_appK rfl (.tmp 84) (.tmp 87) rfl slrw (by decide) rfl (HOw.out _ hb57) (Nat.le_trans hBz hb57.size) rfl (news := [.slice A6 rec.length c6]) rfl (fun j u hu => by rw [Nat.zero_add]; exact (hN7.cell j).trans (by simpa using hu)) (by intro x hx; rw [List.mem_singleton] at hx; subst hx; rfl) (by omega) ?_
      intro v8 w8 ho8 hb8 hg8 hat8
      obtain ⟨A8, c8, rfl, hc8⟩ := ho8.shape
      have ho8' : Lec.Own w8 B 22 (.slice A8 (es.length + 1) c8) (es ++ [.slice A6 rec.length c6]) := by
        show w8.ownsRow _ _ _ _ (List.length _) _
        rw [List.length_append, List.length_singleton]
        exact ho8
      have hB8 := bkGrown (HF5.out _ hb57) hg8 (own_bkK (HOw.out _ hb57) (HF5.out _ hb57) (by decide))
      have q8 := hB8.cell
      have z8 := hB8.frz
      have hfin := hG5.push (m := L.length) hb6 rfl hc6 hu hb7 hg8 ho8' hat8 hZ3 (x := (size : Int) + (L.length : Int)) (by omega)
      have hHeldN : (fun W : World => W.cell? ⟨lb, 3, none⟩ = some v ∧ W.cell? ⟨lb, 4, none⟩ = some (.int .i64 (size : Int))) _ := ⟨hB8.cell 3, hB8.cell 4⟩
      refine hK.out _ _ (fun _ => hHeldN) ?_
      clear hK K hHeld
      have hHeld := hHeldN
      clear hHeldN
      try simp only [Act.put, List.setIfInBounds_toArray, List.set_cons_zero, List.set_cons_succ]
      refine uPure (i := 17) (v := ?_) rfl (by kernel_rfl) (by kernel_rfl) (by kernel_rfl) (by kernel_rfl) (fun _ _ _ h => h) (by rfl) ?_ ?_
      rotate_left
      · (intro w; go_simp; try with_reducible rfl)
      try simp only [Act.put, List.setIfInBounds_toArray, List.set_cons_zero, List.set_cons_succ]
      refine uPure (i := 18) (v := ?_) rfl (by kernel_rfl) (by kernel_rfl) (by kernel_rfl) (by kernel_rfl) (fun _ _ _ h => h) (by rfl) ?_ ?_
      rotate_left
      · (intro w; go_simp; try with_reducible rfl)
      try simp only [Act.put, List.setIfInBounds_toArray, List.set_cons_zero, List.set_cons_succ]
      refine uStep (i := 19) rfl (by kernel_rfl) (fun K hK => ?_)
      go_simp
      refine hK.out _ _ (fun h => absurd h (by decide)) ?_
      clear hK K
      try simp only [Act.put, List.setIfInBounds_toArray, List.set_cons_zero, List.set_cons_succ]
      refine uPure (i := 20) (v := ?_) rfl (by kernel_rfl) (by kernel_rfl) (by kernel_rfl) (by kernel_rfl) (fun _ _ _ h => h) (by rfl) ?_ ?_
      rotate_left
      · (intro w; go_simp; try with_reducible rfl)
      try simp only [Act.put, List.setIfInBounds_toArray, List.set_cons_zero, List.set_cons_succ]
      refine uPure (i := 21) (v := ?_) rfl (by kernel_rfl) (by kernel_rfl) (by kernel_rfl) (by kernel_rfl) (fun _ _ _ h => h) (by rfl) ?_ ?_
      rotate_left
      · (intro w; go_simp; try with_reducible rfl)
      try simp only [Act.put, List.setIfInBounds_toArray, List.set_cons_zero, List.set_cons_succ]
      refine uStep (i := 22) rfl (by kernel_rfl) (fun K hK => ?_)
      go_simp
      refine hK.out _ _ (fun h => absurd h (by decide)) ?_
      clear hK K
      try simp only [Act.put, List.setIfInBounds_toArray, List.set_cons_zero, List.set_cons_succ]
      refine uDone (by kernel_rfl) ?_ _
      go_wp2
      go_ret
      exact ⟨by show _ = Ending.returned (.int .i64 r.2); rw [hc0]; rfl, hfin.1, b5.trans hfin.2.1, k5.trans hfin.2.2 (fun b hb => .inl hb)⟩
    | true =>
      rw [if_neg (by decide)]
      by_cases hcy : r2.2 = 0
      · rw [if_neg (by simpa using hcy)]
        have hcd1 : (r2.2 == 0) = true := by simpa using hcy
        go_enter Tryz.func6, Tryz.ntmps6
        go_upto_region 11 with (first
          | (go_at_call 21; refine HI.out.mono ?_; rintro e w1 ⟨rfl, hww⟩; obtain rfl := hww.symm)
          | (go_at_call 19; (with_reducible refine HE.out.mono ?_); (rintro e w1 ⟨v1, rfl, ho1, hb1⟩)
             obtain ⟨A1, c1, rfl, hc1⟩ := ho1.shape
             rw [bcs_length] at hc1 ho1 ⊢
             have q1 := (HB.out w1 hb1).cell; have z1 := (HB.out w1 hb1).frz))
        have hG2 := (H1.out w1 hb1).below (Below.refl _ _).drew
        have hR2 : RdP (fun b => K b ∨ (w.heap.size ≤ b ∧ b < w1.heap.size)) ((w1.setCell ⟨lb, 5, none⟩ (.bool true)).drew) A1 L.length (bcs L) := by
          have hrd := ho1.rd
          have hlie : RdP (fun b => K b ∨ (w.heap.size ≤ b ∧ b < w1.heap.size)) w1 A1 L.length (bcs L) := ⟨hrd, fun hn a e => by subst e; exact .inr (World.ownsRow.lt ho1 a.block rfl)⟩
          exact ⟨hrd.kbP (((KbP.refl (fun k => k = lb) w1).setCell (p := ⟨lb, 5, none⟩) (.inl rfl) _).drew) (fun hn a e hl => by
            subst e
            have h1 := World.ownsRow.lt ho1 a.block rfl
            have h2 := Hlb.out
            have h3 : a.block = lb := hl
            omega), hlie.lie⟩
        have q2 := hG2.bk.cell
        unfold lgCs ptrV svl at q2
        have HA2 := Lib.hid (HA.out _ _ A1 c1 hG2 hR2 hc1)
        have HT := Lib.hid (fun (W : World) (e : Ending) (hO : OneP B _ _ fb r e W) => hG2.turnP hO)
        go_region_held3 (fun W => W.cell? ⟨lb, 1, none⟩ = some (.pointer (some ⟨fb, 0, none⟩)) ∧ W.cell? ⟨lb, 2, none⟩ = some (.string ⟨name.toArray⟩))
          (first | exact ⟨q2 1, q2 2⟩ | exact ⟨q3 1, q3 2⟩)
          (first | (go_at_call 23; (with_reducible refine HA2.out.mono ?_); rintro e w3 hO; obtain rfl := hO.e; have q3 := (HT.out _ _ hO).bk.cell; have z3 := (HT.out _ _ hO).bk.frz; unfold lgCs ptrV svl at q3))
        have hG3 := HT.out _ _ hO
        have hZ3 : ∀ b, Z b → (K b ∨ (w.heap.size ≤ b ∧ b < w1.heap.size)) ∧ b ≠ lb ∧ v.ownBlock ≠ some b ∧ ¬ E b := fun b hz => ⟨.inl (hZ b hz).1, (hZ b hz).2⟩
        have b3 : Below B w w3 := ((hb1.mono hB).setCell (p := ⟨lb, 5, none⟩) Hlo.out _).drew.trans hO.below
        have k3 : KbP (fun b => ¬ Z b) w w3 := ((KbP.setCell (KbP.of_below hb1 : KbP (fun b => ¬ Z b) w w1) (p := ⟨lb, 5, none⟩) (.inl (fun hz => (hZ lb hz).2.1 rfl)) (.bool true)).drew).trans (LgG.kbZ hZ3 hO.kb (fun b hb => .inl hb)) (fun b hb => .inl hb)
        have q3 := hG3.bk.cell
        unfold lgCs ptrV svl at q3
        clear hR2 hb1 ho1 q1 z1 hG2 q2 HA2 HT hO
        go_upto_region 15 with fail
        have hG3d := hG3.below (Below.refl _ _).drew
        have HS2 := Lib.hid (HS.out _ _ hG3d)
        have HT4 := Lib.hid (fun (W : World) (e : Ending) (hO : OneP B _ _ fb r2 e W) => hG3d.turnP hO)
        go_region_held3 (fun W => W.cell? ⟨lb, 1, none⟩ = some (.pointer (some ⟨fb, 0, none⟩)) ∧ W.cell? ⟨lb, 2, none⟩ = some (.string ⟨name.toArray⟩))
          (first | exact ⟨q3 1, q3 2⟩ | exact ⟨q4 1, q4 2⟩)
          (first | (go_at_call 24; (with_reducible refine HS2.out.mono ?_); rintro e w4 hO; obtain rfl := hO.e; have q4 := (HT4.out _ _ hO).bk.cell; have z4 := (HT4.out _ _ hO).bk.frz; unfold lgCs ptrV svl at q4))
        have hG4 := HT4.out _ _ hO
        have b4 : Below B w w4 := b3.drew.trans hO.below
        have k4 : KbP (fun b => ¬ Z b) w w4 := k3.drew.trans (LgG.kbZ hZ3 hO.kb (fun b hb => .inl hb)) (fun b hb => .inl hb)
        clear hG3d HS2 HT4 hO hG3 b3 k3 q3 z3
        go_upto_region 19 with fail
        have hG5 := (hG4.cells_ 5 (.bool false) (l' := ⟨recs, size, false⟩) rfl rfl).below (Below.refl _ _).drew
        have b5 : Below B w ((w4.setCell ⟨lb, 5, none⟩ (.bool false)).drew) := (Below.setCell b4 (p := ⟨lb, 5, none⟩) Hlo.out _).drew
        have k5 : KbP (fun b => ¬ Z b) w ((w4.setCell ⟨lb, 5, none⟩ (.bool false)).drew) := (KbP.setCell k4 (p := ⟨lb, 5, none⟩) (.inl (fun hz => (hZ lb hz).2.1 rfl)) (.bool false)).drew
        have HF5 := Lib.hid ((show ∀ (W : World), Below (w4.setCell ⟨lb, 5, none⟩ (.bool false)).drew.heap.size (w4.setCell ⟨lb, 5, none⟩ (.bool false)).drew W → _ from fun W hb => (hG5.below hb).bk))
        have HOw := Lib.hid ((show ∀ (W : World), Below (w4.setCell ⟨lb, 5, none⟩ (.bool false)).drew.heap.size (w4.setCell ⟨lb, 5, none⟩ (.bool false)).drew W → _ from fun W hb => (hG5.below hb).own))
        have hBz := hG5.B_le
        have hlen : es.length ≤ 1099511 := by rw [hG5.els.1]; exact hrn
        obtain ⟨w5, hw5⟩ : ∃ W, W = (w4.setCell ⟨lb, 5, none⟩ (.bool false)).drew := ⟨_, rfl⟩
        rw [← hw5] at hG5 b5 k5 HF5 HOw hBz
        have hHeld : (fun W : World => W.cell? ⟨lb, 3, none⟩ = some v ∧ W.cell? ⟨lb, 4, none⟩ = some (.int .i64 (size : Int))) w5 := ⟨hG5.bk.cell 3, hG5.bk.cell 4⟩
        refine wp_region_U (S := fun W : World => W.cell? ⟨lb, 3, none⟩ = some v ∧ W.cell? ⟨lb, 4, none⟩ = some (.int .i64 (size : Int))) (ks := [5, 7, 8, 9, 13]) (by kernel_rfl) ?_
        simp only [List.size_toArray, List.length_cons, List.length_nil, Nat.reduceAdd]
        rw [← hw5]
        have Hw5 := Lib.hid hw5
        clear hw5
        refine uPure (i := 0) (v := ?_) rfl (by kernel_rfl) (by kernel_rfl) (by kernel_rfl) (by kernel_rfl) (fun _ _ _ h => h) (by rfl) ?_ ?_
        rotate_left
        · (intro w; go_simp; try with_reducible rfl)
        try simp only [Act.put, List.setIfInBounds_toArray, List.set_cons_zero, List.set_cons_succ]
        refine uPure (i := 1) (v := ?_) rfl (by kernel_rfl) (by kernel_rfl) (by kernel_rfl) (by kernel_rfl) (fun _ _ _ h => h) (by rfl) ?_ ?_
        rotate_left
        · (intro w; go_simp; try with_reducible rfl)
        try simp only [Act.put, List.setIfInBounds_toArray, List.set_cons_zero, List.set_cons_succ]
        refine uPure (i := 2) (v := ?_) rfl (by kernel_rfl) (by kernel_rfl) (by kernel_rfl) (by kernel_rfl) (fun _ _ _ h => h) (by rfl) ?_ ?_
        rotate_left
        · (intro w; go_simp; try with_reducible rfl)
        try simp only [Act.put, List.setIfInBounds_toArray, List.set_cons_zero, List.set_cons_succ]
        refine uPure (i := 3) (v := ?_) rfl (by kernel_rfl) (by kernel_rfl) (by kernel_rfl) (by kernel_rfl) (fun _ _ _ h => h) (by rfl) ?_ ?_
        rotate_left
        · (intro w; go_simp; try with_reducible rfl)
        try simp only [Act.put, List.setIfInBounds_toArray, List.set_cons_zero, List.set_cons_succ]
        refine uPure (i := 4) (v := ?_) rfl (by kernel_rfl) (by kernel_rfl) (by kernel_rfl) (by kernel_rfl) (fun _ _ _ h => h) (by rfl) ?_ ?_
        rotate_left
        · (intro w; go_simp; try with_reducible rfl)
        try simp only [Act.put, List.setIfInBounds_toArray, List.set_cons_zero, List.set_cons_succ]
        refine uPure (i := 6) (v := ?_) rfl (by kernel_rfl) (by kernel_rfl) (by kernel_rfl) (by kernel_rfl) (fun _ _ _ h => h) (by rfl) ?_ ?_
        rotate_left
        · (intro w; go_simp; try with_reducible rfl)
        try simp only [Act.put, List.setIfInBounds_toArray, List.set_cons_zero, List.set_cons_succ]
        refine uPure (i := 10) (v := ?_) rfl (by kernel_rfl) (by kernel_rfl) (by kernel_rfl) (by kernel_rfl) (fun _ _ _ h => h) (by rfl) ?_ ?_
        rotate_left
        · (intro w; go_simp; try with_reducible rfl)
        try simp only [Act.put, List.setIfInBounds_toArray, List.set_cons_zero, List.set_cons_succ]
        refine uPure (i := 11) (v := ?_) rfl (by kernel_rfl) (by kernel_rfl) (by kernel_rfl) (by kernel_rfl) (fun _ _ _ h => h) (by rfl) ?_ ?_
        rotate_left
        · (intro w; go_simp; try with_reducible rfl)
        try simp only [Act.put, List.setIfInBounds_toArray, List.set_cons_zero, List.set_cons_succ]
        refine uPure (i := 12) (v := ?_) rfl (by kernel_rfl) (by kernel_rfl) (by kernel_rfl) (by kernel_rfl) (fun _ _ _ h => h) (by rfl) ?_ ?_
        rotate_left
        · (intro w; go_simp; try with_reducible rfl)
        try simp only [Act.put, List.setIfInBounds_toArray, List.set_cons_zero, List.set_cons_succ]
        refine uPure (i := 14) (v := ?_) rfl (by kernel_rfl) (by kernel_rfl) (by kernel_rfl) (by kernel_rfl) (fun _ _ _ h => h) (by rfl) ?_ ?_
        rotate_left
        · (intro w; go_simp; try with_reducible rfl)
        try simp only [Act.put, List.setIfInBounds_toArray, List.set_cons_zero, List.set_cons_succ]
        refine uPure (i := 15) (v := ?_) rfl (by kernel_rfl) (by kernel_rfl) (by kernel_rfl) (by kernel_rfl) (fun _ _ _ h => h) (by rfl) ?_ ?_
        rotate_left
        · (intro w; go_simp; try with_reducible rfl)
        try simp only [Act.put, List.setIfInBounds_toArray, List.set_cons_zero, List.set_cons_succ]
        refine uTake (i := 13) (v := ?_) rfl (by kernel_rfl) (by kernel_rfl) (by kernel_rfl) (by kernel_rfl) (fun _ _ _ h => h) hHeld (by rfl) ?_ ?_
        rotate_left
        · (intro w hSw; (try dsimp only at hSw); go_simp; try with_reducible rfl)
        try simp only [Act.put, List.setIfInBounds_toArray, List.set_cons_zero, List.set_cons_succ]
        refine uPure (i := 16) (v := ?_) rfl (by kernel_rfl) (by kernel_rfl) (by kernel_rfl) (by kernel_rfl) (fun _ _ _ h => h) (by rfl) ?_ ?_
        rotate_left
        · (intro w; go_simp; try with_reducible rfl)
        try simp only [Act.put, List.setIfInBounds_toArray, List.set_cons_zero, List.set_cons_succ]
        refine uTake (i := 5) (v := ?_) rfl (by kernel_rfl) (by kernel_rfl) (by kernel_rfl) (by kernel_rfl) (fun _ _ _ h => h) hHeld (by rfl) ?_ ?_
        rotate_left
        · (intro w hSw; (try dsimp only at hSw); go_simp; try with_reducible rfl)
        try simp only [Act.put, List.setIfInBounds_toArray, List.set_cons_zero, List.set_cons_succ]
        refine uStep (i := 7) rfl (by kernel_rfl) (fun K hK => ?_)
        go_simp
        go_at_call 25
        refine (c_CloneB w5 (HR.out w5 b5) hBz (by omega)).mono ?_
        rintro e w6 ⟨A6, c6, rfl, hc6, hu, hb6⟩
        have hHeldN : (fun W : World => W.cell? ⟨lb, 3, none⟩ = some v ∧ W.cell? ⟨lb, 4, none⟩ = some (.int .i64 (size : Int))) _ := ⟨(HF5.out w6 hb6).cell 3, (HF5.out w6 hb6).cell 4⟩
        refine hK.out _ _ (fun _ => hHeldN) ?_
        clear hK K hHeld
        have hHeld := hHeldN
        clear hHeldN
        try simp only [Act.put, List.setIfInBounds_toArray, List.set_cons_zero, List.set_cons_succ]
        refine uStep (i := 8) rfl (by kernel_rfl) (fun K hK => ?_)
        go_simp
        have hb7 := (Below.refl w6.heap.size w6).alloc (Nat.le_refl _) (.cells #[.slice A6 rec.length c6] 22)
        have hN7 := Bk.new_ w6 22 #[.slice A6 rec.length c6]
        have hb57 := hb6.trans (hb7.mono hb6.size)
        have hHeldN : (fun W : World => W.cell? ⟨lb, 3, none⟩ = some v ∧ W.cell? ⟨lb, 4, none⟩ = some (.int .i64 (size : Int))) _ := ⟨(HF5.out _ hb57).cell 3, (HF5.out _ hb57).cell 4⟩
        refine hK.out _ _ (fun _ => hHeldN) ?_
        clear hK K hHeld
        have hHeld := hHeldN
        clear hHeldN
        try simp only [Act.put, List.setIfInBounds_toArray, List.set_cons_zero, List.set_cons_succ]
        refine uStep (i := 9) rfl (by kernel_rfl) (fun K hK => ?_)
        refine at_app (.tmp 84) (.tmp 87) ?_
        refine step_appK rfl (.tmp 84) (.tmp 87) rfl slrw (by decide) rfl (HOw.out _ hb57) (Nat.le_trans hBz hb57.size) rfl (news := [.slice A6 rec.length c6]) rfl (fun j u hu => by rw [Nat.zero_add]; exact (hN7.cell j).trans (by simpa using hu)) (by intro x hx; rw [List.mem_singleton] at hx; subst hx; rfl) (by omega) ?_
        intro v8 w8 ho8 hb8 hg8 hat8
        obtain ⟨A8, c8, rfl, hc8⟩ := ho8.shape
        have ho8' : Lec.Own w8 B 22 (.slice A8 (es.length + 1) c8) (es ++ [.slice A6 rec.length c6]) := by
          show w8.ownsRow _ _ _ _ (List.length _) _
          rw [List.length_append, List.length_singleton]
          exact ho8
        have hB8 := bkGrown (HF5.out _ hb57) hg8 (own_bkK (HOw.out _ hb57) (HF5.out _ hb57) (by decide))
        have q8 := hB8.cell
        have z8 := hB8.frz
        have hfin := hG5.push (m := L.length) hb6 rfl hc6 hu hb7 hg8 ho8' hat8 hZ3 (x := (size : Int) + (L.length : Int)) (by omega)
        have hHeldN : (fun W : World => W.cell? ⟨lb, 3, none⟩ = some v ∧ W.cell? ⟨lb, 4, none⟩ = some (.int .i64 (size : Int))) _ := ⟨hB8.cell 3, hB8.cell 4⟩
        refine hK.out _ _ (fun _ => hHeldN) ?_
        clear hK K hHeld
        have hHeld := hHeldN
        clear hHeldN
        try simp only [Act.put, List.setIfInBounds_toArray, List.set_cons_zero, List.set_cons_succ]
        refine uPure (i := 17) (v := ?_) rfl (by kernel_rfl) (by kernel_rfl) (by kernel_rfl) (by kernel_rfl) (fun _ _ _ h => h) (by rfl) ?_ ?_
        rotate_left
        · (intro w; go_simp; try with_reducible rfl)
        try simp only [Act.put, List.setIfInBounds_toArray, List.set_cons_zero, List.set_cons_succ]
        refine uPure (i := 18) (v := ?_) rfl (by kernel_rfl) (by kernel_rfl) (by kernel_rfl) (by kernel_rfl) (fun _ _ _ h => h) (by rfl) ?_ ?_
        rotate_left
        · (intro w; go_simp; try with_reducible rfl)
        try simp only [Act.put, List.setIfInBounds_toArray, List.set_cons_zero, List.set_cons_succ]
        refine uStep (i := 19) rfl (by kernel_rfl) (fun K hK => ?_)
        go_simp
        refine hK.out _ _ (fun h => absurd h (by decide)) ?_
        clear hK K
        try simp only [Act.put, List.setIfInBounds_toArray, List.set_cons_zero, List.set_cons_succ]
        refine uPure (i := 20) (v := ?_) rfl (by kernel_rfl) (by kernel_rfl) (by kernel_rfl) (by kernel_rfl) (fun _ _ _ h => h) (by rfl) ?_ ?_
        rotate_left
        · (intro w; go_simp; try with_reducible rfl)
        try simp only [Act.put, List.setIfInBounds_toArray, List.set_cons_zero, List.set_cons_succ]
        refine uPure (i := 21) (v := ?_) rfl (by kernel_rfl) (by kernel_rfl) (by kernel_rfl) (by kernel_rfl) (fun _ _ _ h => h) (by rfl) ?_ ?_
        rotate_left
        · (intro w; go_simp; try with_reducible rfl)
        try simp only [Act.put, List.setIfInBounds_toArray, List.set_cons_zero, List.set_cons_succ]
        refine uStep (i := 22) rfl (by kernel_rfl) (fun K hK => ?_)
        go_simp
        refine hK.out _ _ (fun h => absurd h (by decide)) ?_
        clear hK K
        try simp only [Act.put, List.setIfInBounds_toArray, List.set_cons_zero, List.set_cons_succ]
        refine uDone (by kernel_rfl) ?_ _
        go_wp2
        go_ret
        exact ⟨by show _ = Ending.returned (.int .i64 r2.2); rw [hcy]; rfl, hfin.1, b5.trans hfin.2.1, k5.trans hfin.2.2 (fun b hb => .inl hb)⟩
      · rw [if_pos hcy]
        have hcd1 : (r2.2 == 0) = false := by rw [beq_eq_false_iff_ne]; exact hcy
        go_enter Tryz.func6, Tryz.ntmps6
        go_upto_region 11 with (first
          | (go_at_call 21; refine HI.out.mono ?_; rintro e w1 ⟨rfl, hww⟩; obtain rfl := hww.symm)
          | (go_at_call 19; (with_reducible refine HE.out.mono ?_); (rintro e w1 ⟨v1, rfl, ho1, hb1⟩)
             obtain ⟨A1, c1, rfl, hc1⟩ := ho1.shape
             rw [bcs_length] at hc1 ho1 ⊢
             have q1 := (HB.out w1 hb1).cell; have z1 := (HB.out w1 hb1).frz))
        have hG2 := (H1.out w1 hb1).below (Below.refl _ _).drew
        have hR2 : RdP (fun b => K b ∨ (w.heap.size ≤ b ∧ b < w1.heap.size)) ((w1.setCell ⟨lb, 5, none⟩ (.bool true)).drew) A1 L.length (bcs L) := by
          have hrd := ho1.rd
          have hlie : RdP (fun b => K b ∨ (w.heap.size ≤ b ∧ b < w1.heap.size)) w1 A1 L.length (bcs L) := ⟨hrd, fun hn a e => by subst e; exact .inr (World.ownsRow.lt ho1 a.block rfl)⟩
          exact ⟨hrd.kbP (((KbP.refl (fun k => k = lb) w1).setCell (p := ⟨lb, 5, none⟩) (.inl rfl) _).drew) (fun hn a e hl => by
            subst e
            have h1 := World.ownsRow.lt ho1 a.block rfl
            have h2 := Hlb.out
            have h3 : a.block = lb := hl
            omega), hlie.lie⟩
        have q2 := hG2.bk.cell
        unfold lgCs ptrV svl at q2
        have HA2 := Lib.hid (HA.out _ _ A1 c1 hG2 hR2 hc1)
        have HT := Lib.hid (fun (W : World) (e : Ending) (hO : OneP B _ _ fb r e W) => hG2.turnP hO)
        go_region_held3 (fun W => W.cell? ⟨lb, 1, none⟩ = some (.pointer (some ⟨fb, 0, none⟩)) ∧ W.cell? ⟨lb, 2, none⟩ = some (.string ⟨name.toArray⟩))
          (first | exact ⟨q2 1, q2 2⟩ | exact ⟨q3 1, q3 2⟩)
          (first | (go_at_call 23; (with_reducible refine HA2.out.mono ?_); rintro e w3 hO; obtain rfl := hO.e; have q3 := (HT.out _ _ hO).bk.cell; have z3 := (HT.out _ _ hO).bk.frz; unfold lgCs ptrV svl at q3))
        have hG3 := HT.out _ _ hO
        have hZ3 : ∀ b, Z b → (K b ∨ (w.heap.size ≤ b ∧ b < w1.heap.size)) ∧ b ≠ lb ∧ v.ownBlock ≠ some b ∧ ¬ E b := fun b hz => ⟨.inl (hZ b hz).1, (hZ b hz).2⟩
        have b3 : Below B w w3 := ((hb1.mono hB).setCell (p := ⟨lb, 5, none⟩) Hlo.out _).drew.trans hO.below
        have k3 : KbP (fun b => ¬ Z b) w w3 := ((KbP.setCell (KbP.of_below hb1 : KbP (fun b => ¬ Z b) w w1) (p := ⟨lb, 5, none⟩) (.inl (fun hz => (hZ lb hz).2.1 rfl)) (.bool true)).drew).trans (LgG.kbZ hZ3 hO.kb (fun b hb => .inl hb)) (fun b hb => .inl hb)
        have q3 := hG3.bk.cell
        unfold lgCs ptrV svl at q3
        clear hR2 hb1 ho1 q1 z1 hG2 q2 HA2 HT hO
        go_upto_region 15 with fail
        have hG3d := hG3.below (Below.refl _ _).drew
        have HS2 := Lib.hid (HS.out _ _ hG3d)
        have HT4 := Lib.hid (fun (W : World) (e : Ending) (hO : OneP B _ _ fb r2 e W) => hG3d.turnP hO)
        go_region_held3 (fun W => W.cell? ⟨lb, 1, none⟩ = some (.pointer (some ⟨fb, 0, none⟩)) ∧ W.cell? ⟨lb, 2, none⟩ = some (.string ⟨name.toArray⟩))
          (first | exact ⟨q3 1, q3 2⟩ | exact ⟨q4 1, q4 2⟩)
          (first | (go_at_call 24; (with_reducible refine HS2.out.mono ?_); rintro e w4 hO; obtain rfl := hO.e; have q4 := (HT4.out _ _ hO).bk.cell; have z4 := (HT4.out _ _ hO).bk.frz; unfold lgCs ptrV svl at q4))
        have hG4 := HT4.out _ _ hO
        have b4 : Below B w w4 := b3.drew.trans hO.below
        have k4 : KbP (fun b => ¬ Z b) w w4 := k3.drew.trans (LgG.kbZ hZ3 hO.kb (fun b hb => .inl hb)) (fun b hb => .inl hb)
        clear hG3d HS2 HT4 hO hG3 b3 k3 q3 z3
        go_wp2
        go_ret
        exact ⟨rfl, ⟨_, E, v, es, hG4, hZ3⟩, b4, k4⟩
  · rw [if_pos hc0]
    have hcd : (r.2 == 0) = false := by rw [beq_eq_false_iff_ne]; exact hc0
    go_enter Tryz.func6, Tryz.ntmps6
    go_upto_region 11 with (first
      | (go_at_call 21; refine HI.out.mono ?_; rintro e w1 ⟨rfl, hww⟩; obtain rfl := hww.symm)
      | (go_at_call 19; (with_reducible refine HE.out.mono ?_); (rintro e w1 ⟨v1, rfl, ho1, hb1⟩)
         obtain ⟨A1, c1, rfl, hc1⟩ := ho1.shape
         rw [bcs_length] at hc1 ho1 ⊢
         have q1 := (HB.out w1 hb1).cell; have z1 := (HB.out w1 hb1).frz))
    have hG2 := (H1.out w1 hb1).below (Below.refl _ _).drew
    have hR2 : RdP (fun b => K b ∨ (w.heap.size ≤ b ∧ b < w1.heap.size)) ((w1.setCell ⟨lb, 5, none⟩ (.bool true)).drew) A1 L.length (bcs L) := by
      have hrd := ho1.rd
      have hlie : RdP (fun b => K b ∨ (w.heap.size ≤ b ∧ b < w1.heap.size)) w1 A1 L.length (bcs L) := ⟨hrd, fun hn a e => by subst e; exact .inr (World.ownsRow.lt ho1 a.block rfl)⟩
      exact ⟨hrd.kbP (((KbP.refl (fun k => k = lb) w1).setCell (p := ⟨lb, 5, none⟩) (.inl rfl) _).drew) (fun hn a e hl => by
        subst e
        have h1 := World.ownsRow.lt ho1 a.block rfl
        have h2 := Hlb.out
        have h3 : a.block = lb := hl
        omega), hlie.lie⟩
    have q2 := hG2.bk.cell
    unfold lgCs ptrV svl at q2
    have HA2 := Lib.hid (HA.out _ _ A1 c1 hG2 hR2 hc1)
    have HT := Lib.hid (fun (W : World) (e : Ending) (hO : OneP B _ _ fb r e W) => hG2.turnP hO)
    go_region_held3 (fun W => W.cell? ⟨lb, 1, none⟩ = some (.pointer (some ⟨fb, 0, none⟩)) ∧ W.cell? ⟨lb, 2, none⟩ = some (.string ⟨name.toArray⟩))
      (first | exact ⟨q2 1, q2 2⟩ | exact ⟨q3 1, q3 2⟩)
      (first | (go_at_call 23; (with_reducible refine HA2.out.mono ?_); rintro e w3 hO; obtain rfl := hO.e; have q3 := (HT.out _ _ hO).bk.cell; have z3 := (HT.out _ _ hO).bk.frz; unfold lgCs ptrV svl at q3))
    have hG3 := HT.out _ _ hO
    have hZ3 : ∀ b, Z b → (K b ∨ (w.heap.size ≤ b ∧ b < w1.heap.size)) ∧ b ≠ lb ∧ v.ownBlock ≠ some b ∧ ¬ E b := fun b hz => ⟨.inl (hZ b hz).1, (hZ b hz).2⟩
    have b3 : Below B w w3 := ((hb1.mono hB).setCell (p := ⟨lb, 5, none⟩) Hlo.out _).drew.trans hO.below
    have k3 : KbP (fun b => ¬ Z b) w w3 := ((KbP.setCell (KbP.of_below hb1 : KbP (fun b => ¬ Z b) w w1) (p := ⟨lb, 5, none⟩) (.inl (fun hz => (hZ lb hz).2.1 rfl)) (.bool true)).drew).trans (LgG.kbZ hZ3 hO.kb (fun b hb => .inl hb)) (fun b hb => .inl hb)
    have q3 := hG3.bk.cell
    unfold lgCs ptrV svl at q3
    clear hR2 hb1 ho1 q1 z1 hG2 q2 HA2 HT hO
    go_wp2
    go_ret
    exact ⟨rfl, ⟨_, E, v, es, hG3, hZ3⟩, b3, k3⟩
end Go.Proofs.YtgilnjngphhhlaaGreat
