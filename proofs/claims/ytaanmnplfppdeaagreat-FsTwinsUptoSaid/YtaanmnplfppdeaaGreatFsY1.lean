/- Layer 1: rows of files that are told; the safe files: the walk of Safe. -/
import Derived.Test.YtaanmnplfppdeaaGreatFsX1
import Derived.Test.YtaanmnplfppdeaaGreatFsRd
import Derived.RangeFuncNested
import Derived.RangeFuncBound
import Derived.RangeFuncCalls
import Derived.RangeFuncLeaves
import Derived.RangeFuncBox
import Derived.Shelf.Abstract
import Derived.Shelf.RegionOpen
import Derived.OwnWalkIn
import Derived.TacticsInMore
import Derived.LoopNIn
import Derived.LoopIn
import Derived.Test.YtaanmnplfppdeaaGreatInRound
namespace Go.Fsy
open Go.RowKit Go.Maps Go.Lec
/-- A file that is told, with where its bytes lie. -/
structure FR where
  name : Bs
  data : Bs
  A : Option Addr
  c : Nat
def FR.fl (x : FR) : Fl := (x.name, x.data)
def FR.cs (x : FR) : List Value := [svl x.name, .slice x.A x.data.length x.c]
theorem FR.cs_len (x : FR) : x.cs.length = 2 := rfl
theorem FR.cs_one (x : FR) : ∀ u ∈ x.cs, u.oneCell' = true := by
  intro u hu
  simp only [FR.cs, List.mem_cons, List.not_mem_nil, or_false] at hu
  rcases hu with rfl | rfl <;> rfl
def FR.ok (I : Nat → Prop) (w : World) (x : FR) : Prop := RdP I w x.A x.data.length (bcs x.data) ∧ x.data.length ≤ x.c
/-- What a function that tells files answers. -/
def FilesP (w : World) (L : List Fl) (e : Ending) (w' : World) : Prop :=
  ∃ (A : Option Addr) (c : Nat) (FL : List FR), e = .returned (.slice A L.length c) ∧ L.length ≤ c ∧ FL.map FR.fl = L ∧ RdKP (fun b => w.heap.size ≤ b) w' 2 A L.length (FL.flatMap FR.cs) ∧ (∀ x ∈ FL, x.ok (fun b => w.heap.size ≤ b) w') ∧ Below w.heap.size w w'
theorem FilesP.none_ (w : World) : FilesP w [] (.returned (.slice none 0 0)) w := ⟨none, 0, [], rfl, Nat.le_refl _, rfl, RdKP.nil_, (fun x hx => by (cases hx)), Below.refl _ _⟩
section
variable {w wr w1 w2 : World} {tf : TypeId} {v v' : Value} {FL : List FR} {x : FR}
/-- A row of files that is being built. -/
structure FlI (tf : TypeId) (w wr : World) (v : Value) (FL : List FR) : Prop where
  own : OwnK wr w.heap.size tf 2 v FL.length (FL.flatMap FR.cs)
  ok : ∀ x ∈ FL, x.ok (fun b => w.heap.size ≤ b ∧ b < wr.heap.size ∧ v.ownBlock ≠ some b) wr
  bl : Below w.heap.size w wr
theorem FlI.start (tf : TypeId) (w : World) : FlI tf w w (.slice none 0 0) [] := ⟨OwnK.nil_ _ _ _ _, fun x hx => by (cases hx), Below.refl _ _⟩
theorem FlI.keep (h : FlI tf w wr v FL) (hb : Below wr.heap.size wr w1) : FlI tf w w1 v FL :=
  ⟨h.own.below hb (Nat.le_refl _), fun x hx => ⟨(RdP.below (h.ok x hx).1 hb).more (fun _b hb' => ⟨hb'.1, Nat.lt_of_lt_of_le hb'.2.1 hb.size, hb'.2.2⟩), (h.ok x hx).2⟩, h.bl.trans (hb.mono h.bl.size)⟩
theorem FlI.kbP {X : Nat → Prop} (h : FlI tf w wr v FL) (hb : KbP X wr w1) (hX : ∀ b, X b → w.heap.size ≤ b ∧ v.ownBlock ≠ some b ∧ ∀ x ∈ FL, 0 < x.data.length → ∀ p, x.A = some p → p.block ≠ b) : FlI tf w w1 v FL :=
  ⟨OwnK.kbP h.own hb (fun g hg hx => (hX g hx).2.1 hg), fun x hx => ⟨⟨(h.ok x hx).1.rd.kbP hb (fun hn p e hxp => (hX _ hxp).2.2 x hx hn p e rfl), fun hn p e => by
    have h1 := (h.ok x hx).1.lie hn p e
    exact ⟨h1.1, Nat.lt_of_lt_of_le h1.2.1 hb.size, h1.2.2⟩⟩, (h.ok x hx).2⟩, h.bl.trans (hb.below (fun b hb' => (hX b hb').1) h.bl.size)⟩
theorem FlI.snoc (h : FlI tf w w1 v FL) (hx : x.ok (fun b => w.heap.size ≤ b ∧ b < w1.heap.size ∧ v.ownBlock ≠ some b) w1) (ho : OwnK w2 w.heap.size tf 2 v' (FL.length + 1) (FL.flatMap FR.cs ++ x.cs)) (hg : w1.grownBy w2 v.ownBlock) (hat : v'.ownBlock = v.ownBlock ∨ ∃ g, v'.ownBlock = some g ∧ w1.heap.size ≤ g) (hb : Below w.heap.size w w2) :
    FlI tf w w2 v' (FL ++ [x]) := by
  have hk : KbP (fun b => v.ownBlock = some b) w1 w2 := KbP.of_grown hg (fun g e => e)
  have hne : ∀ b, b < w1.heap.size → v.ownBlock ≠ some b → v'.ownBlock ≠ some b := fun b hb1 hn e => by
    rcases hat with e' | ⟨g, e', hg'⟩
    · exact hn (e' ▸ e)
    · rw [e'] at e; cases e; omega
  have hall : ∀ y : FR, y.ok (fun b => w.heap.size ≤ b ∧ b < w1.heap.size ∧ v.ownBlock ≠ some b) w1 → y.ok (fun b => w.heap.size ≤ b ∧ b < w2.heap.size ∧ v'.ownBlock ≠ some b) w2 := fun y hy =>
    ⟨(hy.1.kbP hk (fun b hb1 hb2 => hb1.2.2 hb2)).more (fun b hb1 => ⟨hb1.1, Nat.lt_of_lt_of_le hb1.2.1 hk.size, hne b hb1.2.1 hb1.2.2⟩), hy.2⟩
  refine ⟨?_, fun y hy => ?_, hb⟩
  · rw [List.length_append, List.flatMap_append]; simpa using ho
  · rcases List.mem_append.1 hy with hy | hy
    · exact hall y (h.ok y hy)
    · rw [List.mem_singleton] at hy; subst hy; exact hall y hx
theorem FlI.post {w0 : World} {A : Option Addr} {c : Nat} {L : List Fl} (hb : Below w0.heap.size w0 w) (h : FlI tf w wr (.slice A L.length c) FL) (hL : FL.map FR.fl = L) (hc : L.length ≤ c) : FilesP w0 L (.returned (.slice A L.length c)) wr := by
  have hl : FL.length = L.length := by rw [← hL, List.length_map]
  have ho := h.own
  rw [hl] at ho
  exact ⟨A, c, FL, rfl, hc, hL, (RdKP.new_ ho).more (fun b hb' => Nat.le_trans hb.size hb'.1), fun x hx => ⟨((h.ok x hx).1).more (fun b hb' => Nat.le_trans hb.size hb'.1), (h.ok x hx).2⟩, hb.trans (h.bl.mono hb.size)⟩
end
theorem namesOf_node {l : Dir} {N : Nat} (h : dirOk N l) {k : Nat} (hk : k < (namesOf l).length) : ∃ i, node l (namesOf l)[k] = some i ∧ (namesOf l)[k].length ≤ 4294967296 ∧ ((namesOf l)[k], i) ∈ l := by
  have hm : (namesOf l)[k] ∈ l.map (·.1) := (List.mergeSort_perm _ _).mem_iff.1 (List.getElem_mem hk)
  obtain ⟨p, hp, he⟩ := List.mem_map.1 hm
  refine ⟨p.2, ?_, ?_, ?_⟩
  · rw [← he]; exact node_of_mem h.1 hp
  · rw [← he]; exact (h.2 p hp).2.1
  · rw [← he]; exact hp
end Go.Fsy
namespace Go.Proofs.YtaanmnplfppdeaaGreat
open Go.RowKit Go.Lec Go.Fsy Go.Op Go.Maps
theorem infoFl : (Tryz.prog.info? 40).map (fun i => (i.zero, i.size, i.bytes)) = some (some (.agg #[.string ⟨#[]⟩, .slice none 0 0]), 2, 40) := by kernel_rfl
theorem slfl : SlK Tryz.prog 35 40 (.agg #[.string ⟨#[]⟩, .slice none 0 0]) 40 2 := ⟨Tryz.underlying35, info_parts infoFl, rfl, by decide⟩
set_option maxRecDepth 100000 in
set_option maxHeartbeats 1600000 in
theorem c_Safe (w : World) {X I : Nat → Prop} {fb N : Nat} {s : St} (h : FsP X I w fb s) (hi : Fsy.Inv s N) (hN : N ≤ 1048576) :
    Calls Tryz.prog 16 #[ptrV fb] w (FilesP w (safeFiles s)) := by
  obtain ⟨G, hG⟩ := h
  have H0 := Lib.hid (c_is w fb (hG.bk.cell 0))
  have c9 : w.cell? ⟨fb, 9, none⟩ = some (.map (some G.sm)) := hG.bk.cell 9
  have hsl := hi.nSafe
  have hdk := hi.safe
  have HN := Lib.hid (c_names w hG.smap hG.rep2 hi.safe.1 (by omega))
  unfold NamesP at HN
  have hnl := namesOf_len s.safe
  have hlfb := hG.bk.lt
  have HG := Lib.hid hG
  obtain ⟨ln, hln⟩ : ∃ x, x = s.safe.length := ⟨_, rfl⟩
  have Hln := Lib.hid (show (namesOf s.safe).length = ln by rw [hnl, hln])
  have hsf : (safeFiles s).length = ln := by rw [safeFiles, List.length_map, hnl, hln]
  have Hsf := Lib.hid hsf
  rw [← hln] at HN hsl
  have Hnd := Lib.hid (fun (k : Nat) (hk : k < (namesOf s.safe).length) => namesOf_node hdk hk)
  have Hsz := Lib.hid (fun (i : Nat) => fits_head (hi.nd i).1)
  clear hG hdk hnl hln hsf hi
  unfold ptrV at *
  go_enter Tryz.func16, Tryz.ntmps16
  go_wp2_with (first | (go_at_call 32; refine H0.out.mono ?_; rintro e w1 ⟨rfl, rfl⟩) | (go_at_call 34; refine HN.out.mono ?_; rintro e w2 ⟨A, c, rfl, hc, hR, hb2⟩))
  have hR0 := hR.rd
  go_loopw [3, 15] (fun v i wr => ∃ (k : Nat) (FL : List FR), k ≤ ln ∧ i = .int .i64 (k : Int) ∧ FL.map FR.fl = ((namesOf s.safe).take k).map (fileOf s s.safe Nd.safe) ∧ FlI 40 w2 wr v FL) (fun _ i _ => ln - (intOf i).toNat)
  case atStart => exact ⟨0, [], Nat.zero_le _, rfl, rfl, FlI.start 40 w2⟩
  case round =>
    obtain ⟨k, FL, hk, rfl, hfl, hF⟩ := hrel
    have hbr := hF.bl
    by_cases hlt : k < ln
    · have hkl : k < (namesOf s.safe).length := by have := Hln.out; omega
      obtain ⟨b, o, rfl, hbB, hcell⟩ := hR0.2 (by omega)
      obtain ⟨i, hi1, hi2, hi3⟩ := Hnd.out k hkl
      have g0 : wr.cell? ⟨b, o + k, none⟩ = some (svl (namesOf s.safe)[k]) := (hbr.cell (p := ⟨b, o + k, none⟩) hbB).trans (hcell k _ (by simp [hkl]))
      have hFl : FL.length = k := by have := congrArg List.length hfl; simpa [List.length_take, Nat.min_eq_left (Nat.le_of_lt hkl)] using this
      obtain ⟨As, cs, rfl, hcs⟩ := hF.own.shape
      have hGr := HG.out.below (hb2.trans (hbr.mono hb2.size))
      have lk := look hGr.smap hGr.rep2 hi2 hi1
      obtain ⟨A1, c1, A3, c3, vs, hB, hR1, hc1, _⟩ := (hGr.files i (.inr (.inl ⟨_, hi3⟩))).ex
      have qf := hB.cell
      have c9r : wr.cell? ⟨fb, 9, none⟩ = some (.map (some G.sm)) := hGr.bk.cell 9
      have Htk := Lib.hid (List.take_succ_eq_append_getElem hkl)
      have hfo : fileOf s s.safe Nd.safe (namesOf s.safe)[k] = ((namesOf s.safe)[k], (ndAt s.nodes i).safe) := by unfold fileOf; rw [hi1]; rfl
      have Hfo := Lib.hid hfo
      have hsz := Hsz.out i
      obtain ⟨nm, hnm⟩ : ∃ x, x = (namesOf s.safe)[k] := ⟨_, rfl⟩
      rw [← hnm] at g0 lk Hfo Htk
      obtain ⟨dt, hdt⟩ : ∃ x, x = (ndAt s.nodes i).safe := ⟨_, rfl⟩
      rw [← hdt] at qf hR1 hc1 Hfo hsz
      have HC := Lib.hid (c_CloneB wr (c := c1) hR1.rd (Nat.le_refl _) (by omega))
      have Hfl := Lib.hid hfl
      have HFl := Lib.hid hFl
      have hfsz := hF.bl.size
      have hF1 := Lib.hid hF
      have HL := Lib.hid (bcs_length dt)
      obtain ⟨dl, hdl⟩ : ∃ x, x = dt.length := ⟨_, rfl⟩
      rw [← hdl] at qf HC
      have Hdl := Lib.hid hdl
      clear hfl hF hcell hi1 hi2 hi3 hGr hB hfo hnm hdt hR1 hsz hFl hdl
      unfold svl ptrV at *
      go_wp2_with (first
        | (go_at_call 35; refine HC.out.mono ?_; rintro e w3 ⟨A4, c4, rfl, hc4, hR4, hb3⟩; have hF3 := hF1.out.keep hb3)
        | (at_builtin; (refine wpList_appK_new rfl _ _ rfl slfl (by decide) rfl hF3.own hF3.bl hF3.bl.size rfl (news := [.string ⟨nm.toArray⟩, .slice A4 dl c4]) rfl (by intro u hu; simp only [List.mem_cons, List.not_mem_nil, or_false] at hu; rcases hu with rfl | rfl <;> rfl) (by have := HFl.out; omega) ?_); intro v5 w5 ho5 hb5 hg5 hat5 hs5))
      go_roundw
      case rel =>
        have hx : (⟨nm, dt, A4, c4⟩ : FR).ok (fun b => w2.heap.size ≤ b ∧ b < w3.heap.size ∧ (Value.slice As FL.length cs).ownBlock ≠ some b) w3 := by
          have e1 : RdP (fun b => wr.heap.size ≤ b) w3 A4 dt.length (bcs dt) := by rw [← Hdl.out]; exact hR4
          refine ⟨⟨e1.rd, fun hn p hp => ⟨Nat.le_trans hfsz (e1.lie hn p hp), e1.lt hn p hp, fun e => ?_⟩⟩, by show dt.length ≤ c4; rw [← Hdl.out]; exact hc4⟩
          have h1 := (World.ownsRow.lt hF1.out.own p.block e).2
          have h2 := e1.lie hn p hp
          omega
        refine ⟨k + 1, FL ++ [⟨nm, dt, A4, c4⟩], by omega, by go_num, ?_, hF3.snoc hx (by show OwnK w5 _ _ 2 v5 _ (_ ++ [svl nm, .slice A4 dt.length c4]); rw [← Hdl.out]; exact ho5) hg5 hat5 hb5⟩
        rw [List.map_append, Hfl.out, Htk.out, List.map_append, List.map_cons, List.map_nil, List.map_cons, List.map_nil, Hfo.out]; rfl
      case measure => simp [intOf]; omega
    · obtain rfl : k = ln := by omega
      obtain ⟨As, cs, rfl, hcs⟩ := hF.own.shape
      have hFl : FL.length = k := by have := congrArg List.length hfl; simpa [List.length_take, Hln.out] using this
      rw [hFl] at hF hcs ⊢
      rw [List.take_of_length_le (by rw [Hln.out]; exact Nat.le_refl _)] at hfl
      have hP := hF
      rw [← Hsf.out] at hP hcs
      have hPP := Lib.hid (FlI.post hb2 hP hfl hcs)
      rw [Hsf.out] at hPP
      clear hfl hF hP hFl hcs
      go_wp2
      go_ret
      exact hPP.out
end Go.Proofs.YtaanmnplfppdeaaGreat
/- Layer 1: all files are told: the walk of Files. -/
namespace Go.Fsy
open Go.RowKit Go.Maps Go.Lec
theorem grown_below {w w' : World} (h : Below w.heap.size w w') : w.grownBy w' none := ⟨h.os, h.tape, h.output, h.size, fun k hk _ => h.block k hk⟩
theorem bk_kept {w w' : World} {b : Nat} {t : TypeId} {cs : Array Value} {row : Option Nat} (h : Bk w b t cs) (hg : w.grownBy w' row) (hr : ∀ r, row = some r → ∃ o : Obj, w.heap[r]? = some o ∧ o.isCells = false) : Bk w' b t cs :=
  (grownBy_keeps_cells hg hr h rfl).trans h
theorem rd_kept {w w' : World} {B n : Nat} {A : Option Addr} {xs : List Value} {row : Option Nat} (h : Rd w B A n xs) (hg : w.grownBy w' row) (hr : ∀ r, row = some r → ∃ o : Obj, w.heap[r]? = some o ∧ o.isCells = false) : Rd w' B A n xs :=
  ⟨h.1, fun hn => by obtain ⟨b, o, e, hb, hc⟩ := h.2 hn; exact ⟨b, o, e, hb, fun i u hu => cell_kept (hc i u hu) hg hr⟩⟩
theorem rdP_kept {I : Nat → Prop} {w w' : World} {n : Nat} {A : Option Addr} {xs : List Value} {row : Option Nat} (h : RdP I w A n xs) (hg : w.grownBy w' row) (hr : ∀ r, row = some r → ∃ o : Obj, w.heap[r]? = some o ∧ o.isCells = false) : RdP I w' A n xs :=
  ⟨(rd_kept h.rd hg hr).more hg.size, h.lie⟩
theorem own_kept {w w' : World} {B k n : Nat} {e : TypeId} {v : Value} {xs : List Value} {row : Option Nat} (h : OwnK w B e k v n xs) (hg : w.grownBy w' row) (hr : ∀ r, row = some r → ∃ o : Obj, w.heap[r]? = some o ∧ o.isCells = false) : OwnK w' B e k v n xs := by
  refine OwnK.grown h hg fun g e1 e2 => ?_
  obtain ⟨o, ho, hc⟩ := hr g e1
  rcases h.2 with ⟨rfl, _⟩ | ⟨g', cap, cur, rfl, _, hh, _⟩
  · cases e2
  · cases e2
    rw [hh] at ho; cases ho; cases hc
theorem keepsF_below {w w' : World} (h : Below w.heap.size w w') (B : Nat) : KeepsFrom B w w' := ⟨h.size, fun k _o _ hk _ => (h.block k (Array.getElem?_eq_some_iff.1 hk).1).trans hk⟩
theorem keepsF_grown {w w' : World} {B n k : Nat} {e : TypeId} {v : Value} {xs : List Value} {B' : Nat} (h : OwnK w B e k v n xs) (hg : w.grownBy w' v.ownBlock) : KeepsFrom B' w w' := by
  refine ⟨hg.size, fun j o _ hj ho => (hg.block j (Array.getElem?_eq_some_iff.1 hj).1 (fun e1 => ?_)).trans hj⟩
  rcases h.2 with ⟨rfl, _⟩ | ⟨g, cap, cur, rfl, _, hh, _⟩
  · cases e1
  · cases e1
    rw [hh] at hj; cases hj; cases ho
/-- A row of files that is being built, from block B on. -/
structure FlB (tf : TypeId) (B : Nat) (wr : World) (v : Value) (FL : List FR) : Prop where
  own : OwnK wr B tf 2 v FL.length (FL.flatMap FR.cs)
  ok : ∀ x ∈ FL, x.ok (fun b => B ≤ b ∧ b < wr.heap.size ∧ v.ownBlock ≠ some b) wr
section
variable {w wr w1 w2 : World} {tf : TypeId} {v v' : Value} {FL : List FR} {x : FR} {B : Nat}
theorem FlB.start (tf : TypeId) (w : World) (B : Nat) : FlB tf B w (.slice none 0 0) [] := ⟨OwnK.nil_ _ _ _ _, fun x hx => by (cases hx)⟩
theorem FlB.kbP {X : Nat → Prop} (h : FlB tf B wr v FL) (hb : KbP X wr w1) (hX : ∀ b, X b → b < B) : FlB tf B w1 v FL :=
  ⟨OwnK.kbP h.own hb (fun g hg hx => by have := hX g hx; have := (World.ownsRow.lt h.own g hg).1; omega), fun x hx => ⟨((h.ok x hx).1.kbP hb (fun b hb1 hb2 => by have := hX b hb2; omega)).more (fun b hb' => ⟨hb'.1, Nat.lt_of_lt_of_le hb'.2.1 hb.size, hb'.2.2⟩), (h.ok x hx).2⟩⟩
theorem FlB.kept {row : Option Nat} (h : FlB tf B wr v FL) (hg : wr.grownBy w1 row) (hr : ∀ r, row = some r → ∃ o : Obj, wr.heap[r]? = some o ∧ o.isCells = false) : FlB tf B w1 v FL :=
  ⟨own_kept h.own hg hr, fun x hx => ⟨(rdP_kept (h.ok x hx).1 hg hr).more (fun _b hb' => ⟨hb'.1, Nat.lt_of_lt_of_le hb'.2.1 hg.size, hb'.2.2⟩), (h.ok x hx).2⟩⟩
theorem FlB.snoc (h : FlB tf B w1 v FL) (hx : x.ok (fun b => B ≤ b ∧ b < w1.heap.size ∧ v.ownBlock ≠ some b) w1) (ho : OwnK w2 B tf 2 v' (FL.length + 1) (FL.flatMap FR.cs ++ x.cs)) (hg : w1.grownBy w2 v.ownBlock) (hat : v'.ownBlock = v.ownBlock ∨ ∃ g, v'.ownBlock = some g ∧ w1.heap.size ≤ g) :
    FlB tf B w2 v' (FL ++ [x]) := by
  have hk : KbP (fun b => v.ownBlock = some b) w1 w2 := KbP.of_grown hg (fun g e => e)
  have hne : ∀ b, b < w1.heap.size → v.ownBlock ≠ some b → v'.ownBlock ≠ some b := fun b hb1 hn e => by
    rcases hat with e' | ⟨g, e', hg'⟩
    · exact hn (e' ▸ e)
    · rw [e'] at e; cases e; omega
  have hall : ∀ y : FR, y.ok (fun b => B ≤ b ∧ b < w1.heap.size ∧ v.ownBlock ≠ some b) w1 → y.ok (fun b => B ≤ b ∧ b < w2.heap.size ∧ v'.ownBlock ≠ some b) w2 := fun y hy =>
    ⟨(hy.1.kbP hk (fun b hb1 hb2 => hb1.2.2 hb2)).more (fun b hb1 => ⟨hb1.1, Nat.lt_of_lt_of_le hb1.2.1 hk.size, hne b hb1.2.1 hb1.2.2⟩), hy.2⟩
  refine ⟨?_, fun y hy => ?_⟩
  · rw [List.length_append, List.flatMap_append]; simpa using ho
  · rcases List.mem_append.1 hy with hy | hy
    · exact hall y (h.ok y hy)
    · rw [List.mem_singleton] at hy; subst hy; exact hall y hx
theorem FlB.post {w0 : World} {A : Option Addr} {c : Nat} {L : List Fl} (hb : Below w0.heap.size w0 wr) (hB : w0.heap.size ≤ B) (h : FlB tf B wr (.slice A L.length c) FL) (hL : FL.map FR.fl = L) (hc : L.length ≤ c) : FilesP w0 L (.returned (.slice A L.length c)) wr := by
  have hl : FL.length = L.length := by rw [← hL, List.length_map]
  have ho := h.own
  rw [hl] at ho
  exact ⟨A, c, FL, rfl, hc, hL, (RdKP.new_ ho).more (fun b hb' => Nat.le_trans hB hb'.1), fun x hx => ⟨((h.ok x hx).1).more (fun b hb' => Nat.le_trans hB hb'.1), (h.ok x hx).2⟩, hb⟩
end
end Go.Fsy
namespace Go.Proofs.YtaanmnplfppdeaaGreat
open Go.RowKit Go.Lec Go.Fsy Go.Op Go.Maps Go.Shelf
attribute [local go_sem] Oper.semAt_some
theorem c_ValuesS (w : World) (A : Option Addr) (n c : Nat) : Calls Tryz.prog 33 #[.slice A n c] w fun e w' => e = .returned (.func (.func 67) #[] #[.pointer (some ⟨w.heap.size, 0, none⟩)]) ∧ w' = w.alloc (.cells #[.slice A n c] 77) := by
  have hmf : ∀ (fn : Fn) (first cap : Array Value) (w : World), (Instr.makeFunc fn first cap).run Tryz.prog w = .ok (.func fn first cap) w := fun _ _ _ _ => rfl
  go_enter Tryz.func33, Tryz.ntmps33
  go_wp2
  go_ret
  exact ⟨rfl, rfl⟩
/-- What a round leaves of the iterator's: all but one block, and the blocks from a place on. -/
def KpF (lb base : Nat) : World → World → Prop := KbP (fun b => b = lb ∨ base ≤ b)
theorem kpF_t {lb base : Nat} {A B C : World} (h : KpF lb base A B) (k : KpF lb base B C) : KpF lb base A C := KbP.trans h k (fun _ h => .inl h)
theorem kpF_b {lb base : Nat} {w : World} (hn : base ≤ w.heap.size) (W : World) (l : Nat) (o o' : Obj) (hl : w.heap.size ≤ l) (h : W.heap[l]? = some o) (h1 : o.isCells = false) (h2 : o.isWalk = false) : KpF lb base W (W.putObj l o') := by
  have hb : Below base W (W.putObj l o') := belowK_b hn W l o o' hl h h1 h2
  exact ⟨hb.os, hb.tape, hb.output, hb.size, fun k _ hk => hb.block k (by omega)⟩
set_option maxRecDepth 100000 in
set_option maxHeartbeats 2000000 in
theorem valuesS1_in (n : Nat) (hn : 1 ≤ n) (l Bs lb base : Nat) {N c : Nat} {A : Option Addr} {α : Type} (f : α → Fsy.Bs) {L : List α} (J Jx : List α → World → Prop) (W : World) (hN : N ≤ 1099511627776)
    (hY : ∀ pre x W, J pre W → pre.length < L.length → YieldAt Fence.wide (n - 1) Tryz.prog l #[svl (f x)] W fun e W' =>
      (e = .returned (.bool true) ∧ J (pre ++ [x]) W' ∧ KpF lb base W W') ∨ (e = .returned (.bool false) ∧ Jx (pre ++ [x]) W'))
    (hBs : Bk W Bs 77 #[.slice A N c]) (hr : RdP (fun b => b ≠ lb ∧ b < base) W A N (L.map fun x => svl (f x))) (h0 : J [] W) :
    CallsIn Fence.wide n Tryz.prog 67 #[.func (.yield l) #[] #[], .pointer (some ⟨Bs, 0, none⟩)] W fun e W' => (∃ v, e = .returned v) ∧
      ((∃ ys, ys = L ∧ J ys W') ∨ (∃ pre, (∃ k, k ≤ L.length ∧ pre = L.take k) ∧ Jx pre W')) := by
  have hln := hr.rd.1
  rw [List.length_map] at hln
  have Hln := Lib.hid hln; clear hln
  have qs := hBs.cell
  refine callsIn_of_wp Tryz.func67 rfl trivial ?_ rfl
  simp only [Tryz.ntmps67, List.size_toArray, List.length_cons, List.length_nil, Nat.reduceAdd, Nat.reduceSub, Array.replicate_succ, Array.replicate_zero, List.push_toArray, List.append_toArray, List.nil_append, List.cons_append]
  gi_wp2
  gi_loopw [7] (fun i wr => ∃ k : Nat, k ≤ N ∧ i = .int .i64 k ∧ J (L.take k) wr ∧ KpF lb base W wr) (fun i _ => N - (intOf i).toNat)
  case atStart => exact ⟨0, Nat.zero_le _, rfl, h0, KbP.refl _ _⟩
  case round =>
    obtain ⟨k, hk, rfl, hJs, hnx⟩ := hrel
    clear qs
    by_cases hlt : k < N
    · have hkl : k < L.length := by rw [Hln.out]; exact hlt
      obtain ⟨b, o, rfl, hbB, hcell⟩ := (hr.kbP hnx (fun b hb e => by omega)).rd.2 (by omega)
      have hc := hcell k (svl (f L[k])) (by simp [hkl])
      have Htk := Lib.hid (List.take_succ_eq_append_getElem hkl)
      obtain ⟨fn, tmps, assign, body, hy, hR⟩ := hY _ L[k] wr hJs (by rw [List.length_take]; omega)
      clear hcell hY hr
      unfold svl at *
      gi_wp2
      refine hR.mono ?_
      rintro e W3 (⟨rfl, hJ3, hk3⟩ | ⟨rfl, hJx3⟩)
      · gi_wp2
        go_roundw
        case rel => exact ⟨k + 1, by omega, by go_num, by rw [Htk.out]; exact hJ3, kpF_t hnx hk3⟩
        case measure => simp [intOf]; omega
      · gi_wp2
        refine bodyPost_ret (results_none rfl _ _ _) rfl ?_
        exact ⟨⟨_, rfl⟩, .inr ⟨_, ⟨k + 1, hkl, rfl⟩, by rw [Htk.out]; exact hJx3⟩⟩
    · obtain rfl : k = N := by omega
      clear hY
      gi_wp2
      go_end0
      have he : L.take k = L := List.take_of_length_le (by rw [Hln.out]; exact Nat.le_refl _)
      exact ⟨⟨_, rfl⟩, .inl ⟨_, rfl, he ▸ hJs⟩⟩
theorem valuesS_stops (n : Nat) (hn : 1 ≤ n) (Bs lb base : Nat) {N c : Nat} {A : Option Addr} {α : Type} (f : α → Fsy.Bs) {L : List α} (w : World) (hBs : Bk w Bs 77 #[.slice A N c]) (hr : RdP (fun b => b ≠ lb ∧ b < base) w A N (L.map fun x => svl (f x))) (hN : N ≤ 1099511627776) :
    SeqStopsK Fence.wide n Tryz.prog 67 #[.pointer (some ⟨Bs, 0, none⟩)] (fun x : α => #[svl (f x)]) (KpF lb base) (fun ys => ys = L) (fun pre => ∃ k, k ≤ L.length ∧ pre = L.take k) L.length w := fun l J Jx W hW _hJ _ hY h0 =>
  valuesS1_in n hn l Bs lb base f J Jx W hN hY (hBs.below hW hBs.lt) (RdP.below hr hW) h0
set_option maxRecDepth 100000 in
set_option maxHeartbeats 4000000 in
theorem c_Files (w : World) {X I : Nat → Prop} {fb N : Nat} {s : St} (h : FsP X I w fb s) (hi : Fsy.Inv s N) (hN : N ≤ 1048576) :
    Calls Tryz.prog 13 #[ptrV fb] w (FilesP w (files s)) := by
  obtain ⟨G, hG⟩ := h
  have hfe : files s = if s.died then [] else (namesOf s.dir).map (fileOf s s.dir Nd.data) := rfl
  have hb0 := (Below.refl w.heap.size w).alloc (Nat.le_refl _) (.cells #[ptrV fb] 31)
  have hG0 := hG.below hb0
  have H0 := Lib.hid (c_is _ fb (hG0.bk.cell 0))
  obtain ⟨d, hd⟩ : ∃ x, x = s.died := ⟨_, rfl⟩
  have c7 : (w.alloc (.cells #[ptrV fb] 31)).cell? ⟨fb, 7, none⟩ = some (.bool d) := by rw [hd]; exact hG0.bk.cell 7
  rw [← hd] at hfe
  cases d with
  | true =>
    rw [if_pos rfl] at hfe
    rw [hfe]
    clear hfe hd hG hG0 hi
    have HB := Lib.hid hb0
    clear hb0
    unfold ptrV at *
    go_enter Tryz.func13, Tryz.ntmps13
    go_wp2_with (first | (go_at_call 32; refine H0.out.mono ?_; rintro e w1 ⟨rfl, rfl⟩))
    go_ret
    exact ⟨none, 0, [], rfl, Nat.le_refl _, rfl, RdKP.nil_, (fun x hx => by (cases hx)), HB.out⟩
  | false =>
    rw [if_neg Bool.false_ne_true] at hfe
    have hb1 := hb0.alloc (by simp) (.cells #[.slice none 0 0] 35)
    have hG1 := hG.below hb1
    have c8 : ((w.alloc (.cells #[ptrV fb] 31)).alloc (.cells #[.slice none 0 0] 35)).cell? ⟨fb, 8, none⟩ = some (.map (some G.dm)) := hG1.bk.cell 8
    have HN := Lib.hid (c_names _ hG1.dmap hG1.rep1 hi.dir.1 (by have := hi.nDir; omega))
    unfold NamesP at HN
    have H1 := (Bk.new_ w 31 #[ptrV fb]).alloc (.cells #[.slice none 0 0] 35)
    have H2 := Bk.new_ (w.alloc (.cells #[ptrV fb] 31)) 35 #[.slice none 0 0]
    rw [World.size_alloc] at H2
    have HG := Lib.hid hG
    have Hfe := Lib.hid hfe
    have Hb1 := Lib.hid hb1
    have hnl := namesOf_len s.dir
    have hdl := hi.nDir
    have hdk := hi.dir
    have Hnd := Lib.hid (fun (k : Nat) (hk : k < (namesOf s.dir).length) => namesOf_node hdk hk)
    have Hsz := Lib.hid (fun (i : Nat) => hi.size i)
    obtain ⟨ln, hln⟩ : ∃ x, x = s.dir.length := ⟨_, rfl⟩
    have Hln := Lib.hid (show (namesOf s.dir).length = ln by rw [hnl, hln])
    rw [← hln] at HN hdl
    obtain ⟨fl, hfl⟩ : ∃ x, x = files s := ⟨_, rfl⟩
    rw [← hfl]
    have Hfl := Lib.hid (show fl = (namesOf s.dir).map (fileOf s s.dir Nd.data) by rw [hfl, hfe])
    clear hd hG hG0 hG1 hfe hb0 hb1 hi hdk hnl hln hfl Hfe
    unfold ptrV at *
    refine (callsIn_wide (n := 5)).1 ?_
    (refine callsIn_of_wp_marks Tryz.func13 rfl trivial ?_ rfl; simp only [Tryz.ntmps13, List.size_toArray, List.length_cons, List.length_nil, Nat.reduceAdd, Nat.reduceSub, Array.replicate_succ, Array.replicate_zero, List.push_toArray, List.append_toArray, List.nil_append, List.cons_append])
    gi_wp2_with (first | (refine ⟨trivial, ?_⟩; gi_at_call 32; refine (callsIn_wide.2 H0.out).mono ?_; rintro e w1 ⟨rfl, rfl⟩) | (refine ⟨trivial, ?_⟩; gi_at_call 34; refine (callsIn_wide.2 HN.out).mono ?_; rintro e w2 ⟨A, c, rfl, hc, hR, hb2⟩) | (refine ⟨trivial, ?_⟩; gi_at_call 33; refine (callsIn_wide.2 (c_ValuesS _ _ _ _)).mono ?_; rintro e w3 ⟨rfl, rfl⟩))
    have hz2 : w.heap.size + 2 ≤ w2.heap.size := by have := hb2.size; simp at this; omega
    have hbL := hb2.alloc (by have := hb2.size; exact this) (.cells #[.slice A ln c] 77)
    have bV := Bk.new_ w2 77 #[.slice A ln c]
    have K1 := H1.below hbL (by simp; omega)
    have K2 := H2.below hbL (by simp)
    have hbw := Hb1.out.trans (hbL.mono (by simp; omega))
    have hzL : (w2.alloc (.cells #[.slice A ln c] 77)).heap.size = w2.heap.size + 1 := by simp
    have hRL : RdP (fun b => b ≠ w.heap.size + 1 ∧ b < w2.heap.size + 1) (w2.alloc (.cells #[.slice A ln c] 77)) A ln ((namesOf s.dir).attach.map fun x => svl x.1) := by
      have e : ((namesOf s.dir).attach.map fun x => svl x.1) = (namesOf s.dir).map svl := by
        rw [show (namesOf s.dir).map svl = ((namesOf s.dir).attach.map Subtype.val).map svl from by rw [List.attach_map_subtype_val], List.map_map]; rfl
      rw [e]
      have h1 : RdP (fun b => b ≠ w.heap.size + 1 ∧ b < w2.heap.size + 1) w2 A ln ((namesOf s.dir).map svl) := ⟨hR.rd, fun hn p hp => ⟨by have := hR.lie hn p hp; simp at this; omega, by have := hR.lt hn p hp; omega⟩⟩
      exact RdP.below h1 ((Below.refl _ _).alloc (Nat.le_refl _) _)
    obtain ⟨wL, hwL⟩ : ∃ W, W = w2.alloc (.cells #[.slice A ln c] 77) := ⟨_, rfl⟩
    rw [← hwL] at bV K1 K2 hbw hzL hRL ⊢
    clear hwL hbL hb2 hR H1 H2 c7 c8 HN H0
    refine wpIn_rangeFunc_ownG (n := 5) rfl (by omega) (gf := 67) (lb := #[.pointer (some ⟨w2.heap.size, 0, none⟩)]) rfl trivial (enters_of Tryz.func67 (by kernel_rfl) rfl)
      (valuesS_stops 4 (by omega) w2.heap.size (w.heap.size + 1) (w2.heap.size + 1) (fun x : { x // x ∈ namesOf s.dir } => x.1) wL bV hRL (by omega)) kpF_t (kpF_b (by omega)) (Below.refl _ _) (fun _ => rfl)
      (fun pre W => (∃ v FL, Bk W (w.heap.size + 1) 35 #[v] ∧ FlB 40 (w2.heap.size + 1) W v FL ∧ FL.map FR.fl = (pre.map Subtype.val).map (fileOf s s.dir Nd.data)) ∧ Bk W w.heap.size 31 #[.pointer (some ⟨fb, 0, none⟩)] ∧ Below w.heap.size w W ∧ w2.heap.size + 1 ≤ W.heap.size)
      (fun c pre W => False)
      (fun q X Y row h hg hr => by
        obtain ⟨⟨v, FL, h1, h2, h3⟩, h4, h5, h6⟩ := h
        exact ⟨⟨v, FL, bk_kept h1 hg (fun r e => (hr r e).2), h2.kept hg (fun r e => (hr r e).2), h3⟩, bk_kept h4 hg (fun r e => (hr r e).2), h5.grown hg h5.size (fun k e => by have := (hr k e).1; omega), Nat.le_trans h6 hg.size⟩)
      (fun c q X Y row h hg hr => h)
      ⟨⟨.slice none 0 0, [], K2, FlB.start _ _ _, rfl⟩, K1, hbw, by omega⟩
      (fun x => { tmps := #[.pointer (some ⟨fb, 0, none⟩), .pointer (some ⟨w.heap.size, 0, none⟩), .slice none 0 0, .pointer (some ⟨w.heap.size + 1, 0, none⟩), svl x.1,
          .pointer (some ⟨fb, 0, none⟩), .bool true, .bool false, .bool false, .pointer (some ⟨fb, 0, none⟩), .pointer (some ⟨fb, 0, none⟩), .pointer (some ⟨fb, 7, none⟩), .bool false, .bool false,
          .pointer (some ⟨fb, 0, none⟩), .pointer (some ⟨fb, 0, none⟩), .pointer (some ⟨fb, 8, none⟩), .map (some G.dm), .slice A ln c, .func (.func 67) #[] #[.pointer (some ⟨w2.heap.size, 0, none⟩)], svl x.1, undef, undef,
          undef, undef, undef, undef, undef, undef, undef, undef, undef, undef, undef, undef, undef, undef], defers := [] }) ?assign ?body ?done ?stop
    case assign =>
      intro l x W K hK
      unfold svl at *
      gi_wp2
      exact hK
    case body =>
      rintro l pre ⟨nm, hnm⟩ W ⟨⟨v, FL, hbl, hF, hfl⟩, hbf, hBW, hsW⟩ hlen
      obtain ⟨i, hi1, hi2, hi3⟩ : ∃ i, node s.dir nm = some i ∧ nm.length ≤ 4294967296 ∧ (nm, i) ∈ s.dir := by
        obtain ⟨k, hk, rfl⟩ := List.getElem_of_mem hnm
        exact Hnd.out k hk
      have hsz := Hsz.out i
      have hfo : fileOf s s.dir Nd.data nm = (nm, (ndAt s.nodes i).data) := by unfold fileOf; rw [hi1]; rfl
      have Hfo := Lib.hid hfo
      obtain ⟨A1, c1, A3, c3, vs, hB, _, _, hR3, hc3, _⟩ := (HG.out.files i (.inl ⟨_, hi3⟩)).ex
      have HSS := Lib.hid (fun (W' : World) (hb : Below w.heap.size w W') => show W'.cell? ⟨fb, 8, none⟩ = some (.map (some G.dm)) ∧ (Instr.lookup 70 (.map (some G.dm)) (svl nm) false).run Tryz.prog W' = .ok (ptrV (G.fid i)) W' ∧ W'.cell? ⟨G.fid i, 2, none⟩ = some (.slice A3 (ndAt s.nodes i).data.length c3) from ⟨(HG.out.below hb).bk.cell 8, look (HG.out.below hb).dmap (HG.out.below hb).rep1 hi2 hi1, (hB.below hb hB.lt).cell 2⟩)
      obtain ⟨dt, hdt⟩ : ∃ x, x = (ndAt s.nodes i).data := ⟨_, rfl⟩
      obtain ⟨dl, hdl'⟩ : ∃ x, x = dt.length := ⟨_, rfl⟩
      have hsz' : dl ≤ 268435456 := by rw [hdl', hdt]; exact hsz
      rw [← hdt] at HSS hR3 Hfo
      rw [← hdl'] at HSS hR3
      have HC := Lib.hid (fun (W' : World) (hb : Below w.heap.size w W') => c_CloneB W' (c := c3) (RdP.below hR3 hb).rd (Nat.le_refl _) (show dl ≤ 1099511627776 by omega))
      obtain ⟨As, cs, rfl, hcs⟩ := hF.own.shape
      have Hdl := Lib.hid hdl'
      have Hfl := Lib.hid hfl
      have HF := Lib.hid hF
      have hS0 := HSS.out W.drew (hBW.drew)
      have hFLl : FL.length = pre.length := by have := congrArg List.length hfl; simpa using this
      have hFL2 : FL.length ≤ 1099511627776 := by rw [hFLl]; have := hlen; simp at this; have := Hln.out; omega
      have hFL3 : FL.length + 1 ≤ 137438953472 := by rw [hFLl]; have := hlen; simp at this; have := Hln.out; omega
      have HBL := Lib.hid hbl
      have HBF := Lib.hid hbf
      have hHeld : (fun W' : World => W'.cell? ⟨w.heap.size + 1, 0, none⟩ = some (.slice As FL.length cs) ∧ W'.cell? ⟨w.heap.size, 0, none⟩ = some (.pointer (some ⟨fb, 0, none⟩)) ∧ W'.cell? ⟨fb, 8, none⟩ = some (.map (some G.dm)) ∧ (Instr.lookup 70 (.map (some G.dm)) (svl nm) false).run Tryz.prog W' = .ok (ptrV (G.fid i)) W' ∧ W'.cell? ⟨G.fid i, 2, none⟩ = some (.slice A3 dl c3)) W.drew := ⟨hbl.cell 0, hbf.cell 0, hS0.1, hS0.2.1, hS0.2.2⟩
      have HBW := Lib.hid hBW
      clear hfl hi1 hi2 hi3 hfo hB hR3 hS0 hdt hdl' hF hbl hbf hsz hBW hlen hFLl
      unfold svl ptrV at *
      gi_wp2
      refine wpIn_region_roundA (by kernel_rfl) (by kernel_rfl) (wpAny_of_T (S := fun W' : World => W'.cell? ⟨w.heap.size + 1, 0, none⟩ = some (.slice As FL.length cs) ∧ W'.cell? ⟨w.heap.size, 0, none⟩ = some (.pointer (some ⟨fb, 0, none⟩)) ∧ W'.cell? ⟨fb, 8, none⟩ = some (.map (some G.dm)) ∧ (Instr.lookup 70 (.map (some G.dm)) (.string ⟨nm.toArray⟩) false).run Tryz.prog W' = .ok (.pointer (some ⟨G.fid i, 0, none⟩)) W' ∧ W'.cell? ⟨G.fid i, 2, none⟩ = some (.slice A3 dl c3)) (m := 15) _ _ _ _ ?_)
      simp only [List.size_toArray, List.length_cons, List.length_nil, Nat.reduceAdd]
      refine tTake (i := 0) (v := ?_) rfl (by kernel_rfl) (by kernel_rfl) (by kernel_rfl) (by kernel_rfl) (fun _ _ _ h => h) hHeld (by rfl) ?_ ?_
      rotate_left
      · (intro w hSw; (try dsimp only at hSw); go_simp; try with_reducible rfl)
      try simp only [Act.put, List.setIfInBounds_toArray, List.set_cons_zero, List.set_cons_succ]
      refine tTake (i := 1) (v := ?_) rfl (by kernel_rfl) (by kernel_rfl) (by kernel_rfl) (by kernel_rfl) (fun _ _ _ h => h) hHeld (by rfl) ?_ ?_
      rotate_left
      · (intro w hSw; (try dsimp only at hSw); go_simp; try with_reducible rfl)
      try simp only [Act.put, List.setIfInBounds_toArray, List.set_cons_zero, List.set_cons_succ]
      refine tTake (i := 2) (v := ?_) rfl (by kernel_rfl) (by kernel_rfl) (by kernel_rfl) (by kernel_rfl) (fun _ _ _ h => h) hHeld (by rfl) ?_ ?_
      rotate_left
      · (intro w hSw; (try dsimp only at hSw); go_simp; try with_reducible rfl)
      try simp only [Act.put, List.setIfInBounds_toArray, List.set_cons_zero, List.set_cons_succ]
      refine tTake (i := 3) (v := ?_) rfl (by kernel_rfl) (by kernel_rfl) (by kernel_rfl) (by kernel_rfl) (fun _ _ _ h => h) hHeld (by rfl) ?_ ?_
      rotate_left
      · (intro w hSw; (try dsimp only at hSw); go_simp; try with_reducible rfl)
      try simp only [Act.put, List.setIfInBounds_toArray, List.set_cons_zero, List.set_cons_succ]
      refine tTake (i := 4) (v := ?_) rfl (by kernel_rfl) (by kernel_rfl) (by kernel_rfl) (by kernel_rfl) (fun _ _ _ h => h) hHeld (by rfl) ?_ ?_
      rotate_left
      · (intro w hSw; (try dsimp only at hSw); go_simp; try with_reducible rfl)
      try simp only [Act.put, List.setIfInBounds_toArray, List.set_cons_zero, List.set_cons_succ]
      refine tTake (i := 5) (v := ?_) rfl (by kernel_rfl) (by kernel_rfl) (by kernel_rfl) (by kernel_rfl) (fun _ _ _ h => h) hHeld (by rfl) ?_ ?_
      rotate_left
      · (intro w hSw; (try dsimp only at hSw); go_simp; try with_reducible rfl)
      try simp only [Act.put, List.setIfInBounds_toArray, List.set_cons_zero, List.set_cons_succ]
      refine tTake (i := 6) (v := ?_) rfl (by kernel_rfl) (by kernel_rfl) (by kernel_rfl) (by kernel_rfl) (fun _ _ _ h => h) hHeld (by rfl) ?_ ?_
      rotate_left
      · (intro w hSw; (try dsimp only at hSw); go_simp; try with_reducible rfl)
      try simp only [Act.put, List.setIfInBounds_toArray, List.set_cons_zero, List.set_cons_succ]
      refine tTake (i := 7) (v := ?_) rfl (by kernel_rfl) (by kernel_rfl) (by kernel_rfl) (by kernel_rfl) (fun _ _ _ h => h) hHeld (by rfl) ?_ ?_
      rotate_left
      · (intro w hSw; (try dsimp only at hSw); go_simp; try with_reducible rfl)
      try simp only [Act.put, List.setIfInBounds_toArray, List.set_cons_zero, List.set_cons_succ]
      refine tTake (i := 8) (v := ?_) rfl (by kernel_rfl) (by kernel_rfl) (by kernel_rfl) (by kernel_rfl) (fun _ _ _ h => h) hHeld (by rfl) ?_ ?_
      rotate_left
      · (intro w hSw; (try dsimp only at hSw); go_simp; try with_reducible rfl)
      try simp only [Act.put, List.setIfInBounds_toArray, List.set_cons_zero, List.set_cons_succ]
      refine tTake (i := 9) (v := ?_) rfl (by kernel_rfl) (by kernel_rfl) (by kernel_rfl) (by kernel_rfl) (fun _ _ _ h => h) hHeld (by rfl) ?_ ?_
      rotate_left
      · (intro w hSw; (try dsimp only at hSw); go_simp; try with_reducible rfl)
      try simp only [Act.put, List.setIfInBounds_toArray, List.set_cons_zero, List.set_cons_succ]
      refine tTake (i := 10) (v := ?_) rfl (by kernel_rfl) (by kernel_rfl) (by kernel_rfl) (by kernel_rfl) (fun _ _ _ h => h) hHeld (by rfl) ?_ ?_
      rotate_left
      · (intro w hSw; (try dsimp only at hSw); go_simp; try with_reducible rfl)
      try simp only [Act.put, List.setIfInBounds_toArray, List.set_cons_zero, List.set_cons_succ]
      refine tStep (i := 11) rfl (by kernel_rfl) (fun K hK => ?_)
      go_simp
      go_at_call 35
      refine (HC.out _ HBW.out.drew).mono ?_
      rintro e w3 ⟨A4, c4, rfl, hc4, hR4, hb3⟩
      have hwW := HBW.out.size
      have hb3w : Below w.heap.size w w3 := HBW.out.drew.trans (hb3.mono hwW)
      have hS3 := HSS.out w3 hb3w
      have B1 : Bk w3 (w.heap.size + 1) 35 #[.slice As FL.length cs] := HBL.out.drew.below hb3 HBL.out.lt
      have B2 : Bk w3 w.heap.size 31 #[.pointer (some ⟨fb, 0, none⟩)] := HBF.out.drew.below hb3 HBF.out.lt
      have F3 : FlB 40 (w2.heap.size + 1) w3 (.slice As FL.length cs) FL := HF.out.kbP (X := fun _ => False) ((KbP.refl _ W).drew.after hb3) (fun _ h => h.elim)
      have hHeldN : (fun W' : World => W'.cell? ⟨w.heap.size + 1, 0, none⟩ = some (.slice As FL.length cs) ∧ W'.cell? ⟨w.heap.size, 0, none⟩ = some (.pointer (some ⟨fb, 0, none⟩)) ∧ W'.cell? ⟨fb, 8, none⟩ = some (.map (some G.dm)) ∧ (Instr.lookup 70 (.map (some G.dm)) (.string ⟨nm.toArray⟩) false).run Tryz.prog W' = .ok (.pointer (some ⟨G.fid i, 0, none⟩)) W' ∧ W'.cell? ⟨G.fid i, 2, none⟩ = some (.slice A3 dl c3)) _ := ⟨B1.cell 0, B2.cell 0, hS3.1, hS3.2.1, hS3.2.2⟩
      refine hK.out _ _ (fun _ => hHeldN) ?_
      clear hK K hHeld
      have hHeld := hHeldN
      clear hHeldN
      try simp only [Act.put, List.setIfInBounds_toArray, List.set_cons_zero, List.set_cons_succ]
      refine tTake (i := 12) (v := ?_) rfl (by kernel_rfl) (by kernel_rfl) (by kernel_rfl) (by kernel_rfl) (fun _ _ _ h => h) hHeld (by rfl) ?_ ?_
      rotate_left
      · (intro w hSw; (try dsimp only at hSw); go_simp; try with_reducible rfl)
      try simp only [Act.put, List.setIfInBounds_toArray, List.set_cons_zero, List.set_cons_succ]
      refine tStep (i := 13) rfl (by kernel_rfl) (fun K hK => ?_)
      go_simp
      have hb4w : Below w.heap.size w (w3.alloc (.cells #[.string ⟨nm.toArray⟩, .slice A4 dl c4] 40)) := hb3w.alloc hb3w.size _
      have hS4 := HSS.out _ hb4w
      have hHeldN : (fun W' : World => W'.cell? ⟨w.heap.size + 1, 0, none⟩ = some (.slice As FL.length cs) ∧ W'.cell? ⟨w.heap.size, 0, none⟩ = some (.pointer (some ⟨fb, 0, none⟩)) ∧ W'.cell? ⟨fb, 8, none⟩ = some (.map (some G.dm)) ∧ (Instr.lookup 70 (.map (some G.dm)) (.string ⟨nm.toArray⟩) false).run Tryz.prog W' = .ok (.pointer (some ⟨G.fid i, 0, none⟩)) W' ∧ W'.cell? ⟨G.fid i, 2, none⟩ = some (.slice A3 dl c3)) _ := ⟨(B1.alloc _).cell 0, (B2.alloc _).cell 0, hS4.1, hS4.2.1, hS4.2.2⟩
      refine hK.out _ _ (fun _ => hHeldN) ?_
      clear hK K hHeld
      have hHeld := hHeldN
      clear hHeldN
      try simp only [Act.put, List.setIfInBounds_toArray, List.set_cons_zero, List.set_cons_succ]
      refine tStep (i := 14) rfl (by kernel_rfl) (fun K hK => ?_)
      refine at_app (.tmp 21) (.tmp 34) ?_
      have F4 : FlB 40 (w2.heap.size + 1) (w3.alloc (.cells #[.string ⟨nm.toArray⟩, .slice A4 dl c4] 40)) (.slice As FL.length cs) FL := F3.kbP (X := fun _ => False) ((KbP.refl _ w3).alloc _) (fun _ h => h.elim)
      have hs3 : w2.heap.size + 1 ≤ w3.heap.size := by have h1 : W.heap.size ≤ w3.heap.size := hb3.size; omega
      refine step_appK rfl (.tmp 21) (.tmp 34) rfl slfl (by decide) rfl F4.own (by simp; omega) rfl (news := [.string ⟨nm.toArray⟩, .slice A4 dl c4]) rfl (fun j u hu => by rw [Nat.zero_add]; exact ((Bk.new_ w3 _ _).cell j).trans (by simpa using hu)) (by intro u hu; simp only [List.mem_cons, List.not_mem_nil, or_false] at hu; rcases hu with rfl | rfl <;> rfl) (by omega) ?_
      intro v8 w8 ho8 hb8 hg8 hat8
      obtain ⟨A8, c8, rfl, hc8⟩ := ho8.shape
      have hb8w : Below w.heap.size w w8 := hb4w.trans (hb8.mono (by omega))
      have hS8 := HSS.out _ hb8w
      have B18 := (B1.alloc (.cells #[.string ⟨nm.toArray⟩, .slice A4 dl c4] 40)).below hb8 (by omega)
      have B28 := (B2.alloc (.cells #[.string ⟨nm.toArray⟩, .slice A4 dl c4] 40)).below hb8 (by omega)
      have hHeldN : (fun W' : World => W'.cell? ⟨w.heap.size + 1, 0, none⟩ = some (.slice As FL.length cs) ∧ W'.cell? ⟨w.heap.size, 0, none⟩ = some (.pointer (some ⟨fb, 0, none⟩)) ∧ W'.cell? ⟨fb, 8, none⟩ = some (.map (some G.dm)) ∧ (Instr.lookup 70 (.map (some G.dm)) (.string ⟨nm.toArray⟩) false).run Tryz.prog W' = .ok (.pointer (some ⟨G.fid i, 0, none⟩)) W' ∧ W'.cell? ⟨G.fid i, 2, none⟩ = some (.slice A3 dl c3)) _ := ⟨B18.cell 0, B28.cell 0, hS8.1, hS8.2.1, hS8.2.2⟩
      refine hK.out _ _ (fun _ => hHeldN) ?_
      clear hK K hHeld
      have hHeld := hHeldN
      clear hHeldN
      try simp only [Act.put, List.setIfInBounds_toArray, List.set_cons_zero, List.set_cons_succ]
      have q8 := B18.cell
      have z8 := B18.frz
      refine tStep (i := 15) rfl (by kernel_rfl) (fun K hK => ?_)
      go_simp
      refine hK.out _ _ (fun h => absurd h (by decide)) ?_
      clear hK K
      try simp only [Act.put, List.setIfInBounds_toArray, List.set_cons_zero, List.set_cons_succ]
      refine tDone (by kernel_rfl) ?_ _
      have hfin : KeepsFrom wL.heap.size W (w8.setCell ⟨w.heap.size + 1, 0, none⟩ (.slice A8 (FL.length + 1) c8)) ∧ KpF (w.heap.size + 1) (w2.heap.size + 1) W (w8.setCell ⟨w.heap.size + 1, 0, none⟩ (.slice A8 (FL.length + 1) c8)) ∧ ((∃ v FL', Bk (w8.setCell ⟨w.heap.size + 1, 0, none⟩ (.slice A8 (FL.length + 1) c8)) (w.heap.size + 1) 35 #[v] ∧ FlB 40 (w2.heap.size + 1) (w8.setCell ⟨w.heap.size + 1, 0, none⟩ (.slice A8 (FL.length + 1) c8)) v FL' ∧ FL'.map FR.fl = ((pre ++ [(⟨nm, hnm⟩ : { x // x ∈ namesOf s.dir })]).map Subtype.val).map (fileOf s s.dir Nd.data)) ∧ Bk (w8.setCell ⟨w.heap.size + 1, 0, none⟩ (.slice A8 (FL.length + 1) c8)) w.heap.size 31 #[.pointer (some ⟨fb, 0, none⟩)] ∧ Below w.heap.size w (w8.setCell ⟨w.heap.size + 1, 0, none⟩ (.slice A8 (FL.length + 1) c8)) ∧ w2.heap.size + 1 ≤ (w8.setCell ⟨w.heap.size + 1, 0, none⟩ (.slice A8 (FL.length + 1) c8)).heap.size) := by
        have e1 : RdP (fun b => W.heap.size ≤ b) w3 A4 dt.length (bcs dt) := by rw [← Hdl.out]; exact hR4
        have hx : (⟨nm, dt, A4, c4⟩ : FR).ok (fun b => w2.heap.size + 1 ≤ b ∧ b < (w3.alloc (.cells #[.string ⟨nm.toArray⟩, .slice A4 dl c4] 40)).heap.size ∧ (Value.slice As FL.length cs).ownBlock ≠ some b) (w3.alloc (.cells #[.string ⟨nm.toArray⟩, .slice A4 dl c4] 40)) := by
          have e2 : RdP (fun b => w2.heap.size + 1 ≤ b ∧ b < (w3.alloc (.cells #[.string ⟨nm.toArray⟩, .slice A4 dl c4] 40)).heap.size ∧ (Value.slice As FL.length cs).ownBlock ≠ some b) w3 A4 dt.length (bcs dt) := ⟨e1.rd, fun hn p hp => ⟨Nat.le_trans hsW (e1.lie hn p hp), by have := e1.lt hn p hp; simp; omega, fun e => by
            have h1 := (World.ownsRow.lt HF.out.own p.block e).2
            have h2 := e1.lie hn p hp
            omega⟩⟩
          exact ⟨RdP.below e2 ((Below.refl _ _).alloc (Nat.le_refl _) _), by show dt.length ≤ c4; rw [← Hdl.out]; exact hc4⟩
        have F8 := F4.snoc hx (by show OwnK w8 _ _ 2 (.slice A8 (FL.length + 1) c8) _ (_ ++ [svl nm, .slice A4 dt.length c4]); rw [← Hdl.out]; exact ho8) hg8 hat8
        have hr8 : ∀ g, (Value.slice As FL.length cs).ownBlock = some g → w2.heap.size + 1 ≤ g := fun g hg => (World.ownsRow.lt F4.own g hg).1
        have k8 : KbP (fun b => b = w.heap.size + 1 ∨ w2.heap.size + 1 ≤ b) W w8 := (((KbP.refl _ W).drew.after hb3).alloc _).grown hg8 (fun g hg => .inl (.inr (hr8 g hg)))
        refine ⟨(((((KeepsOthers.drew W).from _).trans (keepsF_below hb3 _)).trans ((KeepsOthers.alloc _ _).from _)).trans (keepsF_grown F4.own hg8)).trans ((KeepsOthers.setCell _ _ _).from _), k8.setCell (p := ⟨w.heap.size + 1, 0, none⟩) (.inl (.inl rfl)) _, ⟨_, FL ++ [⟨nm, dt, A4, c4⟩], B18.set_ 0 (.slice A8 (FL.length + 1) c8), F8.kbP (X := fun b => b = w.heap.size + 1) ((KbP.refl (fun b => b = w.heap.size + 1) w8).setCell (p := ⟨w.heap.size + 1, 0, none⟩) (.inl rfl) _) (fun b hb => by omega), ?_⟩, B28.far (by simp) _, hb8w.setCell (p := ⟨w.heap.size + 1, 0, none⟩) (by simp) _, ?_⟩
        · rw [List.map_append, Hfl.out, List.map_append, List.map_append, List.map_cons, List.map_nil, List.map_cons, List.map_nil, List.map_cons, List.map_nil, Hfo.out]; rfl
        · have := k8.size; simp; omega
      have Hfin := Lib.hid hfin
      clear hfin q8 z8 hHeld hS8 hS3 hS4
      exact onN_ok (by gi_wp2; exact Hfin.out)
    case done =>
      rintro D xs W hD rfl ⟨⟨v, FL, hbl, hF, hfl⟩, hbf, hBW, hsW⟩ hK
      obtain ⟨As, cs, rfl, hcs⟩ := hF.own.shape
      have q1 := hbl.cell
      have hE : FL.map FR.fl = fl := by rw [hfl, Hfl.out, List.attach_map_subtype_val]
      have hFl : FL.length = fl.length := by rw [← hE, List.length_map]
      have hF2 := hF.kept (grownBy_putObj' _ D (.deferred none)) (fun r e => by cases e; exact ⟨_, hK, rfl⟩)
      have hbD := hBW.trans (belowK_b (w := w) (Nat.le_refl _) W D _ (.deferred none) (by have := hbw.size; omega) hK rfl rfl)
      rw [hFl] at hF2 hcs q1
      have HP := Lib.hid (FlB.post hbD (by omega) hF2 hE hcs)
      clear hfl hF hbl hF2 hE hFl hbD
      gi_wp2
      refine ⟨by simp, .inl ⟨_, _, rfl, run_takeDeferred hK, ?_⟩⟩
      exact ⟨.slice As fl.length cs, by simp [results, Tryz.results13, go_sem], HP.out⟩
    case stop =>
      intro D c pre W hD hsp hf
      exact hf.elim
end Go.Proofs.YtaanmnplfppdeaaGreat
/- Layer 1: the files, told one by one with their sizes: the iterator of Each. -/
namespace Go.Fsy
open Go.RowKit Go.Maps Go.Lec
/-- What a round leaves of the iterator's: all cells but those of some blocks. -/
structure KpC (X : Nat → Prop) (W W' : World) : Prop where
  size : W.heap.size ≤ W'.heap.size
  blk : ∀ (k : Nat) (o : Obj), W.heap[k]? = some o → o.isCells = true → ¬ X k → W'.heap[k]? = some o
section
variable {X I : Nat → Prop} {W W' A B C : World}
theorem KpC.refl (X : Nat → Prop) (W : World) : KpC X W W := ⟨Nat.le_refl _, fun _ _ h _ _ => h⟩
theorem KpC.trans (h : KpC X A B) (k : KpC X B C) : KpC X A C := ⟨Nat.le_trans h.size k.size, fun b o ho hc hx => k.blk b o (h.blk b o ho hc hx) hc hx⟩
theorem KpC.of_kb (h : KbP X W W') : KpC X W W' := ⟨h.size, fun k _o ho _ hx => (h.block k (Array.getElem?_eq_some_iff.1 ho).1 hx).trans ho⟩
theorem KpC.of_below (h : Below W.heap.size W W') : KpC X W W' := ⟨h.size, fun k _o ho _ _ => (h.block k (Array.getElem?_eq_some_iff.1 ho).1).trans ho⟩
theorem KpC.put (W : World) (l : Nat) (o o' : Obj) (h : W.heap[l]? = some o) (hc : o.isCells = false) : KpC X W (W.putObj l o') := by
  have hg := grownBy_putObj' W l o'
  refine ⟨hg.size, fun k u hu hcu _ => (hg.block k (Array.getElem?_eq_some_iff.1 hu).1 (fun e => ?_)).trans hu⟩
  cases e
  rw [h] at hu; cases hu; rw [hc] at hcu; cases hcu
theorem KpC.cell (h : KpC X W W') {p : Addr} {v : Value} (hv : W.cell? p = some v) (hx : ¬ X p.block) : W'.cell? p = some v := by
  obtain ⟨o, ho, hc⟩ := cells_of_cell hv
  exact (World.cell?_of_block ((h.blk _ o ho hc hx).trans ho.symm)).trans hv
theorem RdKP.kpC {k n : Nat} {A : Option Addr} {xs : List Value} (h : RdKP I W k A n xs) (hk : KpC X W W') (hI : ∀ b, I b → ¬ X b) : RdKP I W' k A n xs :=
  ⟨⟨h.rd.1, fun hn => by
    obtain ⟨b, o, e, hb, hc⟩ := h.rd.2 hn
    exact ⟨b, o, e, Nat.lt_of_lt_of_le hb hk.size, fun i u hu => hk.cell (hc i u hu) (hI _ (h.lie hn ⟨b, o, none⟩ e))⟩⟩, h.lie⟩
end
theorem kpC_t {X : Nat → Prop} {A B C : World} (h : KpC X A B) (k : KpC X B C) : KpC X A C := h.trans k
theorem kpC_b {X : Nat → Prop} {w : World} (W : World) (l : Nat) (o o' : Obj) (_ : w.heap.size ≤ l) (h : W.heap[l]? = some o) (h1 : o.isCells = false) (_ : o.isWalk = false) : KpC X W (W.putObj l o') := KpC.put W l o o' h h1
end Go.Fsy
namespace Go.Proofs.YtaanmnplfppdeaaGreat
open Go.RowKit Go.Lec Go.Fsy Go.Op Go.Maps Go.Shelf
attribute [local go_sem] Oper.semAt_some
theorem c_Each (w : World) (fb : Nat) : Calls Tryz.prog 61 #[ptrV fb] w fun e w' => e = .returned (.func (.func 87) #[] #[.pointer (some ⟨w.heap.size, 0, none⟩)]) ∧ w' = w.alloc (.cells #[ptrV fb] 31) := by
  have hmf : ∀ (fn : Fn) (first cap : Array Value) (w : World), (Instr.makeFunc fn first cap).run Tryz.prog w = .ok (.func fn first cap) w := fun _ _ _ _ => rfl
  unfold ptrV
  go_enter Tryz.func61, Tryz.ntmps61
  go_wp2
  go_ret
  exact ⟨rfl, rfl⟩
set_option maxRecDepth 100000 in
set_option maxHeartbeats 2000000 in
theorem each1_in (n : Nat) (hn : 1 ≤ n) (l Bs fb : Nat) {X I Y : Nat → Prop} {N : Nat} {s : St} (J Jx : List Fl → World → Prop) (W : World) (hJa : AbidesFrom W.heap.size J) (hY' : ∀ b, Y b → b < W.heap.size)
    (hY : ∀ pre x W1, J pre W1 → pre.length < (files s).length → YieldAt Fence.wide (n - 1) Tryz.prog l #[svl x.1, .int .i64 (x.2.length : Int)] W1 fun e W' =>
      (e = .returned (.bool true) ∧ J (pre ++ [x]) W' ∧ KpC Y W1 W') ∨ (e = .returned (.bool false) ∧ Jx (pre ++ [x]) W'))
    (hBs : Bk W Bs 31 #[ptrV fb]) (h : FsP X I W fb s) (hi : Fsy.Inv s N) (hN : N ≤ 1048576) (h0 : J [] W) :
    CallsIn Fence.wide n Tryz.prog 87 #[.func (.yield l) #[] #[], .pointer (some ⟨Bs, 0, none⟩)] W fun e W' => (∃ v, e = .returned v) ∧
      ((∃ ys, ys = files s ∧ J ys W') ∨ (∃ pre, (∃ k, k ≤ (files s).length ∧ pre = (files s).take k) ∧ Jx pre W')) := by
  have HF := Lib.hid (c_Files W h hi hN)
  have qs := hBs.cell
  have hfn : (files s).length ≤ 1048576 := by
    have hd := hi.nDir
    have he : files s = if s.died then [] else (namesOf s.dir).map (fileOf s s.dir Nd.data) := rfl
    rw [he]
    split
    · exact Nat.zero_le _
    · rw [List.length_map, namesOf_len]; omega
  obtain ⟨L, hL⟩ : ∃ L, L = files s := ⟨_, rfl⟩
  rw [← hL] at HF hY hfn ⊢
  unfold ptrV at *
  clear hBs h hi hN hL
  refine callsIn_of_wp Tryz.func87 rfl trivial ?_ rfl
  simp only [Tryz.ntmps87, List.size_toArray, List.length_cons, List.length_nil, Nat.reduceAdd, Nat.reduceSub, Array.replicate_succ, Array.replicate_zero, List.push_toArray, List.append_toArray, List.nil_append, List.cons_append]
  unfold FilesP at HF
  gi_wp2_with (refine ⟨trivial, ?_⟩; gi_at_call 13; refine (callsIn_wide.2 HF.out).mono ?_; rintro e w2 ⟨A, c, FL, rfl, hc, hFL, hR, hok, hb2⟩)
  have hJ2 := hJa _ W _ none h0 (grown_below hb2) (fun r e => by cases e)
  have HFL := Lib.hid hFL
  have hln : FL.length = L.length := by rw [← hFL, List.length_map]
  have Hln := Lib.hid hln
  obtain ⟨N', hN'⟩ : ∃ x, x = L.length := ⟨_, rfl⟩
  have HN' := Lib.hid hN'
  rw [← hN'] at hc hR hfn hY ⊢
  clear hFL hln hN' hok qs
  have hW2 := hb2.size
  gi_loopw [8] (fun i wr => ∃ k : Nat, k ≤ N' ∧ i = .int .i64 k ∧ J (L.take k) wr ∧ KpC Y w2 wr) (fun i _ => N' - (intOf i).toNat)
  case atStart => exact ⟨0, Nat.zero_le _, rfl, hJ2, KpC.refl _ _⟩
  case round =>
    obtain ⟨k, hk, rfl, hJs, hnx⟩ := hrel
    by_cases hlt : k < N'
    · have hkF : k < FL.length := by have := Hln.out; have := HN'.out; omega
      have hkL : k < L.length := by have := HN'.out; omega
      obtain ⟨b, o, rfl, hbB, hcell⟩ := rdK_at FR.cs_len (hR.kpC hnx (fun b hb hy => by have := hY' b hy; omega)).rd hkF (by have := Hln.out; have := HN'.out; omega) (by decide)
      have hx : (L[k].1 = FL[k].name) ∧ L[k].2 = FL[k].data := by
        have : L[k] = FL[k].fl := by
          have h1 := HFL.out
          subst h1
          simp
        rw [this]; exact ⟨rfl, rfl⟩
      have hc0 : wr.cell? ⟨b, o + k * 2, none⟩ = some (svl L[k].1) := by rw [hx.1]; exact hcell wr (Below.refl _ _) 0 _ rfl
      have hc1 : wr.cell? ⟨b, o + k * 2 + 1, none⟩ = some (.slice FL[k].A L[k].2.length FL[k].c) := by rw [hx.2]; exact hcell wr (Below.refl _ _) 1 _ rfl
      have Htk := Lib.hid (List.take_succ_eq_append_getElem hkL)
      have HB := Bk.new_ wr 40 #[svl L[k].1, .slice FL[k].A L[k].2.length FL[k].c]
      have hb1 := (Below.refl wr.heap.size wr).alloc (Nat.le_refl _) (.cells #[svl L[k].1, .slice FL[k].A L[k].2.length FL[k].c] 40)
      have hJ1 := hJa _ wr _ none hJs (grown_below hb1) (fun r e => by cases e)
      have g0 := HB.cell 0
      have g1 := HB.cell 1
      obtain ⟨fn, tmps, assign, body, hy, hRR⟩ := hY _ L[k] _ hJ1 (by rw [List.length_take]; omega)
      have hblt : b < wr.heap.size := hbB
      clear hcell hY hR hx HB
      have hki : (k : Int) < (N' : Int) := by omega
      obtain ⟨nm, hnm⟩ : ∃ x, x = L[k].1 := ⟨_, rfl⟩
      obtain ⟨dl, hdl⟩ : ∃ x, x = L[k].2.length := ⟨_, rfl⟩
      clear hJ1
      rw [← hnm] at hc0 g0 g1 hy hRR hb1
      rw [← hdl] at hc1 g0 g1 hy hRR hb1
      clear hnm hdl
      unfold svl at *
      gi_wp2
      refine hRR.mono ?_
      rintro e W3 (⟨rfl, hJ3, hk3⟩ | ⟨rfl, hJx3⟩)
      · gi_wp2
        go_roundw
        case rel => exact ⟨k + 1, by omega, by go_num, by rw [Htk.out]; exact hJ3, hnx.trans ((KpC.of_below hb1).trans hk3)⟩
        case measure => simp [intOf]; omega
      · gi_wp2
        refine bodyPost_ret (results_none rfl _ _ _) rfl ?_
        exact ⟨⟨_, rfl⟩, .inr ⟨_, ⟨k + 1, by omega, rfl⟩, by rw [Htk.out]; exact hJx3⟩⟩
    · obtain rfl : k = N' := by omega
      clear hY
      gi_wp2
      go_end0
      have he : L.take k = L := List.take_of_length_le (by rw [← HN'.out]; exact Nat.le_refl _)
      exact ⟨⟨_, rfl⟩, .inl ⟨_, rfl, he ▸ hJs⟩⟩
theorem each_stops (n : Nat) (hn : 1 ≤ n) (Bs fb : Nat) {X I Y : Nat → Prop} {N : Nat} {s : St} (w : World) (hY : ∀ b, Y b → b < w.heap.size) (hBs : Bk w Bs 31 #[ptrV fb]) (h : FsP X I w fb s) (hi : Fsy.Inv s N) (hN : N ≤ 1048576) :
    SeqStopsK Fence.wide n Tryz.prog 87 #[.pointer (some ⟨Bs, 0, none⟩)] (fun x : Fl => #[svl x.1, .int .i64 (x.2.length : Int)]) (KpC Y) (fun ys => ys = files s) (fun pre => ∃ k, k ≤ (files s).length ∧ pre = (files s).take k) (files s).length w := fun l J Jx W hW hJ _ hYd h0 =>
  each1_in n hn l Bs fb J Jx W hJ (fun b hb => Nat.lt_of_lt_of_le (hY b hb) hW.size) hYd (hBs.below hW hBs.lt) (h.below hW) hi hN h0
end Go.Proofs.YtaanmnplfppdeaaGreat
