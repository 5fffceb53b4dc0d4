/- Layer 1: rows of files that are told; the safe files: the walk of Safe. -/
import Derived.Test.YtaanmnplfppdeaaFsX5
import Derived.Test.YtaanmnplfppdeaaFsRd
namespace Go.Fsy
open Go.RowKit Go.Maps Go.Lec
/-- A file that is told, with where its bytes lie. -/
structure FR where
  name : Bs
  data : Bs
  A : Option Addr
  c : Nat
def FR.fl (x : FR) : Fl := (x.name, x.data)
def FR.cs (x : FR) : List Value := [svl x.name, .slice x.A x.data.length x.c]
theorem FR.cs_len (x : FR) : x.cs.length = 2 := rfl
theorem FR.cs_one (x : FR) : ∀ u ∈ x.cs, u.oneCell' = true := by
  intro u hu
  simp only [FR.cs, List.mem_cons, List.not_mem_nil, or_false] at hu
  rcases hu with rfl | rfl <;> rfl
def FR.ok (I : Nat → Prop) (w : World) (x : FR) : Prop := RdP I w x.A x.data.length (bcs x.data) ∧ x.data.length ≤ x.c
/-- What a function that tells files answers. -/
def FilesP (w : World) (L : List Fl) (e : Ending) (w' : World) : Prop :=
  ∃ (A : Option Addr) (c : Nat) (FL : List FR), e = .returned (.slice A L.length c) ∧ L.length ≤ c ∧ FL.map FR.fl = L ∧ RdKP (fun b => w.heap.size ≤ b) w' 2 A L.length (FL.flatMap FR.cs) ∧ (∀ x ∈ FL, x.ok (fun b => w.heap.size ≤ b) w') ∧ Below w.heap.size w w'
theorem FilesP.none_ (w : World) : FilesP w [] (.returned (.slice none 0 0)) w := ⟨none, 0, [], rfl, Nat.le_refl _, rfl, RdKP.nil_, (fun x hx => by (cases hx)), Below.refl _ _⟩
section
variable {w wr w1 w2 : World} {tf : TypeId} {v v' : Value} {FL : List FR} {x : FR}
/-- A row of files that is being built. -/
structure FlI (tf : TypeId) (w wr : World) (v : Value) (FL : List FR) : Prop where
  own : OwnK wr w.heap.size tf 2 v FL.length (FL.flatMap FR.cs)
  ok : ∀ x ∈ FL, x.ok (fun b => w.heap.size ≤ b ∧ b < wr.heap.size ∧ v.ownBlock ≠ some b) wr
  bl : Below w.heap.size w wr
theorem FlI.start (tf : TypeId) (w : World) : FlI tf w w (.slice none 0 0) [] := ⟨OwnK.nil_ _ _ _ _, fun x hx => by (cases hx), Below.refl _ _⟩
theorem FlI.keep (h : FlI tf w wr v FL) (hb : Below wr.heap.size wr w1) : FlI tf w w1 v FL :=
  ⟨h.own.below hb (Nat.le_refl _), fun x hx => ⟨(RdP.below (h.ok x hx).1 hb).more (fun b hb' => ⟨hb'.1, Nat.lt_of_lt_of_le hb'.2.1 hb.size, hb'.2.2⟩), (h.ok x hx).2⟩, h.bl.trans (hb.mono h.bl.size)⟩
theorem FlI.kbP {X : Nat → Prop} (h : FlI tf w wr v FL) (hb : KbP X wr w1) (hX : ∀ b, X b → w.heap.size ≤ b ∧ v.ownBlock ≠ some b ∧ ∀ x ∈ FL, 0 < x.data.length → ∀ p, x.A = some p → p.block ≠ b) : FlI tf w w1 v FL :=
  ⟨OwnK.kbP h.own hb (fun g hg hx => (hX g hx).2.1 hg), fun x hx => ⟨⟨(h.ok x hx).1.rd.kbP hb (fun hn p e hxp => (hX _ hxp).2.2 x hx hn p e rfl), fun hn p e => by
    have h1 := (h.ok x hx).1.lie hn p e
    exact ⟨h1.1, Nat.lt_of_lt_of_le h1.2.1 hb.size, h1.2.2⟩⟩, (h.ok x hx).2⟩, h.bl.trans (hb.below (fun b hb' => (hX b hb').1) h.bl.size)⟩
theorem FlI.snoc (h : FlI tf w w1 v FL) (hx : x.ok (fun b => w.heap.size ≤ b ∧ b < w1.heap.size ∧ v.ownBlock ≠ some b) w1) (ho : OwnK w2 w.heap.size tf 2 v' (FL.length + 1) (FL.flatMap FR.cs ++ x.cs)) (hg : w1.grownBy w2 v.ownBlock) (hat : v'.ownBlock = v.ownBlock ∨ ∃ g, v'.ownBlock = some g ∧ w1.heap.size ≤ g) (hb : Below w.heap.size w w2) :
    FlI tf w w2 v' (FL ++ [x]) := by
  have hk : KbP (fun b => v.ownBlock = some b) w1 w2 := KbP.of_grown hg (fun g e => e)
  have hne : ∀ b, b < w1.heap.size → v.ownBlock ≠ some b → v'.ownBlock ≠ some b := fun b hb1 hn e => by
    rcases hat with e' | ⟨g, e', hg'⟩
    · exact hn (e' ▸ e)
    · rw [e'] at e; cases e; omega
  have hall : ∀ y : FR, y.ok (fun b => w.heap.size ≤ b ∧ b < w1.heap.size ∧ v.ownBlock ≠ some b) w1 → y.ok (fun b => w.heap.size ≤ b ∧ b < w2.heap.size ∧ v'.ownBlock ≠ some b) w2 := fun y hy =>
    ⟨(hy.1.kbP hk (fun b hb1 hb2 => hb1.2.2 hb2)).more (fun b hb1 => ⟨hb1.1, Nat.lt_of_lt_of_le hb1.2.1 hk.size, hne b hb1.2.1 hb1.2.2⟩), hy.2⟩
  refine ⟨?_, fun y hy => ?_, hb⟩
  · rw [List.length_append, List.flatMap_append]; simpa using ho
  · rcases List.mem_append.1 hy with hy | hy
    · exact hall y (h.ok y hy)
    · rw [List.mem_singleton] at hy; subst hy; exact hall y hx
theorem FlI.post {w0 : World} {A : Option Addr} {c : Nat} {L : List Fl} (hb : Below w0.heap.size w0 w) (h : FlI tf w wr (.slice A L.length c) FL) (hL : FL.map FR.fl = L) (hc : L.length ≤ c) : FilesP w0 L (.returned (.slice A L.length c)) wr := by
  have hl : FL.length = L.length := by rw [← hL, List.length_map]
  have ho := h.own
  rw [hl] at ho
  exact ⟨A, c, FL, rfl, hc, hL, (RdKP.new_ ho).more (fun b hb' => Nat.le_trans hb.size hb'.1), fun x hx => ⟨((h.ok x hx).1).more (fun b hb' => Nat.le_trans hb.size hb'.1), (h.ok x hx).2⟩, hb.trans (h.bl.mono hb.size)⟩
end
theorem namesOf_node {s : St} {l : Dir} {N : Nat} (h : dirOk N l) {k : Nat} (hk : k < (namesOf l).length) : ∃ i, node l (namesOf l)[k] = some i ∧ (namesOf l)[k].length ≤ 4294967296 ∧ ((namesOf l)[k], i) ∈ l := by
  have hm : (namesOf l)[k] ∈ l.map (·.1) := (List.mergeSort_perm _ _).mem_iff.1 (List.getElem_mem hk)
  obtain ⟨p, hp, he⟩ := List.mem_map.1 hm
  refine ⟨p.2, ?_, ?_, ?_⟩
  · rw [← he]; exact node_of_mem h.1 hp
  · rw [← he]; exact (h.2 p hp).2.1
  · rw [← he]; exact hp
end Go.Fsy
namespace Go.Proofs.Ytaanmnplfppdeaa
open Go.RowKit Go.Lec Go.Fsy Go.Op Go.Maps
theorem infoFl : (Try.prog.info? 58).map (fun i => (i.zero, i.size, i.bytes)) = some (some (.agg #[.string ⟨#[]⟩, .slice none 0 0]), 2, 40) := by kernel_rfl
theorem slfl : SlK Try.prog 51 58 (.agg #[.string ⟨#[]⟩, .slice none 0 0]) 40 2 := ⟨Try.underlying51, info_parts infoFl, rfl, by decide⟩
set_option maxRecDepth 100000 in
set_option maxHeartbeats 1600000 in
theorem c_Safe (w : World) {X I : Nat → Prop} {fb N : Nat} {s : St} (h : FsP X I w fb s) (hi : Fsy.Inv s N) (hN : N ≤ 1048576) :
    Calls Try.prog 16 #[ptrV fb] w (FilesP w (safeFiles s)) := by
  obtain ⟨G, hG⟩ := h
  have H0 := Lib.hid (c_is w fb (hG.bk.cell 0))
  have c9 : w.cell? ⟨fb, 9, none⟩ = some (.map (some G.sm)) := hG.bk.cell 9
  have hsl := hi.nSafe
  have hdk := hi.safe
  have HN := Lib.hid (c_names w hG.smap hG.rep2 hi.safe.1 (by omega))
  unfold NamesP at HN
  have hnl := namesOf_len s.safe
  have hlfb := hG.bk.lt
  have HG := Lib.hid hG
  obtain ⟨ln, hln⟩ : ∃ x, x = s.safe.length := ⟨_, rfl⟩
  have Hln := Lib.hid (show (namesOf s.safe).length = ln by rw [hnl, hln])
  have hsf : (safeFiles s).length = ln := by rw [safeFiles, List.length_map, hnl, hln]
  have Hsf := Lib.hid hsf
  rw [← hln] at HN hsl
  have Hnd := Lib.hid (fun (k : Nat) (hk : k < (namesOf s.safe).length) => namesOf_node (s := s) hdk hk)
  have Hsz := Lib.hid (fun (i : Nat) => fits_head (hi.nd i).1)
  clear hG hdk hnl hln hsf hi
  unfold ptrV at *
  go_enter Try.func16, Try.ntmps16
  go_wp2_with (first | (go_at_call 22; refine H0.out.mono ?_; rintro e w1 ⟨rfl, rfl⟩) | (go_at_call 34; refine HN.out.mono ?_; rintro e w2 ⟨A, c, rfl, hc, hR, hb2⟩))
  have hR0 := hR.rd
  go_loopw [3, 15] (fun v i wr => ∃ (k : Nat) (FL : List FR), k ≤ ln ∧ i = .int .i64 (k : Int) ∧ FL.map FR.fl = ((namesOf s.safe).take k).map (fileOf s s.safe Nd.safe) ∧ FlI 58 w2 wr v FL) (fun _ i _ => ln - (intOf i).toNat)
  case atStart => exact ⟨0, [], Nat.zero_le _, rfl, rfl, FlI.start 58 w2⟩
  case round =>
    obtain ⟨k, FL, hk, rfl, hfl, hF⟩ := hrel
    have hbr := hF.bl
    by_cases hlt : k < ln
    · have hkl : k < (namesOf s.safe).length := by have := Hln.out; omega
      obtain ⟨b, o, rfl, hbB, hcell⟩ := hR0.2 (by omega)
      obtain ⟨i, hi1, hi2, hi3⟩ := Hnd.out k hkl
      have g0 : wr.cell? ⟨b, o + k, none⟩ = some (svl (namesOf s.safe)[k]) := (hbr.cell (p := ⟨b, o + k, none⟩) hbB).trans (hcell k _ (by simp [hkl]))
      have hFl : FL.length = k := by have := congrArg List.length hfl; simpa [List.length_take, Nat.min_eq_left (Nat.le_of_lt hkl)] using this
      obtain ⟨As, cs, rfl, hcs⟩ := hF.own.shape
      have hGr := HG.out.below (hb2.trans (hbr.mono hb2.size))
      have lk := look hGr.smap hGr.rep2 hi2 hi1
      obtain ⟨A1, c1, A3, c3, vs, hB, hR1, hc1, _⟩ := (hGr.files i (.inr (.inl ⟨_, hi3⟩))).ex
      have qf := hB.cell
      have c9r : wr.cell? ⟨fb, 9, none⟩ = some (.map (some G.sm)) := hGr.bk.cell 9
      have Htk := Lib.hid (List.take_succ_eq_append_getElem hkl)
      have hfo : fileOf s s.safe Nd.safe (namesOf s.safe)[k] = ((namesOf s.safe)[k], (ndAt s.nodes i).safe) := by unfold fileOf; rw [hi1]; rfl
      have Hfo := Lib.hid hfo
      have hsz := Hsz.out i
      obtain ⟨nm, hnm⟩ : ∃ x, x = (namesOf s.safe)[k] := ⟨_, rfl⟩
      rw [← hnm] at g0 lk Hfo Htk
      obtain ⟨dt, hdt⟩ : ∃ x, x = (ndAt s.nodes i).safe := ⟨_, rfl⟩
      rw [← hdt] at qf hR1 hc1 Hfo hsz
      have HC := Lib.hid (c_CloneB wr (c := c1) hR1.rd (Nat.le_refl _) (by omega))
      have Hfl := Lib.hid hfl
      have HFl := Lib.hid hFl
      have hfsz := hF.bl.size
      have hF1 := Lib.hid hF
      have HL := Lib.hid (bcs_length dt)
      obtain ⟨dl, hdl⟩ : ∃ x, x = dt.length := ⟨_, rfl⟩
      rw [← hdl] at qf HC
      have Hdl := Lib.hid hdl
      clear hfl hF hcell hi1 hi2 hi3 hGr hB hfo hnm hdt hR1 hsz hFl hdl
      unfold svl ptrV at *
      go_wp2_with (first
        | (go_at_call 23; refine HC.out.mono ?_; rintro e w3 ⟨A4, c4, rfl, hc4, hR4, hb3⟩; have hF3 := hF1.out.keep hb3)
        | (at_builtin; (refine wpList_appK_new rfl _ _ rfl slfl (by decide) rfl hF3.own hF3.bl hF3.bl.size rfl (news := [.string ⟨nm.toArray⟩, .slice A4 dl c4]) rfl (by intro u hu; simp only [List.mem_cons, List.not_mem_nil, or_false] at hu; rcases hu with rfl | rfl <;> rfl) (by have := HFl.out; omega) ?_); intro v5 w5 ho5 hb5 hg5 hat5 hs5))
      go_roundw
      case rel =>
        have hx : (⟨nm, dt, A4, c4⟩ : FR).ok (fun b => w2.heap.size ≤ b ∧ b < w3.heap.size ∧ (Value.slice As FL.length cs).ownBlock ≠ some b) w3 := by
          have e1 : RdP (fun b => wr.heap.size ≤ b) w3 A4 dt.length (bcs dt) := by rw [← Hdl.out]; exact hR4
          refine ⟨⟨e1.rd, fun hn p hp => ⟨Nat.le_trans hfsz (e1.lie hn p hp), e1.lt hn p hp, fun e => ?_⟩⟩, by show dt.length ≤ c4; rw [← Hdl.out]; exact hc4⟩
          have h1 := (World.ownsRow.lt hF1.out.own p.block e).2
          have h2 := e1.lie hn p hp
          omega
        refine ⟨k + 1, FL ++ [⟨nm, dt, A4, c4⟩], by omega, by go_num, ?_, hF3.snoc hx (by show OwnK w5 _ _ 2 v5 _ (_ ++ [svl nm, .slice A4 dt.length c4]); rw [← Hdl.out]; exact ho5) hg5 hat5 hb5⟩
        rw [List.map_append, Hfl.out, Htk.out, List.map_append, List.map_cons, List.map_nil, List.map_cons, List.map_nil, Hfo.out]; rfl
      case measure => simp [intOf]; omega
    · obtain rfl : k = ln := by omega
      obtain ⟨As, cs, rfl, hcs⟩ := hF.own.shape
      have hFl : FL.length = k := by have := congrArg List.length hfl; simpa [List.length_take, Hln.out] using this
      rw [hFl] at hF hcs ⊢
      rw [List.take_of_length_le (by rw [Hln.out]; exact Nat.le_refl _)] at hfl
      have hP := hF
      rw [← Hsf.out] at hP hcs
      have hPP := Lib.hid (FlI.post hb2 hP hfl hcs)
      rw [Hsf.out] at hPP
      clear hfl hF hP hFl hcs
      go_wp2
      go_ret
      exact hPP.out
end Go.Proofs.Ytaanmnplfppdeaa
