/- Layer 1: a move is done to a directory; a change to a file: the walks. -/
import Derived.Test.YtaanmnplfppdeaaFsD
namespace Go.Fsy
open Go.Maps Go.Lec
theorem bkGrown {w w' : World} {b : Nat} {t : TypeId} {cs : Array Value} {x : Option Nat} (h : Bk w b t cs) (hg : w.grownBy w' x) (hb : x ≠ some b) : Bk w' b t cs := (hg.block b h.lt (fun e => hb e.symm)).trans h
theorem cell_grown_far {w w' : World} {b : Nat} {p : Addr} (h : w.grownBy w' (some b)) (hp : p.block < w.heap.size) (hne : p.block ≠ b) : w'.cell? p = w.cell? p :=
  World.cell?_of_block (h.block _ hp (fun e => hne (Option.some.inj e)))
theorem strNe {n : Bs} (h : n ≠ []) : (n.isEmpty) = false := by cases n with | nil => exact absurd rfl h | cons a l => rfl
end Go.Fsy
namespace Go.Proofs.Ytaanmnplfppdeaa
open Go.RowKit Go.Lec Go.Fsy Go.Op Go.Maps
theorem keyS : Keyed Try.prog 9 := string_keyed Try.underlying9
theorem zeroP (w : World) : (zeroValue 59).run Try.prog w = .ok (.pointer none) w := by kernel_rfl
theorem hkeyS {n : Bs} (h : n.length ≤ 4294967296) : keyOf Try.prog 9 (.string ⟨n.toArray⟩) = some (strL n) := by
  have := WideMaps.keyOf_string_mk (P := Try.prog) Try.underlying9 (s := ⟨n.toArray⟩) (by unfold maxLen; simp [ByteArray.size]; omega)
  simpa [strL] using this
/-- A look-up, with 'ok'. -/
theorem look_ok {w : World} {b k : Nat} {D : DataW Unit} {fid : Nat → Nat} {l : Dir} (hm : w.ownsMap Try.prog 9 ptrR b k D) (hr : Rep fid D l) {n : Bs} (hn : n.length ≤ 4294967296) :
    (Instr.lookup 35 (.map (some b)) (.string ⟨n.toArray⟩) true).run Try.prog w = .ok (match node l n with | none => .tuple #[.pointer none, .bool false] | some i => .tuple #[ptrV (fid i), .bool true]) w := by
  obtain ⟨v, ps, hrun, hv⟩ := hm.look_ok keyS Try.underlying35 (zeroP w) (zd := .nil) (zp := []) rfl (hkeyS hn)
  rw [hrun, hr.has]
  cases hnd : node l n with
  | none =>
    have h0 : D.atKey (strL n) .nil = .nil := atKey_of_not_has (by rw [hr.has, hnd]; rfl) _
    rw [h0] at hv
    rw [ptrR_nil hv]
    rfl
  | some i =>
    rw [hr.at_ n i hnd] at hv
    rw [ptrR_inv hv]
    rfl
theorem look {w : World} {b k : Nat} {D : DataW Unit} {fid : Nat → Nat} {l : Dir} (hm : w.ownsMap Try.prog 9 ptrR b k D) (hr : Rep fid D l) {n : Bs} {i : Nat} (hn : n.length ≤ 4294967296) (hi : node l n = some i) :
    (Instr.lookup 35 (.map (some b)) (.string ⟨n.toArray⟩) false).run Try.prog w = .ok (ptrV (fid i)) w := by
  obtain ⟨v, ps, hrun, hv⟩ := hm.lookup keyS Try.underlying35 (zeroP w) (zd := .nil) (zp := []) rfl (hkeyS hn)
  rw [hr.at_ n i hi] at hv
  rw [hrun, ptrR_inv hv]
  rfl
/-- What a move does to a directory's map. -/
def LayP (w : World) (b : Nat) (fid : Nat → Nat) (l : Dir) (e : Ending) (w' : World) : Prop :=
  e = .returned (.tuple #[]) ∧ (∃ D, w'.ownsMap Try.prog 9 ptrR b l.length D ∧ Rep fid D l) ∧ KbP (fun k => k = b) w w'
set_option maxRecDepth 40000 in
set_option maxHeartbeats 1600000 in
theorem c_mvLay (w : World) {b : Nat} {D : DataW Unit} {fid : Nat → Nat} {l : Dir} (m : Mv) (hm : w.ownsMap Try.prog 9 ptrR b l.length D) (hr : Rep fid D l) (hl : (l.map (·.1)).Nodup) {N : Nat} (ho : m.okIn N) (hs : m.short) (hn : l.length ≤ 1099511627776) :
    Calls Try.prog 40 #[.agg (mvCs fid m).toArray, .map (some b)] w (LayP w b fid (moved l m)) := by
  have hbl := hm.lt
  cases m with
  | made n i =>
    have h1 := strNe ho.1
    have hP := (Bk.new_ w 70 #[svl [], svl n, ptrV (fid i)]).cell
    have hm1 := hm.alloc (.cells #[svl [], svl n, ptrV (fid i)] 70)
    have hb1 := (Below.refl w.heap.size w).alloc (Nat.le_refl _) (.cells #[svl [], svl n, ptrV (fid i)] 70)
    have HD := Lib.hid (hr.put hl n i)
    have Hl := Lib.hid hn
    have hk := hkeyS (n := n) hs
    unfold mvCs svl ptrV at *
    go_enter Try.func40, Try.ntmps40
    go_wp2_with (first | (at_mapUpdate; refine wpList_mapUpdate_own _ rfl _ _ _ 35 rfl 9 59 keyS Try.underlying35 ptrR b l.length D rfl hm1 (by have := Hl.out; unfold maxLen; omega) _ _ _ rfl rfl hk _ [] rfl ?_; intro w2 hm2 hg2))
    go_end0
    exact ⟨rfl, ⟨_, HD.out.size ▸ own_tight hm2, HD.out⟩, (KbP.of_below hb1).grown hg2 (fun g e => by cases e; exact .inl rfl)⟩
  | ren a c i =>
    have h1 := strNe ho.1
    have h2 := strNe ho.2.1
    have hP := (Bk.new_ w 70 #[svl a, svl c, ptrV (fid i)]).cell
    have hm1 := hm.alloc (.cells #[svl a, svl c, ptrV (fid i)] 70)
    have hb1 := (Below.refl w.heap.size w).alloc (Nat.le_refl _) (.cells #[svl a, svl c, ptrV (fid i)] 70)
    have hl1 : ((without l a).map (·.1)).Nodup := hl.sublist ((without_sub l a).map _)
    have HD := Lib.hid ((hr.del hl a).put hl1 c i)
    have Hl := Lib.hid hn
    have hk := hkeyS (n := a) hs.1
    have hk2 := hkeyS (n := c) hs.2
    have hz : b ≠ w.heap.size := by omega
    unfold mvCs svl ptrV at *
    go_enter Try.func40, Try.ntmps40
    go_wp2_with (first
      | (at_delete; refine wpList_delete_own _ rfl _ _ 35 9 rfl 59 keyS Try.underlying35 ptrR b l.length D rfl hm1 _ _ rfl hk ?_; intro w2 hm2 ht2; have hg2 := ht2.grown; have hP2 : ∀ j, w2.cell? ⟨w.heap.size, j, none⟩ = _ := fun j => (cell_grown_far hg2 (by simp) (by simpa using Ne.symm hz)).trans (hP j))
      | (at_mapUpdate; refine wpList_mapUpdate_own _ rfl _ _ _ 35 rfl 9 59 keyS Try.underlying35 ptrR b l.length _ rfl hm2 (by have := Hl.out; unfold maxLen; omega) _ _ _ rfl rfl hk2 _ [] rfl ?_; intro w3 hm3 hg3))
    go_end0
    exact ⟨rfl, ⟨_, HD.out.size ▸ own_tight hm3, HD.out⟩, ((KbP.of_below hb1).grown hg2 (fun g e => by cases e; exact .inl rfl)).grown hg3 (fun g e => by cases e; exact .inl rfl)⟩
  | rem a =>
    have h1 := strNe ho
    have hP := (Bk.new_ w 70 #[svl a, svl [], .pointer none]).cell
    have hm1 := hm.alloc (.cells #[svl a, svl [], .pointer none] 70)
    have hb1 := (Below.refl w.heap.size w).alloc (Nat.le_refl _) (.cells #[svl a, svl [], .pointer none] 70)
    have HD := Lib.hid (hr.del hl a)
    have Hl := Lib.hid hn
    have hk := hkeyS (n := a) hs
    have hz : b ≠ w.heap.size := by omega
    unfold mvCs svl at *
    go_enter Try.func40, Try.ntmps40
    go_wp2_with (first
      | (at_delete; refine wpList_delete_own _ rfl _ _ 35 9 rfl 59 keyS Try.underlying35 ptrR b l.length D rfl hm1 _ _ rfl hk ?_; intro w2 hm2 ht2; have hg2 := ht2.grown; have hP2 : ∀ j, w2.cell? ⟨w.heap.size, j, none⟩ = _ := fun j => (cell_grown_far hg2 (by simp) (by simpa using Ne.symm hz)).trans (hP j)))
    go_end0
    exact ⟨rfl, ⟨_, HD.out.size ▸ own_tight hm2, HD.out⟩, (KbP.of_below hb1).grown hg2 (fun g e => by cases e; exact .inl rfl)⟩
end Go.Proofs.Ytaanmnplfppdeaa
