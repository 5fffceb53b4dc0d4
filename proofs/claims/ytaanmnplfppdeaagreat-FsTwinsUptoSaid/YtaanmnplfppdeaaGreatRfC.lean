/- Layer 1: the document's file system: small functions: the walks. -/
import Derived.Test.YtaanmnplfppdeaaGreatRfRel
import Derived.Test.YtaanmnplfppdeaaGreatFsK
import Derived.Deep.QuietTactic
import Derived.BigQuiet
import Derived.WalkLawsBesides
import Derived.Sort.Walk0
namespace Go.Proofs.YtaanmnplfppdeaaGreat
open Go.RowKit Go.Lec Go.Fsy Go.Op Go.Maps
def ptrR' (b : Nat) : Value := .pointer (some ⟨b, 0, none⟩)
set_option maxRecDepth 40000 in
set_option maxHeartbeats 800000 in
theorem c_rMay (w : World) (n : Bs) (hn : n.length ≤ 4294967296) :
    Calls Tryz.prog 82 #[.string ⟨n.toArray⟩] w fun e w' => e = .returned (.bool (may n)) ∧ w' = w := by
  obtain ⟨v, hv⟩ : ∃ v, v = may n := ⟨_, rfl⟩
  have hvE : v = (decide (1 ≤ n.length) && decide (n.length ≤ 32) && n.all mayC) := hv
  rw [← hv]
  clear hv
  have hsz : (⟨n.toArray⟩ : ByteArray).size = n.length := by simp [ByteArray.size]
  have Hv := Lib.hid hvE
  clear hvE
  by_cases h1 : n.length < 1
  · have h1' : ((n.length : Int) < 1) := by omega
    go_enter Tryz.func82, Tryz.ntmps82
    go_wp2
    go_ret
    exact ⟨by rw [Hv.out]; simp [show ¬ 1 ≤ n.length by omega], rfl⟩
  · have h1' : ¬ ((n.length : Int) < 1) := by omega
    by_cases h2 : 32 < n.length
    · have h2' : (32 : Int) < (n.length : Int) := by omega
      go_enter Tryz.func82, Tryz.ntmps82
      go_wp2
      go_ret
      exact ⟨by rw [Hv.out]; simp [show ¬ n.length ≤ 32 by omega], rfl⟩
    · have h2' : ¬ (32 : Int) < (n.length : Int) := by omega
      go_enter Tryz.func82, Tryz.ntmps82
      go_wp2
      go_loopw [3] (fun i wr => ∃ k : Nat, k ≤ n.length ∧ i = .int .i64 (k : Int) ∧ (n.take k).all mayC = true ∧ wr = w) (fun i _ => n.length - (intOf i).toNat)
      case atStart => exact ⟨0, Nat.zero_le _, rfl, rfl, rfl⟩
      case round =>
        obtain ⟨k, hk, rfl, hall, rfl⟩ := hrel
        by_cases hlt : k < n.length
        · have hki : (k : Int) < (n.length : Int) := by omega
          obtain ⟨z, hz⟩ : ∃ z, ((⟨n.toArray⟩ : ByteArray)[k]'(by rw [hsz]; exact hlt)).toNat = z := ⟨_, rfl⟩
          have hzc : n[k].toNat = z := hz
          have hmz : mayC n[k] = !(decide (z < 33) || decide (126 < z) || z == 47) := by unfold mayC; rw [hzc]
          have hHall := Lib.hid hall
          clear hall
          have hno : mayC n[k] = false → Ending.returned (.bool false) = Ending.returned (.bool v) := fun hm => by
            have : n.all mayC = false := by
              rw [Bool.eq_false_iff]
              intro h
              have := List.all_eq_true.1 h n[k] (List.getElem_mem hlt)
              rw [hm] at this; cases this
            rw [Hv.out, this, Bool.and_false]
          have Hno := Lib.hid hno
          have Hmz := Lib.hid hmz
          clear hno hmz hzc
          by_cases z1 : z < 33
          · have z1' : (z : Int) < 33 := by omega
            go_wp2
            go_ret
            exact ⟨Hno.out (by rw [Hmz.out]; simp [z1]), rfl⟩
          · have z1' : ¬ (z : Int) < 33 := by omega
            by_cases z2 : 126 < z
            · have z2' : (126 : Int) < (z : Int) := by omega
              go_wp2
              go_ret
              exact ⟨Hno.out (by rw [Hmz.out]; simp [z2]), rfl⟩
            · have z2' : ¬ (126 : Int) < (z : Int) := by omega
              by_cases z3 : z = 47
              · subst z3
                go_wp2
                go_ret
                exact ⟨Hno.out (by rw [Hmz.out]; simp), rfl⟩
              · have z3' : ((z : Int) == 47) = false := by rw [beq_eq_false_iff_ne]; omega
                go_wp2
                go_roundw
                case rel =>
                  refine ⟨k + 1, by omega, by go_num, ?_, by trivial⟩
                  rw [List.take_succ_eq_append_getElem hlt, List.all_append, hHall.out, List.all_cons, Hmz.out]
                  simp [z1, z2, z3]
                case measure => simp [intOf]; omega
        · obtain rfl : k = n.length := by omega
          rw [List.take_length] at hall
          go_wp2
          go_ret
          exact ⟨by rw [Hv.out, hall]; simp; omega, rfl⟩
set_option maxRecDepth 40000 in
set_option maxHeartbeats 800000 in
theorem c_rNode (w : World) {Y J : Nat → Prop} {rb : Nat} {s : St} {n : Bs} (h : RfP Y J w rb s) (hl : s.dir.length ≤ 1073741824) :
    Calls Tryz.prog 43 #[ptrV rb, .string ⟨n.toArray⟩] w fun e w' => e = .returned (.int .i64 (nodeI s.dir n)) ∧ Below w.heap.size w w' := by
  obtain ⟨R, hR⟩ := h
  have q8 : w.cell? ⟨rb, 8, none⟩ = some (.slice R.dA s.dir.length R.dc) := hR.bk.cell 8
  have hrb := hR.bk.lt
  have HF := Lib.hid (c_find w (c := R.dc) (n := n) hR.dir (by omega))
  have hd := hR.dir.rd
  have hcase := find_node s.dir n
  obtain ⟨v, hv⟩ : ∃ v, v = nodeI s.dir n := ⟨_, rfl⟩
  have hvE : v = match node s.dir n with | none => -1 | some i => (i : Int) := hv
  obtain ⟨dA, hdA⟩ : ∃ x, x = R.dA := ⟨_, rfl⟩
  obtain ⟨dc, hdc⟩ : ∃ x, x = R.dc := ⟨_, rfl⟩
  rw [← hv]
  rw [← hdA, ← hdc] at q8 HF
  rw [← hdA] at hd
  rcases hcase with ⟨h1, h2⟩ | ⟨k, hk, h2, h1, _⟩
  · rw [h1] at hvE
    rw [h2] at HF
    have Hv := Lib.hid hvE
    clear hvE hv h1 h2 hd hdA hdc hR
    unfold ptrV
    go_enter Tryz.func43, Tryz.ntmps43
    go_wp2_with (go_at_call 79; refine HF.out.mono ?_; rintro e w1 ⟨rfl, hb1⟩)
    go_ret
    exact ⟨by rw [Hv.out]; rfl, hb1⟩
  · rw [h1] at hvE
    rw [h2] at HF
    have Hv := Lib.hid hvE
    obtain ⟨b, o, rfl, hbB, hcell⟩ := rdK_at nmCs_len hd hk rfl (by decide)
    obtain ⟨nd, hnd⟩ : ∃ x, x = s.dir[k].2 := ⟨_, rfl⟩
    have g1 := hcell w (Below.refl _ _) 1 (.int .i64 (nd : Int)) (by rw [hnd]; rfl)
    rw [← hnd] at Hv
    obtain ⟨ln, hln⟩ : ∃ x, x = s.dir.length := ⟨_, rfl⟩
    rw [← hln] at q8 HF hk hl
    clear hvE hv h1 h2 hd hdc hdA hR hcell hnd hln
    have hki : (k : Int) < (ln : Int) := by omega
    unfold ptrV
    go_enter Tryz.func43, Tryz.ntmps43
    go_wp2_with (go_at_call 79; refine HF.out.mono ?_; rintro e w1 ⟨rfl, hb1⟩; have q8' := (hb1.cell (p := ⟨rb, 8, none⟩) hrb).trans q8; have g1' := (hb1.cell (p := ⟨b, o + k * 2 + 1, none⟩) hbB).trans g1)
    go_ret
    exact ⟨by rw [Hv.out]; rfl, hb1⟩
/-- What the next number leaves. -/
def RkP (w : World) (ab : Nat) (l : List Int) (i : Nat) (e : Ending) (w' : World) : Prop := e = .returned (.int .i64 (keepAt l i)) ∧ Bk w' ab 3 #[.int .i64 (adv l i : Nat)] ∧ KbP (fun b => b = ab) w w'
set_option maxRecDepth 40000 in
set_option maxHeartbeats 800000 in
theorem c_rKeep (w : World) {fb ab cK i : Nat} {AK : Option Addr} {l : List Int} (q2 : w.cell? ⟨fb, 1, none⟩ = some (.slice AK l.length cK)) (hr : Rd w w.heap.size AK l.length (ics l)) (hA : Bk w ab 3 #[.int .i64 (i : Int)]) (hi : i ≤ 2199023255552) (hl : l.length ≤ 1099511627776) :
    Calls Tryz.prog 95 #[ptrV fb, .pointer (some ⟨ab, 0, none⟩)] w (RkP w ab l i) := by
  have qa := hA.cell 0
  have za := hA.frz 0
  obtain ⟨n, hn⟩ : ∃ n, n = l.length := ⟨_, rfl⟩
  unfold ptrV
  by_cases h0 : n = 0
  · have hk : keepAt l i = 0 := by rw [keepAt, if_pos (by omega)]
    have ha : adv l i = i := by rw [adv, if_pos (by omega)]
    have Hk := Lib.hid hk
    have Ha := Lib.hid ha
    rw [← hn, h0] at q2
    clear hr hk ha hn h0
    go_enter Tryz.func95, Tryz.ntmps95
    go_wp2
    go_ret
    exact ⟨by rw [Hk.out]; rfl, by rw [Ha.out]; exact hA, KbP.refl _ _⟩
  · have hk := keepAt_of (l := l) (by omega) i
    have ha : adv l i = i + 1 := by rw [adv, if_neg (by omega)]
    have hlt : i % n < n := Nat.mod_lt _ (by omega)
    obtain ⟨r, hrr⟩ : ∃ r, r = i % n := ⟨_, rfl⟩
    rw [← hn, ← hrr] at hk
    rw [← hrr] at hlt
    obtain ⟨b, o, rfl, _, qe⟩ := hr.int (k := r) (by omega)
    have hm : (i : Int) % (n : Int) = (r : Int) := by rw [hrr, Int.natCast_emod]
    have hz : ((n : Int) == 0) = false := by rw [beq_eq_false_iff_ne]; omega
    rw [← hk] at qe
    obtain ⟨kv, hkv⟩ : ∃ kv, kv = keepAt l i := ⟨_, rfl⟩
    rw [← hkv] at qe
    have Hkv := Lib.hid hkv
    have Ha := Lib.hid ha
    rw [← hn] at q2
    have i1 : (0 : Int) ≤ (r : Int) := by omega
    have i2 : (r : Int) < (n : Int) := by omega
    clear hr hk ha hn hrr hkv
    go_enter Tryz.func95, Tryz.ntmps95
    go_wp2
    go_quiet (fail)
    go_wp2
    go_ret
    exact ⟨by rw [← Hkv.out]; rfl, by rw [Ha.out]; exact (hA.drewN _).set_ 0 _, ((KbP.refl (fun b => b = ab) w).drewN _).setCell (p := ⟨ab, 0, none⟩) (.inl rfl) _⟩
set_option maxRecDepth 40000 in
set_option maxHeartbeats 800000 in
theorem c_rFull (w : World) {Y J : Nat → Prop} {rb : Nat} {s : St} (h : RfP Y J w rb s) (hp : s.pl.ok) :
    Calls Tryz.prog 83 #[ptrV rb] w fun e w' => e = .returned (.bool (full s)) ∧ Below w.heap.size w w' := by
  obtain ⟨R, hR⟩ := h
  have q3 : w.cell? ⟨rb, 3, none⟩ = some (.slice R.AU s.pl.full.length R.cU) := hR.bk.cell 3
  have q5 : w.cell? ⟨rb, 5, none⟩ = some (.int .i64 (s.cnt : Int)) := hR.bk.cell 5
  have HH := Lib.hid (c_has w.drew (c := R.cU) (s.cnt : Int) hR.ru.rd.drew (Nat.le_refl _) hp.2.2.1)
  obtain ⟨v, hv⟩ : ∃ v, v = full s := ⟨_, rfl⟩
  rw [show s.pl.full.contains (s.cnt : Int) = v from hv.symm] at HH
  rw [← hv]
  clear hR hv
  have hHeld : (fun W : World => W.cell? ⟨rb, 3, none⟩ = some (.slice R.AU s.pl.full.length R.cU) ∧ W.cell? ⟨rb, 5, none⟩ = some (.int .i64 (s.cnt : Int))) w.drew := ⟨q3, q5⟩
  unfold ptrV
  go_enter Tryz.func83, Tryz.ntmps83
  go_wp2
  refine wp_region_held (S := fun W : World => W.cell? ⟨rb, 3, none⟩ = some (.slice R.AU s.pl.full.length R.cU) ∧ W.cell? ⟨rb, 5, none⟩ = some (.int .i64 (s.cnt : Int))) (by kernel_rfl) ?_
  simp only [List.size_toArray, List.length_cons, List.length_nil, Nat.reduceAdd]
  refine heldTake (i := 0) (v := ?_) rfl (by kernel_rfl) (by kernel_rfl) (by kernel_rfl) (fun _ _ _ h => h) hHeld (by rfl) ?_ ?_
  rotate_left
  · (intro w hSw; (try dsimp only at hSw); go_simp; try with_reducible rfl)
  try simp only [Act.put, List.setIfInBounds_toArray, List.set_cons_zero, List.set_cons_succ]
  refine heldTake (i := 1) (v := ?_) rfl (by kernel_rfl) (by kernel_rfl) (by kernel_rfl) (fun _ _ _ h => h) hHeld (by rfl) ?_ ?_
  rotate_left
  · (intro w hSw; (try dsimp only at hSw); go_simp; try with_reducible rfl)
  try simp only [Act.put, List.setIfInBounds_toArray, List.set_cons_zero, List.set_cons_succ]
  refine heldTake (i := 2) (v := ?_) rfl (by kernel_rfl) (by kernel_rfl) (by kernel_rfl) (fun _ _ _ h => h) hHeld (by rfl) ?_ ?_
  rotate_left
  · (intro w hSw; (try dsimp only at hSw); go_simp; try with_reducible rfl)
  try simp only [Act.put, List.setIfInBounds_toArray, List.set_cons_zero, List.set_cons_succ]
  refine heldTake (i := 3) (v := ?_) rfl (by kernel_rfl) (by kernel_rfl) (by kernel_rfl) (fun _ _ _ h => h) hHeld (by rfl) ?_ ?_
  rotate_left
  · (intro w hSw; (try dsimp only at hSw); go_simp; try with_reducible rfl)
  try simp only [Act.put, List.setIfInBounds_toArray, List.set_cons_zero, List.set_cons_succ]
  refine heldTake (i := 4) (v := ?_) rfl (by kernel_rfl) (by kernel_rfl) (by kernel_rfl) (fun _ _ _ h => h) hHeld (by rfl) ?_ ?_
  rotate_left
  · (intro w hSw; (try dsimp only at hSw); go_simp; try with_reducible rfl)
  try simp only [Act.put, List.setIfInBounds_toArray, List.set_cons_zero, List.set_cons_succ]
  refine heldTake (i := 5) (v := ?_) rfl (by kernel_rfl) (by kernel_rfl) (by kernel_rfl) (fun _ _ _ h => h) hHeld (by rfl) ?_ ?_
  rotate_left
  · (intro w hSw; (try dsimp only at hSw); go_simp; try with_reducible rfl)
  try simp only [Act.put, List.setIfInBounds_toArray, List.set_cons_zero, List.set_cons_succ]
  refine heldTake (i := 6) (v := ?_) rfl (by kernel_rfl) (by kernel_rfl) (by kernel_rfl) (fun _ _ _ h => h) hHeld (by rfl) ?_ ?_
  rotate_left
  · (intro w hSw; (try dsimp only at hSw); go_simp; try with_reducible rfl)
  try simp only [Act.put, List.setIfInBounds_toArray, List.set_cons_zero, List.set_cons_succ]
  refine heldTake (i := 7) (v := ?_) rfl (by kernel_rfl) (by kernel_rfl) (by kernel_rfl) (fun _ _ _ h => h) hHeld (by rfl) ?_ ?_
  rotate_left
  · (intro w hSw; (try dsimp only at hSw); go_simp; try with_reducible rfl)
  try simp only [Act.put, List.setIfInBounds_toArray, List.set_cons_zero, List.set_cons_succ]
  refine heldTake (i := 8) (v := ?_) rfl (by kernel_rfl) (by kernel_rfl) (by kernel_rfl) (fun _ _ _ h => h) hHeld (by rfl) ?_ ?_
  rotate_left
  · (intro w hSw; (try dsimp only at hSw); go_simp; try with_reducible rfl)
  try simp only [Act.put, List.setIfInBounds_toArray, List.set_cons_zero, List.set_cons_succ]
  refine heldStep (i := 9) rfl (by kernel_rfl) (fun K hK => ?_)
  go_simp
  go_at_call 93
  refine HH.out.mono ?_
  rintro e w1 ⟨rfl, rfl⟩
  refine hK.out _ _ (hHeld) (fun hHeld => ?_)
  clear hK K
  try simp only [Act.put, List.setIfInBounds_toArray, List.set_cons_zero, List.set_cons_succ]
  refine heldTake (i := 10) (v := ?_) rfl (by kernel_rfl) (by kernel_rfl) (by kernel_rfl) (fun _ _ _ h => h) hHeld (by rfl) ?_ ?_
  rotate_left
  · (intro w hSw; (try dsimp only at hSw); go_simp; try with_reducible rfl)
  try simp only [Act.put, List.setIfInBounds_toArray, List.set_cons_zero, List.set_cons_succ]
  refine wpAnyH_done (by kernel_rfl) ?_ _
  go_wp2
  go_ret
  exact ⟨rfl, (Below.refl _ _).drew⟩
/-- What New answers: the document's file system, in new memory. -/
def RnewP (w : World) (s : St) (e : Ending) (w' : World) : Prop :=
  ∃ rb Y J, e = .returned (ptrV rb) ∧ RfP Y J w' rb s ∧ (∀ b, Y b → w.heap.size ≤ b) ∧ (∀ b, J b → w.heap.size ≤ b) ∧ Below w.heap.size w w'
set_option maxRecDepth 40000 in
set_option maxHeartbeats 1600000 in
theorem c_rNew (w : World) {I : Nat → Prop} {p : Pl} {AK AF AU : Option Addr} {cK cF cU : Nat} (h : PlOk I w p AK cK AF cF AU cU) (n1 : p.keep.length ≤ 1099511627776) (n2 : p.fail.length ≤ 1099511627776) (n3 : p.full.length ≤ 1099511627776) :
    Calls Tryz.prog 25 #[plV p AK cK AF cF AU cU] w (RnewP w (new p)) := by
  have hb0 := (Below.refl w.heap.size w).alloc (Nat.le_refl _) (.cells #[.int .i64 p.crash, .slice AK p.keep.length cK, .slice AF p.fail.length cF, .slice AU p.full.length cU, .int .i64 p.room] 24)
  have hl : ∀ {A : Option Addr} {l : List Int}, RdP I w A l.length (ics l) → RdP (fun _ => True) (w.alloc (.cells #[.int .i64 p.crash, .slice AK p.keep.length cK, .slice AF p.fail.length cF, .slice AU p.full.length cU, .int .i64 p.room] 24)) A l.length (ics l) := fun h => (RdP.below h hb0).more (fun _ _ => trivial)
  have h0 : PlOk (fun _ => True) (w.alloc (.cells #[.int .i64 p.crash, .slice AK p.keep.length cK, .slice AF p.fail.length cF, .slice AU p.full.length cU, .int .i64 p.room] 24)) p AK cK AF cF AU cU := ⟨hl h.rk, hl h.rf, hl h.ru, h.nk, h.nf, h.nu⟩
  have HT := Lib.hid (c_rPlan _ h0 n1 n2 n3)
  clear h h0 hl n1 n2 n3
  unfold plV at HT ⊢
  go_enter Tryz.func25, Tryz.ntmps25
  go_wp2_with (first | (go_at_call 45; (with_reducible refine HT.out.mono ?_); rintro e w1 ⟨A1, c1, A2, c2, A3, c3, rfl, hP, hb1⟩; unfold plV))
  have hz : w.heap.size < w1.heap.size := by have := hb1.size; simp at this; omega
  have hbw := hb0.trans (hb1.mono hb0.size)
  have hlie : ∀ b, (w.alloc (.cells #[.int .i64 p.crash, .slice AK p.keep.length cK, .slice AF p.fail.length cF, .slice AU p.full.length cU, .int .i64 p.room] 24)).heap.size ≤ b → w.heap.size ≤ b := fun b h => by simp at h; omega
  have hB2 := (Below.refl w1.heap.size w1).alloc (Nat.le_refl _) (.cells (rfCs (new p) ⟨A1, c1, A2, c2, A3, c3, .slice none 0 0, [], none, 0, none, 0, .slice none 0 0⟩) 95)
  have HB := Bk.new_ w1 95 (rfCs (new p) ⟨A1, c1, A2, c2, A3, c3, .slice none 0 0, [], none, 0, none, 0, .slice none 0 0⟩)
  go_ret
  have lie : ∀ {A : Option Addr} {l : List Int}, RdP (fun b => (w.alloc (.cells #[.int .i64 p.crash, .slice AK p.keep.length cK, .slice AF p.fail.length cF, .slice AU p.full.length cU, .int .i64 p.room] 24)).heap.size ≤ b) w1 A l.length (ics l) → RdP (fun b => w.heap.size ≤ b ∧ b < w1.heap.size) (w1.alloc (.cells (rfCs (new p) ⟨A1, c1, A2, c2, A3, c3, .slice none 0 0, [], none, 0, none, 0, .slice none 0 0⟩) 95)) A l.length (ics l) := fun h => by
    have h1 : RdP (fun b => w.heap.size ≤ b ∧ b < w1.heap.size) w1 _ _ _ := ⟨h.rd, fun hn q e => ⟨hlie _ (h.lie hn q e), h.lt hn q e⟩⟩
    exact RdP.below h1 hB2
  refine ⟨w1.heap.size, fun b => b = w1.heap.size, fun b => w.heap.size ≤ b ∧ b < w1.heap.size, rfl, ⟨⟨A1, c1, A2, c2, A3, c3, .slice none 0 0, [], none, 0, none, 0, .slice none 0 0⟩, ?_⟩, fun b hb => by omega, fun b hb => hb.1, hbw.trans (hB2.mono (by omega))⟩
  exact ⟨HB, lie hP.rk, lie hP.rf, lie hP.ru, hP.nk, hP.nf, hP.nu, OwnK.nil_ _ _ _ _, rfl, (fun x hx => by cases hx), RdKP.nil_, RdKP.nil_, OwnK.nil_ _ _ _ _, rfl, (fun g h => by cases h), (fun g h => by cases h), (fun b h1 h2 => by omega), (fun b h => by simp; omega)⟩
end Go.Proofs.YtaanmnplfppdeaaGreat
/- Layer 1: the document's file system: a file's bytes: the walk of data. -/
namespace Go.Fsy
theorem fits_drop : ∀ (k : Nat) (l : List Ch) (b : Bs), fits b l → fits (dataOf b (l.take k)) (l.drop k)
  | 0, l, b, h => by simpa [dataOf] using h
  | k + 1, [], b, h => by simpa [dataOf] using h
  | k + 1, .add c :: l, b, h => by
    have := fits_drop k l (b ++ c) h.2
    simpa [dataOf, Ch.lay] using this
  | k + 1, .cut n :: l, b, h => by
    have := fits_drop k l (b.take n) h.2.2
    simpa [dataOf, Ch.lay] using this
end Go.Fsy
namespace Go.Proofs.YtaanmnplfppdeaaGreat
open Go.RowKit Go.Lec Go.Fsy Go.Op Go.Maps
set_option maxRecDepth 40000 in
set_option maxHeartbeats 1600000 in
theorem c_rData (w : World) {J : Nat → Prop} {x : NR} (hx : x.ok J w) (hf : fits x.sf (x.L.map CR.ch)) (hl : x.L.length ≤ 1073741824) :
    Calls Tryz.prog 44 #[.agg x.cs.toArray] w (TwB w x.nd.data) := by
  have hb0 := (Below.refl w.heap.size w).alloc (Nat.le_refl _) (.cells #[.slice x.A x.sf.length x.c, .slice x.A2 x.L.length x.c2] 99)
  have hB0 := Bk.new_ w 99 #[.slice x.A x.sf.length x.c, .slice x.A2 x.L.length x.c2]
  have hx0 := hx.below hb0
  have hsl := fits_head hf
  have HT := Lib.hid (c_rTwin _ (c := x.c) hx0.sf.rd (by omega))
  unfold TwB at HT
  have HX := Lib.hid (fun (W : World) (hb : Below w.heap.size w W) => hx.below hb)
  have Hf := Lib.hid (fun k => fits_drop k _ _ hf)
  obtain ⟨R, hR⟩ : ∃ R, R = x.nd.data := ⟨_, rfl⟩
  have HR := Lib.hid (show R = dataOf x.sf (x.L.map CR.ch) from hR)
  rw [← hR]
  have q0 := hB0.cell
  have lb := hB0.lt
  obtain ⟨sl, hsl'⟩ : ∃ z, z = x.sf.length := ⟨_, rfl⟩
  obtain ⟨ln, hln⟩ : ∃ z, z = x.L.length := ⟨_, rfl⟩
  have Hln := Lib.hid hln
  have Hb0 := Lib.hid hb0
  show Calls _ _ #[.agg #[.slice x.A x.sf.length x.c, .slice x.A2 x.L.length x.c2]] w _
  rw [← hsl', ← hln] at HT q0 Hb0 ⊢
  rw [← hln] at hl
  clear hx hx0 hf hR hsl hB0 hsl' hln hb0
  go_enter Tryz.func44, Tryz.ntmps44
  go_wp2_with (go_at_call 80; refine HT.out.mono ?_; rintro e w1 ⟨A1, c1, rfl, hc1, ho1, hb1⟩; have q1 : w1.cell? ⟨w.heap.size, 1, none⟩ = some (.slice x.A2 ln x.c2) := (hb1.cell (p := ⟨w.heap.size, 1, none⟩) (by simp)).trans (q0 1))
  have hbw1 : Below w.heap.size w w1 := Hb0.out.trans (hb1.mono Hb0.out.size)
  have ho1' := ho1.mono Hb0.out.size
  go_loopw [3, 12] (fun v i wr => ∃ k : Nat, k ≤ ln ∧ i = .int .i64 (k : Int) ∧ Lec.Own wr w.heap.size 5 v (bcs (dataOf x.sf ((x.L.take k).map CR.ch))) ∧ Below w.heap.size w wr) (fun _ i _ => ln - (intOf i).toNat)
  case atStart => exact ⟨0, Nat.zero_le _, rfl, ho1', hbw1⟩
  case round =>
    obtain ⟨k, hk, rfl, ho, hb⟩ := hrel
    clear HT q0 ho1 ho1' q1 hb1 hbw1
    by_cases hlt : k < ln
    · have hkL : k < x.L.length := by have := Hln.out; omega
      have hxr := HX.out wr hb
      obtain ⟨b, o, hA2, hbB, hcell⟩ := rdK_at CR.cs_len hxr.ch.rd hkL rfl (by decide)
      have hfk := Hf.out k
      have hdr : (x.L.map CR.ch).drop k = x.L[k].ch :: (x.L.map CR.ch).drop (k + 1) := by
        rw [List.drop_eq_getElem_cons (by simpa using hkL)]; simp
      have htk : (x.L.take (k + 1)).map CR.ch = (x.L.take k).map CR.ch ++ [x.L[k].ch] := by rw [List.take_succ_eq_append_getElem hkL, List.map_append]; rfl
      rw [hdr, ← List.map_take] at hfk
      have hok := hxr.all _ (List.getElem_mem hkL)
      have hds := dataOf_snoc x.sf ((x.L.take k).map CR.ch) x.L[k].ch
      rw [← htk] at hds
      have hhd := fits_head hfk
      obtain ⟨D, hD⟩ : ∃ D, D = dataOf x.sf ((x.L.take k).map CR.ch) := ⟨_, rfl⟩
      rw [← hD] at hds hfk ho hhd
      obtain ⟨As, cs, rfl, hcs⟩ := ho.shapeN (n := D.length) (bcs_length D)
      have hbs := hb.size
      have hcl := hcell wr (Below.refl _ _)
      have hDl := bcs_length D
      obtain ⟨dl, hdl⟩ : ∃ z, z = D.length := ⟨_, rfl⟩
      rw [← hdl] at hDl hhd hcs ho ⊢
      have Hdl := Lib.hid hdl
      have HDl := Lib.hid hDl
      have Hds := Lib.hid hds
      cases hch : x.L[k].ch with
      | add d =>
        have hcs' : x.L[k].cs = [.bool false, .int .i64 0, .slice x.L[k].A d.length x.L[k].c] := by unfold CR.cs; rw [hch]
        rw [hcs'] at hcl
        have g0 : wr.cell? ⟨b, o + k * 3, none⟩ = some (.bool false) := hcl 0 _ rfl
        have g1 : wr.cell? ⟨b, o + k * 3 + 1, none⟩ = some (.int .i64 0) := hcl 1 _ rfl
        have g2 : wr.cell? ⟨b, o + k * 3 + 2, none⟩ = some (.slice x.L[k].A d.length x.L[k].c) := hcl 2 _ rfl
        have hrd := (hok d hch).1.rd
        have hsum : D.length + d.length ≤ 268435456 := by
          have h1 := fits_head (by rw [hch] at hfk; exact hfk.2)
          rw [List.length_append] at h1; exact h1
        rw [← hdl] at hsum
        have HrA := Lib.hid (hrd.alloc (Nat.le_refl _) (.cells #[.bool false, .int .i64 0, .slice x.L[k].A d.length x.L[k].c] 141))
        have HoA := Lib.hid (ho.alloc (.cells #[.bool false, .int .i64 0, .slice x.L[k].A d.length x.L[k].c] 141))
        have hB1 := (Bk.new_ wr 141 #[.bool false, .int .i64 0, .slice x.L[k].A d.length x.L[k].c]).cell
        have Hb1 := Lib.hid (hb.alloc hbs (.cells #[.bool false, .int .i64 0, .slice x.L[k].A d.length x.L[k].c] 141))
        obtain ⟨yA, hyA⟩ : ∃ z, z = x.L[k].A := ⟨_, rfl⟩
        obtain ⟨yc, hyc⟩ : ∃ z, z = x.L[k].c := ⟨_, rfl⟩
        obtain ⟨tl, htl⟩ : ∃ z, z = d.length := ⟨_, rfl⟩
        rw [← hyA, ← hyc, ← htl] at g2 HrA HoA hB1 Hb1
        rw [← htl] at hsum
        rw [hch] at Hds
        clear hcell hcl hcs' hrd hok hxr hfk hds hdr htk hD hdl hDl hch hyA hyc htl ho hb
        rw [hA2]
        clear hA2
        go_wp2_with (first | (at_builtin; (refine wpList_app_sl rfl _ _ rfl slb (by decide) rfl HoA.out Hb1.out Hb1.out.size rfl HrA.out bcs_one (by rw [HDl.out]; omega) ?_); intro v1 w1 ho1 hb2 hs1))
        go_roundw
        case rel => exact ⟨k + 1, by omega, by go_num, by rw [Hds.out]; show Lec.Own w1 _ _ v1 (bcs (D ++ d)); rw [bcs_append]; exact ho1, hb2⟩
        case measure => simp [intOf]; omega
      | cut n =>
        have hcs' : x.L[k].cs = [.bool true, .int .i64 (n : Int), .slice none 0 0] := by unfold CR.cs; rw [hch]
        rw [hcs'] at hcl
        have g0 : wr.cell? ⟨b, o + k * 3, none⟩ = some (.bool true) := hcl 0 _ rfl
        have g1 : wr.cell? ⟨b, o + k * 3 + 1, none⟩ = some (.int .i64 (n : Int)) := hcl 1 _ rfl
        have g2 : wr.cell? ⟨b, o + k * 3 + 2, none⟩ = some (.slice none 0 0) := hcl 2 _ rfl
        have hnl : n ≤ dl := by rw [hch] at hfk; rw [hdl]; exact hfk.2.1
        have hB1 := (Bk.new_ wr 141 #[.bool true, .int .i64 (n : Int), .slice none 0 0]).cell
        have Hb1 := Lib.hid (hb.alloc hbs (.cells #[.bool true, .int .i64 (n : Int), .slice none 0 0] 141))
        have hcut := fun W : World => run_cutH slb As dl cs n (by omega) .i64 (n : Int) rfl W
        have hrt := (ho.alloc (.cells #[.bool true, .int .i64 (n : Int), .slice none 0 0] 141)).rd.take_ hnl
        rw [← bcs_take] at hrt
        have HT2 := Lib.hid (c_rTwin _ (c := cs) hrt (by omega))
        unfold TwB at HT2
        have htkl : (D.take n).length = n := by rw [List.length_take]; omega
        rw [htkl] at HT2
        rw [hch] at Hds
        clear hcell hcl hcs' hok hxr hfk hds hdr htk hD hdl hDl hch hrt ho hb htkl
        rw [hA2]
        clear hA2
        go_wp2_with (first | (go_at_call 80; refine HT2.out.mono ?_; rintro e w1 ⟨A2', c2', rfl, hc2', ho2, hb2⟩))
        have hb3 := Hb1.out.trans (hb2.mono Hb1.out.size)
        have ho3 := ho2.mono Hb1.out.size
        go_roundw
        case rel => exact ⟨k + 1, by omega, by go_num, by rw [Hds.out]; exact ho3, hb3⟩
        case measure => simp [intOf]; omega
    · obtain rfl : k = ln := by omega
      rw [Hln.out, List.take_length, ← HR.out] at ho
      obtain ⟨As, cs, rfl, hcs⟩ := ho.shapeN (n := R.length) (bcs_length R)
      go_wp2
      go_ret
      exact ⟨As, cs, rfl, hcs, ho, hb⟩
end Go.Proofs.YtaanmnplfppdeaaGreat
/- Layer 1: the document's file system: names in order: the walk of names. -/
namespace Go.Fsy
open Go.Sort
/-- Whether a text stands behind another. -/
def gtB (x y : Bs) : Bool := !(Op.bytesLess x y || x == y)
theorem gtB_false {x y : Bs} (h : gtB x y = false) : leB x y = true := by
  unfold gtB at h
  rw [Go.Proofs.bytesLess_eq] at h
  unfold leB
  simp only [Bool.not_eq_false', Bool.or_eq_true, decide_eq_true_eq, beq_iff_eq] at h ⊢
  rcases h with h | h
  · exact Std.le_of_lt h
  · rw [h]; exact Std.le_refl _
theorem gtB_true {x y : Bs} (h : gtB x y = true) : leB y x = true := by
  unfold gtB at h
  rw [Go.Proofs.bytesLess_eq] at h
  unfold leB
  simp only [Bool.not_eq_true', Bool.or_eq_false_iff, decide_eq_false_iff_not, beq_eq_false_iff_ne] at h ⊢
  exact decide_eq_true (Std.not_lt.1 h.1)
theorem leB_trans {x y z : Bs} (h : leB x y = true) (k : leB y z = true) : leB x z = true := by
  unfold leB at *
  simp only [decide_eq_true_eq] at *
  exact Std.le_trans h k
def sortedB (l : List Bs) : Prop := l.Pairwise fun a b => leB a b = true
theorem namesOf_of {l : Dir} {out : List Bs} (hs : sortedB out) (hp : out.Perm (l.map (·.1))) : out = namesOf l := by
  have h1 : out.mergeSort (fun x y => decide (x ≤ y)) = (l.map (·.1)).mergeSort (fun x y => decide (x ≤ y)) := mergeSort_of_perm hp
  have h2 : out.mergeSort (fun x y => decide (x ≤ y)) = out := List.mergeSort_of_pairwise hs
  rw [h2] at h1
  exact h1
/-- Where a text is put in. -/
def putAt (S : List Bs) (x : Bs) (k : Nat) : List Bs := S.take k ++ x :: S.drop k
theorem putAt_len {S : List Bs} {x : Bs} {k : Nat} (h : k ≤ S.length) : (putAt S x k).length = S.length + 1 := by simp [putAt]; omega
theorem putAt_end (S : List Bs) (x : Bs) : putAt S x S.length = S ++ [x] := by simp [putAt]
theorem putAt_perm (S : List Bs) (x : Bs) (k : Nat) : (putAt S x k).Perm (S ++ [x]) := by
  unfold putAt
  refine (List.perm_middle).trans ?_
  rw [List.take_append_drop]
  exact (List.perm_append_singleton x S).symm
theorem putAt_at {S : List Bs} {x : Bs} {k : Nat} (h : k ≤ S.length) : (putAt S x k)[k]? = some x := by
  unfold putAt
  rw [List.getElem?_append_right (by rw [List.length_take]; omega)]
  simp [Nat.min_eq_left h]
theorem putAt_before {S : List Bs} {x : Bs} {k : Nat} (h : k < S.length) : (putAt S x (k + 1))[k]? = some S[k] := by
  unfold putAt
  rw [List.getElem?_append_left (by simp; omega)]
  simp [h]
theorem putAt_swap {S : List Bs} {x : Bs} {k : Nat} (h : k < S.length) : ((putAt S x (k + 1)).set k x).set (k + 1) S[k] = putAt S x k := by
  apply List.ext_getElem?
  intro i
  have h1 : k < (putAt S x (k + 1)).length := by rw [putAt_len (by omega)]; omega
  have h2 : k + 1 < (putAt S x (k + 1)).length := by rw [putAt_len (by omega)]; omega
  rcases Nat.lt_trichotomy i k with hi | rfl | hi
  · rw [List.getElem?_set_ne (by omega), List.getElem?_set_ne (by omega)]
    unfold putAt
    rw [List.getElem?_append_left (by simp; omega), List.getElem?_append_left (by simp; omega)]
    simp [show i < k + 1 by omega, hi]
  · rw [List.getElem?_set_ne (by omega), List.getElem?_set_self h1, putAt_at (by omega)]
  · rcases Nat.lt_or_ge (k + 1) i with hi2 | hi2
    · rw [List.getElem?_set_ne (by omega), List.getElem?_set_ne (by omega)]
      unfold putAt
      rw [List.getElem?_append_right (by simp; omega), List.getElem?_append_right (by simp; omega)]
      obtain ⟨j, rfl⟩ : ∃ j, i = k + 2 + j := ⟨i - (k + 2), by omega⟩
      have e1 : k + 2 + j - (S.take (k + 1)).length = j + 1 := by simp; omega
      have e2 : k + 2 + j - (S.take k).length = (j + 1) + 1 := by simp; omega
      rw [e1, e2, List.getElem?_cons_succ, List.getElem?_cons_succ, List.getElem?_drop, List.getElem?_drop]
      congr 1; omega
    · obtain rfl : i = k + 1 := by omega
      rw [List.getElem?_set_self (by rw [List.length_set]; exact h2)]
      unfold putAt
      rw [List.getElem?_append_right (by simp; omega)]
      have e2 : k + 1 - (S.take k).length = 0 + 1 := by simp; omega
      rw [e2, List.getElem?_cons_succ, List.getElem?_drop]
      simp [h]
/-- A text put in at its place. -/
theorem putAt_sorted {S : List Bs} {x : Bs} {k : Nat} (hS : sortedB S) (hk : k ≤ S.length) (hgt : ∀ y ∈ S.drop k, leB x y = true) (hle : k = 0 ∨ ∃ h : k - 1 < S.length, 0 < k ∧ leB S[k - 1] x = true) : sortedB (putAt S x k) := by
  unfold sortedB putAt at *
  have hsp : (S.take k ++ S.drop k).Pairwise fun a b => leB a b = true := by rw [List.take_append_drop]; exact hS
  rw [List.pairwise_append] at hsp
  rw [List.pairwise_append, List.pairwise_cons]
  refine ⟨hsp.1, ⟨hgt, hsp.2.1⟩, fun a ha b hb => ?_⟩
  have hax : leB a x = true := by
    rcases hle with rfl | ⟨h, h0, hl⟩
    · simp at ha
    · obtain ⟨i, hi, rfl⟩ := List.getElem_of_mem ha
      rw [List.length_take] at hi
      rw [List.getElem_take]
      rcases Nat.lt_or_ge i (k - 1) with h1 | h1
      · exact leB_trans (List.pairwise_iff_getElem.1 hS i (k - 1) (by omega) h h1) hl
      · have : i = k - 1 := by omega
        subst this; exact hl
  rcases List.mem_cons.1 hb with rfl | hb
  · exact hax
  · exact leB_trans hax (hgt b hb)
theorem sortedB_nil : sortedB [] := List.Pairwise.nil
end Go.Fsy
namespace Go.Proofs.YtaanmnplfppdeaaGreat
open Go.RowKit Go.Lec Go.Fsy Go.Op Go.Maps
theorem infoStr : (Tryz.prog.info? 9).map (fun i => (i.zero, i.size, i.bytes)) = some (some (.string ⟨#[]⟩), 1, 16) := by kernel_rfl
theorem slstr : SlT Tryz.prog 77 9 (.string ⟨#[]⟩) 16 := ⟨Tryz.underlying77, info_parts infoStr, rfl⟩
theorem svl_one (l : List Bs) : ∀ u ∈ l.map svl, u.oneCell' = true := by
  intro u hu
  obtain ⟨x, _, rfl⟩ := List.mem_map.1 hu
  rfl
theorem below_drewN {w w' : World} {B : Nat} (h : Below B w w') (n : Nat) : Below B w (w'.drewN n) := ⟨h.os, h.tape, h.output, h.size, h.block⟩
theorem own_ptr {w : World} {B n : Nat} {e : TypeId} {v : Value} {xs : List Value} (h : Lec.Own w B e v xs) (hn : xs.length = n + 1) : ∃ g c, v = .slice (some ⟨g, 0, none⟩) (n + 1) c := by
  have h := h
  unfold Lec.Own at h
  rcases h.2 with ⟨rfl, h0⟩ | ⟨g, cap, cur, rfl, _⟩
  · omega
  · exact ⟨g, cap, by rw [hn]⟩
/-- What names answers. -/
def RnmP (w : World) (l : Dir) (e : Ending) (w' : World) : Prop := ∃ A c, e = .returned (.slice A l.length c) ∧ l.length ≤ c ∧ RdP (fun b => w.heap.size ≤ b) w' A l.length ((namesOf l).map svl) ∧ Below w.heap.size w w'
set_option maxRecDepth 40000 in
set_option maxHeartbeats 4000000 in
theorem c_rNames (w : World) {J : Nat → Prop} {A : Option Addr} {c : Nat} {l : Dir} (v0 : Value) (hr : RdKP J w 2 A l.length (l.flatMap nmCs)) (hl : l.length ≤ 1073741824) :
    Calls Tryz.prog 86 #[v0, .slice A l.length c] w (RnmP w l) := by
  obtain ⟨ln, hln⟩ : ∃ x, x = l.length := ⟨_, rfl⟩
  have Hln := Lib.hid hln
  have hrd := hr.rd
  rw [← hln] at hrd hl ⊢
  clear hr hln
  go_enter Tryz.func86, Tryz.ntmps86
  go_wp2
  go_loopw [5, 11] (fun v i wr => ∃ (k : Nat) (S : List Bs), k ≤ ln ∧ i = .int .i64 (k : Int) ∧ sortedB S ∧ S.Perm ((l.take k).map (·.1)) ∧ Lec.Own wr w.heap.size 9 v (S.map svl) ∧ Below w.heap.size w wr) (fun _ i _ => ln - (intOf i).toNat)
  case atStart => exact ⟨0, [], Nat.zero_le _, rfl, sortedB_nil, List.Perm.refl _, Lec.Own.nil_ _ _ _, Below.refl _ _⟩
  case round =>
    obtain ⟨k, S, hk, rfl, hsS, hpS, ho, hb⟩ := hrel
    by_cases hlt : k < ln
    · have hkL : k < l.length := by have := Hln.out; omega
      obtain ⟨b, o, rfl, hbB, hcell⟩ := rdK_at nmCs_len hrd hkL Hln.out.symm (by decide)
      have g0 : wr.cell? ⟨b, o + k * 2, none⟩ = _ := hcell wr hb 0 _ rfl
      have g1 := hcell wr hb 1 _ rfl
      have hSl : S.length = k := by have := hpS.length_eq; simpa [List.length_take, Nat.min_eq_left (Nat.le_of_lt hkL)] using this
      have htk : (l.take (k + 1)).map (·.1) = (l.take k).map (·.1) ++ [l[k].1] := by rw [List.take_succ_eq_append_getElem hkL, List.map_append]; rfl
      have hbs := hb.size
      obtain ⟨As, cs, rfl, hcs⟩ := ho.shapeN (n := k) (by rw [List.length_map, hSl])
      obtain ⟨x, hx⟩ : ∃ x, x = l[k].1 := ⟨_, rfl⟩
      obtain ⟨y, hy⟩ : ∃ x, x = l[k].2 := ⟨_, rfl⟩
      have hxy : l[k] = (x, y) := by rw [hx, hy]
      rw [hxy] at g0 g1
      rw [← hx] at htk
      have hbk := (Bk.new_ wr 139 #[svl x, .int .i64 (y : Int)]).cell
      have Hb1 := Lib.hid (hb.alloc hbs (.cells #[svl x, .int .i64 (y : Int)] 139))
      have HoA := Lib.hid (ho.alloc (.cells #[svl x, .int .i64 (y : Int)] 139))
      have Htk := Lib.hid htk
      have HpS := Lib.hid hpS
      have HsS := Lib.hid hsS
      have HSl := Lib.hid hSl
      have HmS := Lib.hid (show (S.map svl).length = k by rw [List.length_map, hSl])
      unfold svl at *
      clear hcell hx hy hxy htk hpS hsS hSl ho hb
      go_wp2_with (first | (at_builtin; (refine wpList_app_lit rfl _ _ rfl slstr (by decide) rfl HoA.out Hb1.out Hb1.out.size [.string ⟨x.toArray⟩] (by rw [World.size_alloc]; rfl) (by intro u hu; rw [List.mem_singleton.1 hu]; rfl) (by rw [HmS.out, List.length_singleton]; omega) ?_); intro v1 w1 ho1 hb2 hs1; obtain ⟨g, c1, rfl⟩ := own_ptr ho1 (n := k) (by rw [List.length_append, HmS.out]; rfl)))
      have ho2 : Lec.Own w1 w.heap.size 9 (.slice (some ⟨g, 0, none⟩) (k + 1) c1) ((putAt S x k).map svl) := by
        have e : putAt S x k = S ++ [x] := by rw [← HSl.out]; exact putAt_end S x
        rw [e, List.map_append]; exact ho1
      have Ho2 := Lib.hid ho2
      clear ho1 ho2 hbk
      obtain ⟨wo, rfl⟩ : ∃ wo : World, wo = wr := ⟨_, rfl⟩
      go_loopw [8] (fun j wi => ∃ i : Nat, i ≤ k ∧ j = .int .i64 (i : Int) ∧ (∀ y ∈ S.drop i, leB x y = true) ∧ Lec.Own wi w.heap.size 9 (.slice (some ⟨g, 0, none⟩) (k + 1) c1) ((putAt S x i).map svl) ∧ Below w.heap.size w wi) (fun j _ => (intOf j).toNat)
      case atStart => exact ⟨k, Nat.le_refl _, by go_num, (fun y hy => by rw [List.drop_eq_nil_of_le (by rw [HSl.out]; exact Nat.le_refl _)] at hy; cases hy), Ho2.out, hb2⟩
      case round =>
        clear Ho2 hb2
        obtain ⟨i, hi, rfl, hgt, ho, hb⟩ := hrel
        have Hsorted := Lib.hid (fun (hle : i = 0 ∨ ∃ h : i - 1 < S.length, 0 < i ∧ leB S[i - 1] x = true) => putAt_sorted HsS.out (by rw [HSl.out]; exact hi) hgt hle)
        have Hperm := Lib.hid (show (putAt S x i).Perm ((l.take (k + 1)).map (·.1)) from (putAt_perm S x i).trans (by rw [Htk.out]; exact List.Perm.append_right _ HpS.out))
        cases i with
        | zero =>
          have Ho := Lib.hid ho
          clear ho hgt
          go_wp2
          go_quiet (fail)
          go_wp2
          go_roundw
          case rel => exact ⟨k + 1, putAt S x 0, by omega, by go_num, Hsorted.out (by simp), Hperm.out, Ho.out.drewN _, below_drewN hb _⟩
          case measure => simp [intOf]; omega
        | succ j =>
          have hjS : j < S.length := by rw [HSl.out]; omega
          have ca : wr.cell? ⟨g, j, none⟩ = some (svl S[j]) := by
            rw [ho.cellAt j (by omega), List.getElem?_map, putAt_before hjS]; rfl
          have cb : wr.cell? ⟨g, j + 1, none⟩ = some (svl x) := by
            rw [ho.cellAt (j + 1) (by omega), List.getElem?_map, putAt_at (by rw [HSl.out]; omega)]; rfl
          have za := ho.frozenAt j
          have zb := ho.frozenAt (j + 1)
          have Hgt := Lib.hid hgt
          have Ho := Lib.hid ho
          have Hsw := Lib.hid (putAt_swap (x := x) hjS)
          have Hdr := Lib.hid (List.drop_eq_getElem_cons hjS)
          obtain ⟨p, hp⟩ : ∃ p, p = S[j] := ⟨_, rfl⟩
          have Hp := Lib.hid hp
          rw [← hp] at ca Hsw Hdr
          clear hgt ho hp
          unfold svl at *
          have i0 : (0 : Int) ≤ (j : Int) := by omega
          have i1 : (j : Int) < (k : Int) + 1 := by omega
          have i2 : (j : Int) + 1 < (k : Int) + 1 := by omega
          cases hc : gtB p x with
          | false =>
            have hcB : (Op.bytesLess p x || p == x) = true := by unfold gtB at hc; cases h9 : (Op.bytesLess p x || p == x) <;> simp_all
            have Hle := Lib.hid (gtB_false hc)
            clear hc
            go_wp2
            go_quiet (fail)
            go_wp2
            go_roundw
            case rel => exact ⟨k + 1, putAt S x (j + 1), by omega, by go_num, Hsorted.out (.inr ⟨by simpa using hjS, by omega, (by have h := Hp.out; subst h; exact Hle.out)⟩), Hperm.out, Ho.out.drewN _, below_drewN hb _⟩
            case measure => simp [intOf]; omega
          | true =>
            have hcB : (Op.bytesLess p x || p == x) = false := by unfold gtB at hc; cases h9 : (Op.bytesLess p x || p == x) <;> simp_all
            have Hge := Lib.hid (gtB_true hc)
            clear hc
            go_wp2
            go_quiet (fail)
            go_wp2
            go_region
            go_wp2
            go_roundw
            case rel =>
              have hgB := Ho.out.base_.1
              refine ⟨j, by omega, rfl, ?_, ?_, ?_⟩
              · intro y hy
                rw [Hdr.out] at hy
                rcases List.mem_cons.1 hy with rfl | hy
                · exact Hge.out
                · exact Hgt.out y hy
              · rw [← Hsw.out, List.map_set, List.map_set]
                exact ((Ho.out.drewN (nq + 1)).stored j _).stored (j + 1) _
              · exact ((below_drewN hb (nq + 1)).setCell (p := ⟨g, j, none⟩) hgB _).setCell (p := ⟨g, j + 1, none⟩) hgB _
            case measure => simp [intOf]
    · obtain rfl : k = ln := by omega
      rw [Hln.out, List.take_length] at hpS
      have hE := namesOf_of hsS hpS
      have hSl : S.length = l.length := by have := hpS.length_eq; simpa using this
      rw [hE] at ho
      obtain ⟨As, cs, rfl, hcs⟩ := ho.shapeN (n := l.length) (by rw [List.length_map, ← hE, hSl])
      have hR : RdP (fun b => w.heap.size ≤ b) wr As l.length ((namesOf l).map svl) := by
        have h1 : (namesOf l).length = l.length := by rw [← hE]; exact hSl
        unfold Lec.Own at ho
        rw [List.length_map, h1] at ho
        exact RdP.new_ ho
      clear hE ho hpS hsS
      go_wp2
      go_ret
      exact ⟨As, cs, rfl, hcs, hR, hb⟩
end Go.Proofs.YtaanmnplfppdeaaGreat
/- Layer 1: the document's file system: a death: what may turn of it. -/
namespace Go.Fsy
open Go.Lec
theorem nr_len : ∀ L : List NR, (L.flatMap NR.cs).length = L.length * 2
  | [] => rfl
  | x :: L => by rw [List.flatMap_cons, List.length_append, nr_len L, NR.cs_len, List.length_cons]; omega
theorem nr_set : ∀ (L : List NR) (i : Nat) (y : NR), i < L.length → (L.set i y).flatMap NR.cs = ((L.flatMap NR.cs).set (i * 2) (.slice y.A y.sf.length y.c)).set (i * 2 + 1) (.slice y.A2 y.L.length y.c2)
  | [], i, y, h => by simp at h
  | x :: L, 0, y, h => by simp [NR.cs]
  | x :: L, i + 1, y, h => by
    have := nr_set L i y (by simpa using h)
    rw [List.set_cons_succ, List.flatMap_cons, List.flatMap_cons, this]
    rw [show (i + 1) * 2 = i * 2 + 1 + 1 from by omega]
    simp [NR.cs]
end Go.Fsy
namespace Go.Proofs.YtaanmnplfppdeaaGreat
open Go.RowKit Go.Lec Go.Fsy Go.Op Go.Maps
section
variable {Y J J' : Nat → Prop} {w w' : World} {rb : Nat} {s : St} {R : RGeo}
theorem RfG.more (h : RfG Y J w rb s R) (hJ : ∀ b, J b → J' b) (hy : ∀ b, J' b → ¬ Y b) (hlt : ∀ b, J' b → b < w.heap.size) : RfG Y J' w rb s R :=
  ⟨h.bk, h.rk.more hJ, h.rf.more hJ, h.ru.more hJ, h.nk, h.nf, h.nu, h.nodes, h.nl, fun x hx => (h.nok x hx).more hJ, h.dir.more hJ, h.safe.more hJ, h.mvs, h.yrb, h.ynv, h.ymv, hy, fun b hb => hb.elim (fun y => h.lt b (.inl y)) (hlt b)⟩
theorem RfG.rbJ (h : RfG Y J w rb s R) : ∀ b, J b → ¬ b = rb := fun b hb e => h.yj b hb (e ▸ h.yrb)
theorem RfG.rbN (h : RfG Y J w rb s R) : ∀ g, R.nv.ownBlock = some g → ¬ g = rb := fun _ hg e => own_bkK h.nodes h.bk (by decide) (e ▸ hg)
theorem RfG.rbM (h : RfG Y J w rb s R) : ∀ g, R.mv.ownBlock = some g → ¬ g = rb := fun _ hg e => own_bkK h.mvs h.bk (by decide) (e ▸ hg)
/-- Its own row has turned. -/
theorem RfG.turnRb (h : RfG Y J w rb s R) (hk : KbP (fun b => b = rb) w w') (hJ : ∀ b, J b → J' b) (hy : ∀ b, J' b → ¬ Y b) (hlt : ∀ b, J' b → b < w'.heap.size) {d : Bool} {c : Nat} {dr sf : Dir} {ms : List Mv} {dA sA : Option Addr} {dc sc : Nat} {mv : Value}
    (hb : Bk w' rb 95 (rfCs { s with cnt := c, died := d, dir := dr, safe := sf, mvs := ms } { R with dA := dA, dc := dc, sA := sA, sc := sc, mv := mv })) (hd : RdKP J' w' 2 dA dr.length (dr.flatMap nmCs)) (hs : RdKP J' w' 2 sA sf.length (sf.flatMap nmCs))
    (hm : OwnK w' 0 143 4 mv ms.length (ms.flatMap rmCs)) (hmv : ∀ g, mv.ownBlock = some g → Y g) :
    RfG Y J' w' rb { s with cnt := c, died := d, dir := dr, safe := sf, mvs := ms } { R with dA := dA, dc := dc, sA := sA, sc := sc, mv := mv } :=
  ⟨hb, (h.rk.kbP hk h.rbJ).more hJ, (h.rf.kbP hk h.rbJ).more hJ, (h.ru.kbP hk h.rbJ).more hJ, h.nk, h.nf, h.nu, OwnK.kbP h.nodes hk h.rbN, h.nl, fun x hx => ((h.nok x hx).kbP hk h.rbJ).more hJ, hd, hs, hm, h.yrb, h.ynv, hmv, hy,
    fun b hb => hb.elim (fun y => Nat.lt_of_lt_of_le (h.lt b (.inl y)) hk.size) (hlt b)⟩
/-- A node has turned. -/
theorem RfG.turnNd {g i : Nat} {y : NR} (h : RfG Y J w rb s R) (hk : KbP (fun b => b = g) w w') (hg : R.nv.ownBlock = some g) (_hi : i < s.nodes.length) (hO : OwnK w' 0 99 2 R.nv s.nodes.length ((R.NL.set i y).flatMap NR.cs)) (hy : y.ok J w') :
    RfG Y J w' rb { s with nodes := s.nodes.set i y.nd } { R with NL := R.NL.set i y } := by
  have hgY := h.ynv g hg
  have hJg : ∀ b, J b → ¬ b = g := fun b hb e => h.yj b hb (e ▸ hgY)
  refine ⟨h.bk.kbP hk (fun e => h.rbN g hg e.symm), h.rk.kbP hk hJg, h.rf.kbP hk hJg, h.ru.kbP hk hJg, h.nk, h.nf, h.nu, ?_, ?_, ?_, h.dir.kbP hk hJg, h.safe.kbP hk hJg,
    OwnK.kbP h.mvs hk (fun g' hg' e => own_own h.mvs h.nodes (by decide) g' hg' (e ▸ hg)), h.yrb, h.ynv, h.ymv, h.yj, fun b hb => Nat.lt_of_lt_of_le (h.lt b hb) hk.size⟩
  · show OwnK w' 0 _ 2 R.nv (s.nodes.set i y.nd).length _
    rw [List.length_set]; exact hO
  · show (R.NL.set i y).map NR.nd = s.nodes.set i y.nd
    rw [List.map_set, h.nl]
  · intro x hx
    rcases List.mem_or_eq_of_mem_set hx with hx | rfl
    · exact (h.nok x hx).kbP hk hJg
    · exact hy
end
/-- What is read, in the midst: of old, or made since, and not the counter's box. -/
def JN (J : Nat → Prop) (w0 ab n : Nat) : Nat → Prop := fun b => J b ∨ (w0 ≤ b ∧ b ≠ ab ∧ b < n)
/-- The state in the midst of a death. -/
structure RD (Y J : Nat → Prop) (w wr : World) (rb ab : Nat) (s : St) (R : RGeo) (a : Nat) : Prop where
  g : RfG Y (JN J w.heap.size ab wr.heap.size) wr rb s R
  cnt : Bk wr ab 3 #[.int .i64 (a : Int)]
  kb : KbP Y w wr
  lo : w.heap.size ≤ ab
  yl : ∀ b, Y b → b < w.heap.size
  jl : ∀ b, J b → b < w.heap.size ∧ ¬ Y b
section
variable {Y J : Nat → Prop} {w wr w' : World} {rb ab a a' : Nat} {s : St} {R : RGeo}
theorem RD.jy (h : RD Y J w wr rb ab s R a) (n : Nat) : ∀ b, JN J w.heap.size ab n b → ¬ Y b := by
  rintro b (hb | hb) hy
  · exact (h.jl b hb).2 hy
  · have := h.yl b hy; omega
theorem JN.le {w0 n m : Nat} (h : n ≤ m) : ∀ b, JN J w0 ab n b → JN J w0 ab m b := fun _ hb => hb.imp_right fun k => ⟨k.1, k.2.1, Nat.lt_of_lt_of_le k.2.2 h⟩
theorem RD.jlt (h : RD Y J w wr rb ab s R a) {n : Nat} (hn : w.heap.size ≤ n) : ∀ b, JN J w.heap.size ab n b → b < n := by
  rintro b (hb | hb)
  · exact Nat.lt_of_lt_of_le (h.jl b hb).1 hn
  · exact hb.2.2
/-- More has been made; the counter may have turned. -/
theorem RD.kbP (h : RD Y J w wr rb ab s R a) (hk : KbP (fun b => b = ab) wr w') (hc : Bk w' ab 3 #[.int .i64 (a' : Int)]) : RD Y J w w' rb ab s R a' := by
  have hyab : ¬ Y ab := fun hy => by have := h.yl _ hy; have := h.lo; omega
  refine ⟨(h.g.kbP hk (fun b hb e => hyab (e ▸ hb)) ?_).more (JN.le hk.size) (h.jy _) (h.jlt (Nat.le_trans h.kb.size hk.size)), hc, h.kb.trans hk (fun b hb => .inr (by rw [hb]; exact h.lo)), h.lo, h.yl, h.jl⟩
  rintro b (hb | hb) e
  · have := (h.jl b hb).1; have := h.lo; omega
  · exact hb.2.1 e
theorem RD.below (h : RD Y J w wr rb ab s R a) (hb : Below wr.heap.size wr w') : RD Y J w w' rb ab s R a := h.kbP (KbP.of_below hb) (h.cnt.below hb h.cnt.lt)
theorem RD.abrb (h : RD Y J w wr rb ab s R a) : ab ≠ rb := fun e => by have := h.yl _ h.g.yrb; have := h.lo; omega
theorem RD.turn (h : RD Y J w wr rb ab s R a) (hk : KbP (fun b => b = rb) wr w') {d : Bool} {dr sf : Dir} {ms : List Mv} {dA sA : Option Addr} {dc sc : Nat} {mv : Value}
    (hb : Bk w' rb 95 (rfCs { s with died := d, dir := dr, safe := sf, mvs := ms } { R with dA := dA, dc := dc, sA := sA, sc := sc, mv := mv })) (hd : RdKP (JN J w.heap.size ab w'.heap.size) w' 2 dA dr.length (dr.flatMap nmCs)) (hs : RdKP (JN J w.heap.size ab w'.heap.size) w' 2 sA sf.length (sf.flatMap nmCs))
    (hm : OwnK w' 0 143 4 mv ms.length (ms.flatMap rmCs)) (hmv : ∀ g, mv.ownBlock = some g → Y g) :
    RD Y J w w' rb ab { s with died := d, dir := dr, safe := sf, mvs := ms } { R with dA := dA, dc := dc, sA := sA, sc := sc, mv := mv } a :=
  ⟨h.g.turnRb (c := s.cnt) hk (JN.le hk.size) (h.jy _) (h.jlt (Nat.le_trans h.kb.size hk.size)) hb hd hs hm hmv, h.cnt.kbP hk h.abrb, h.kb.trans hk (fun b hb => .inl (by rw [hb]; exact h.g.yrb)), h.lo, h.yl, h.jl⟩
theorem RD.dirK (h : RD Y J w wr rb ab s R a) (hk : KbP (fun b => b = rb) wr w') : RdKP (JN J w.heap.size ab w'.heap.size) w' 2 R.dA s.dir.length (s.dir.flatMap nmCs) := (h.g.dir.kbP hk h.g.rbJ).more (JN.le hk.size)
theorem RD.safeK (h : RD Y J w wr rb ab s R a) (hk : KbP (fun b => b = rb) wr w') : RdKP (JN J w.heap.size ab w'.heap.size) w' 2 R.sA s.safe.length (s.safe.flatMap nmCs) := (h.g.safe.kbP hk h.g.rbJ).more (JN.le hk.size)
theorem RD.mvsK (h : RD Y J w wr rb ab s R a) (hk : KbP (fun b => b = rb) wr w') : OwnK w' 0 143 4 R.mv s.mvs.length (s.mvs.flatMap rmCs) := OwnK.kbP h.g.mvs hk h.g.rbM
theorem RD.newRow (h : RD Y J w wr rb ab s R a) (hk : KbP (fun b => b = rb) wr w') {l : Dir} {A : Option Addr} {c B : Nat} (ho : OwnK wr B 139 2 (.slice A l.length c) l.length (l.flatMap nmCs)) (hB : w.heap.size ≤ B) (hab : ab < B) : RdKP (JN J w.heap.size ab w'.heap.size) w' 2 A l.length (l.flatMap nmCs) :=
  (RdKP.kbP (RdKP.new_ ho) hk (fun b hb e => by have := h.yl _ h.g.yrb; omega)).more fun b hb => .inr ⟨by omega, by omega, Nat.lt_of_lt_of_le hb.2 hk.size⟩
theorem RD.setSafe (h : RD Y J w wr rb ab s R a) {l : Dir} {A : Option Addr} {c B : Nat} (ho : OwnK wr B 139 2 (.slice A l.length c) l.length (l.flatMap nmCs)) (hB : w.heap.size ≤ B) (hab : ab < B) :
    RD Y J w (wr.setCell ⟨rb, 9, none⟩ (.slice A l.length c)) rb ab { s with safe := l } { R with sA := A, sc := c } a :=
  have hk := (KbP.refl (fun b => b = rb) wr).setCell (p := ⟨rb, 9, none⟩) (.inl rfl) (.slice A l.length c)
  h.turn hk (h.g.bk.set_ 9 _) (h.dirK hk) (h.newRow hk ho hB hab) (h.mvsK hk) h.g.ymv
theorem RD.setDir (h : RD Y J w wr rb ab s R a) {l : Dir} {A : Option Addr} {c B : Nat} (ho : OwnK wr B 139 2 (.slice A l.length c) l.length (l.flatMap nmCs)) (hB : w.heap.size ≤ B) (hab : ab < B) :
    RD Y J w (wr.setCell ⟨rb, 8, none⟩ (.slice A l.length c)) rb ab { s with dir := l } { R with dA := A, dc := c } a :=
  have hk := (KbP.refl (fun b => b = rb) wr).setCell (p := ⟨rb, 8, none⟩) (.inl rfl) (.slice A l.length c)
  h.turn hk (h.g.bk.set_ 8 _) (h.newRow hk ho hB hab) (h.safeK hk) (h.mvsK hk) h.g.ymv
theorem RD.noMoves (h : RD Y J w wr rb ab s R a) : RD Y J w (wr.setCell ⟨rb, 10, none⟩ (.slice none 0 0)) rb ab { s with mvs := [] } { R with mv := .slice none 0 0 } a :=
  have hk := (KbP.refl (fun b => b = rb) wr).setCell (p := ⟨rb, 10, none⟩) (.inl rfl) (.slice none 0 0)
  h.turn hk (h.g.bk.set_ 10 _) (h.dirK hk) (h.safeK hk) (OwnK.nil_ _ _ _ _) (fun g hg => by cases hg)
theorem RD.dead (h : RD Y J w wr rb ab s R a) : RD Y J w (wr.setCell ⟨rb, 6, none⟩ (.bool true)) rb ab { s with died := true } R a :=
  have hk := (KbP.refl (fun b => b = rb) wr).setCell (p := ⟨rb, 6, none⟩) (.inl rfl) (.bool true)
  h.turn hk (h.g.bk.set_ 6 _) (h.dirK hk) (h.safeK hk) (h.mvsK hk) h.g.ymv
theorem RD.setNd (h : RD Y J w wr rb ab s R a) {g i c : Nat} {y : NR} (hv : R.nv = .slice (some ⟨g, 0, none⟩) s.nodes.length c) (hi : i < s.nodes.length) (hy : y.ok (JN J w.heap.size ab wr.heap.size) wr) :
    RD Y J w ((wr.setCell ⟨g, i * 2, none⟩ (.slice y.A y.sf.length y.c)).setCell ⟨g, i * 2 + 1, none⟩ (.slice y.A2 y.L.length y.c2)) rb ab { s with nodes := s.nodes.set i y.nd } { R with NL := R.NL.set i y } a := by
  have hg : R.nv.ownBlock = some g := by rw [hv]; rfl
  have hgY := h.g.ynv g hg
  have hk := ((KbP.refl (fun b => b = g) wr).setCell (p := ⟨g, i * 2, none⟩) (.inl rfl) (.slice y.A y.sf.length y.c)).setCell (p := ⟨g, i * 2 + 1, none⟩) (.inl rfl) (.slice y.A2 y.L.length y.c2)
  have hl := h.g.nlen
  have hfl : (R.NL.flatMap NR.cs).length = R.NL.length * 2 := nr_len _
  have hn := h.g.nodes
  have hO : OwnK ((wr.setCell ⟨g, i * 2, none⟩ (.slice y.A y.sf.length y.c)).setCell ⟨g, i * 2 + 1, none⟩ (.slice y.A2 y.L.length y.c2)) 0 99 2 R.nv s.nodes.length ((R.NL.set i y).flatMap NR.cs) := by
    rw [nr_set R.NL i y (by omega)]
    rw [hv] at hn ⊢
    exact OwnK.stored (OwnK.stored hn (i * 2) (by omega) _) (i * 2 + 1) (by rw [List.length_set]; omega) _
  have hg2 := h.g.turnNd hk hg hi hO (hy.kbP hk fun b hb e => h.jy _ b hb (e ▸ hgY))
  refine ⟨?_, h.cnt.kbP hk (fun e => by have := h.yl _ hgY; have := h.lo; omega), h.kb.trans hk (fun b hb => .inl (by rw [hb]; exact hgY)), h.lo, h.yl, h.jl⟩
  simpa using hg2
theorem ownK_ptr {w : World} {B n k : Nat} {e : TypeId} {v : Value} {xs : List Value} (h : OwnK w B e k v n xs) (hn : 0 < n) : ∃ g c, v = .slice (some ⟨g, 0, none⟩) n c ∧ n ≤ c := by
  obtain ⟨A, c, rfl, hc⟩ := h.shape
  have h := h
  unfold OwnK at h
  rcases h.2 with ⟨h1, h0⟩ | ⟨g, cap, cur, h1, _⟩
  · cases h1; omega
  · cases h1; exact ⟨g, _, rfl, hc⟩
end
/-- In the midst of the second loop. -/
def rdSt (s : St) (D : Dir) (nodes : List Nd) : St := { s with safe := D, mvs := [], dir := D, nodes := nodes }
end Go.Proofs.YtaanmnplfppdeaaGreat
