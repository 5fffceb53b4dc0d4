/- Layer 3: sums of bytes, by the table. -/
import Derived.Test.YtgilnjngphhhlaaGreatCrcC
import Derived.Test.YtgilnjngphhhlaaGreatInRound
namespace Go.Lec
open Go.RowKit
theorem low8 (x : BitVec 32) (c : UInt8) : bits .xor .u8 (IntKind.u8.wrap (x.toNat : Int)) (c.toNat : Int) = (((x.toNat % 256) ^^^ c.toNat : Nat) : Int) := by
  have hx : IntKind.u8.wrap (x.toNat : Int) = ((x.toNat % 256 : Nat) : Int) := by simp [IntKind.wrap, IntKind.bits, IntKind.signed]
  rw [hx]
  exact u8_xor_nat _ _ (Nat.mod_lt _ (by decide)) c.toNat_lt
theorem low8_lt (x : BitVec 32) (c : UInt8) : (x.toNat % 256) ^^^ c.toNat < 256 := Nat.xor_lt_two_pow (n := 8) (Nat.mod_lt _ (by decide)) c.toNat_lt
theorem shr8 (x : BitVec 32) : (x.toNat : Int) / (256 : Int) = ((x >>> 8).toNat : Int) := by
  rw [BitVec.toNat_ushiftRight, Nat.shiftRight_eq_div_pow]; omega
end Go.Lec
namespace Go.Proofs.YtgilnjngphhhlaaGreat
open Go.RowKit Go.Lec Go.Shelf
attribute [local go_sem] Oper.semAt_some

theorem TabM.entry {w : World} {b : Nat} (h : TabM w b) {k : Nat} (hk : k < 256) : w.cell? ⟨b, 5 + k, none⟩ = some (.int .u32 ((ctab k).toNat : Int)) := by
  obtain ⟨cs, hB, ht⟩ := h
  exact (hB.cell _).trans (ht.1.2 k hk)
theorem TabM.kept {w w' : World} {b : Nat} {row : Option Nat} (h : TabM w b) (hg : w.grownBy w' row) (hr : ∀ r, row = some r → ∃ o : Obj, w.heap[r]? = some o ∧ o.isCells = false) : TabM w' b := by
  obtain ⟨cs, hB, ht⟩ := h
  exact ⟨cs, hB.kept hg hr, ht⟩
theorem TabM.below {w w' : World} {b B : Nat} (h : TabM w b) (hb : Below B w w') (hB : b < B) : TabM w' b := by obtain ⟨cs, hB', ht⟩ := h; exact ⟨cs, hB'.below hb hB, ht⟩
theorem Tab.is_ {w : World} {b : Nat} (h : Tab w b) : w.cell? ⟨b, 0, none⟩ = some (.int .i64 1) := by
  obtain ⟨cs, hB, ht | ht⟩ := h
  · exact (hB.cell 0).trans ht.2.1
  · exact (hB.cell 0).trans ht.2.1

set_option maxRecDepth 100000 in
set_option maxHeartbeats 600000 in
theorem c_Extend (w : World) (b : Nat) (x : BitVec 32) {B : Nat} {A : Option Addr} {n c : Nat} {l : List UInt8} (hT : Tab w b) (hr : Rd w B A n (bcs l)) (hB : B ≤ w.heap.size) (ha : Apart A b) (hn : n ≤ 1099511627776) :
    Calls Tryz.prog 62 #[.pointer (some ⟨b, 0, none⟩), .int .u32 (x.toNat : Int), .slice A n c] w fun e w' => e = .returned (.int .u32 ((~~~ (crcIn (~~~ x) l)).toNat : Int)) ∧ Kb [b] w w' ∧ Tab w' b ∧ (0 < n → TabM w' b) ∧ (TabM w b → Below w.heap.size w w') := by
  have hln := hr.1
  rw [bcs_length] at hln
  have Hln := Lib.hid hln; clear hln
  have H3 := Bk.new_ w 76 #[.pointer (some ⟨b, 0, none⟩)]
  have hT0 := hT.alloc (.cells #[.pointer (some ⟨b, 0, none⟩)] 76)
  have hK0 : Kb [b] w (w.alloc (.cells #[.pointer (some ⟨b, 0, none⟩)] 76)) := (Kb.refl _ _).alloc _
  have hbl := hT.lt
  have hr0 := hr.alloc hB (.cells #[.pointer (some ⟨b, 0, none⟩)] 76)
  obtain ⟨w0, hw0⟩ : ∃ W, W = w.alloc (.cells #[.pointer (some ⟨b, 0, none⟩)] 76) := ⟨_, rfl⟩
  have hz0 : w0.heap.size = w.heap.size + 1 := by rw [hw0]; simp
  have hM0 : TabM w b → Below w.heap.size w w0 ∧ TabM w0 b := by
    rintro ⟨cs, hB, ht⟩
    rw [hw0]
    exact ⟨(Below.refl _ _).alloc (Nat.le_refl _) _, cs, hB.alloc _, ht⟩
  have HM0 := Lib.hid hM0
  clear hM0
  rw [← hw0] at H3 hT0 hK0 hr0
  have q3 := H3.cell
  have his := hT0.is_
  rw [hw0] at q3 his
  by_cases h0 : n = 0
  · subst h0
    have hl0 : l = [] := List.eq_nil_of_length_eq_zero Hln.out
    subst hl0
    have hv : ~~~ (crcIn (~~~ x) []) = x := by simp [crcIn]
    rw [hv]
    rw [hw0] at hK0 hT0
    clear hv hw0
    go_enter Tryz.func62, Tryz.ntmps62
    go_wp2
    go_ret
    exact ⟨rfl, hK0, hT0, fun h => absurd h (Nat.lt_irrefl _), fun _ => (Below.refl _ _).alloc (Nat.le_refl _) _⟩
  · have hR := Lib.hid (c_ready w0 b hT0)
    have HW0 := Lib.hid hw0
    have hnz : ((n : Int) == 0) = false := by simp; omega
    have hxv := not_val x
    obtain ⟨z, hz⟩ : ∃ z, z = ~~~ x := ⟨_, rfl⟩
    rw [← hz] at hxv ⊢
    clear hz hw0
    obtain ⟨R, hRe⟩ : ∃ R, R = ~~~ (crcIn z l) := ⟨_, rfl⟩
    rw [← hRe]
    have HR := Lib.hid hRe
    clear hRe
    refine (callsIn_wide (n := 5)).1 ?_
    refine callsIn_of_wp_marks Tryz.func62 rfl trivial ?_ rfl
    simp only [Tryz.ntmps62, List.size_toArray, List.length_cons, List.length_nil, Nat.reduceAdd, Nat.reduceSub, Array.replicate_succ, Array.replicate_zero, List.push_toArray, List.append_toArray, List.nil_append, List.cons_append]
    gi_wp2_with (first
      | (refine ⟨trivial, ?_⟩; gi_at_call 69; rw [← HW0.out]; refine (callsIn_wide.2 hR.out).mono ?_; rintro e w1 ⟨rfl, hK1, hT1, hB1⟩; replace hB1 := Lib.hid hB1)
      | (refine ⟨trivial, ?_⟩; gi_at_call 70; refine (callsIn_wide.2 (c_Values _ A n c)).mono ?_; rintro e wL ⟨rfl, rfl⟩))
    clear q3 his HW0 hR h hxv
    have hz1 := hK1.size
    have hKw := hK0.trans hK1 (fun x hx => .inl hx)
    have e3 := H3.kb hK1 (by simp; omega)
    have er := hr0.kb1 hK1 (by omega) ha
    have bX := (Bk.new_ w1 115 #[.int .u32 (z.toNat : Int)]).alloc (.cells #[.slice A n c] 22)
    have bV := Bk.new_ (w1.alloc (.cells #[.int .u32 (z.toNat : Int)] 115)) 22 #[.slice A n c]
    have hbL : Below w1.heap.size w1 ((w1.alloc (.cells #[.int .u32 (z.toNat : Int)] 115)).alloc (.cells #[.slice A n c] 22)) := ((Below.refl _ _).alloc (Nat.le_refl _) _).alloc (by simp) _
    have hzL : ((w1.alloc (.cells #[.int .u32 (z.toNat : Int)] 115)).alloc (.cells #[.slice A n c] 22)).heap.size = w1.heap.size + 2 := by simp
    simp only [World.size_alloc] at bV ⊢
    obtain ⟨wL, hwL⟩ : ∃ W, W = (w1.alloc (.cells #[.int .u32 (z.toNat : Int)] 115)).alloc (.cells #[.slice A n c] 22) := ⟨_, rfl⟩
    rw [← hwL] at bX bV hbL hzL ⊢
    clear hwL
    have hrL := (er.more (by omega)).below hbL (Nat.le_refl _)
    refine wpIn_rangeFunc_ownG (n := 5) rfl (by omega) (gf := 76) (lb := #[.pointer (some ⟨w1.heap.size + 1, 0, none⟩)]) rfl trivial (enters_of Tryz.func76 (by kernel_rfl) rfl)
      (values_stops 4 (by omega) (w1.heap.size + 1) w1.heap.size (B := B) wL bV hrL hn (by omega)) belowK_t (belowK_b (by omega)) (Below.refl _ _) (fun _ => rfl)
      (fun pre W => Bk W w1.heap.size 115 #[.int .u32 ((crcIn z pre).toNat : Int)] ∧ Below w1.heap.size w1 W)
      (fun c pre W => False)
      (fun q X Y row h hg hr => ⟨h.1.kept hg (fun r e => (hr r e).2), h.2.grown hg h.2.size (fun k e => by have := (hr k e).1; omega)⟩)
      (fun c q X Y row h hg hr => h)
      ⟨bX, hbL⟩
      (fun y => { tmps := #[.pointer (some ⟨b, 0, none⟩), .int .u32 (x.toNat : Int), .slice A n c, .pointer (some ⟨w.heap.size, 0, none⟩), undef, undef, .int .u32 0, .pointer (some ⟨w1.heap.size, 0, none⟩), .int .u8 (y.toNat : Int),
        .pointer (some ⟨b, 0, none⟩), .bool false, .bool false, .pointer (some ⟨b, 0, none⟩), .pointer (some ⟨b, 0, none⟩), .pointer (some ⟨b, 0, none⟩), .int .i64 1, .bool false, .bool false, .slice A n c, .int .i64 n, .bool false, undef,
        .pointer (some ⟨b, 0, none⟩), .bool true, .int .u32 (x.toNat : Int), .int .u32 (z.toNat : Int), .slice A n c, .func (.func 76) #[] #[.pointer (some ⟨w1.heap.size + 1, 0, none⟩)], .int .u8 (y.toNat : Int), undef, undef, undef, undef, undef, undef, undef, undef, undef, undef, undef, undef, undef, undef], defers := [] }) ?assign ?body ?done ?stop
    case assign =>
      intro l y W K hK
      gi_wp2
      exact hK
    case body =>
      rintro l' pre y W ⟨h1, hBW⟩ hlen
      have q1 := h1.cell
      have z1 := h1.frz
      have p3 := (e3.below hBW (by omega)).cell
      have hTW := hT1.below hBW (by omega)
      have hx8 := low8 (crcIn z pre) y
      have hl8 := low8_lt (crcIn z pre) y
      have hs8 := shr8 (crcIn z pre)
      have hx9 := xor_val (ctab (((crcIn z pre).toNat % 256) ^^^ y.toNat)) ((crcIn z pre) >>> 8)
      have hnew : crcIn z (pre ++ [y]) = ctab (((crcIn z pre).toNat % 256) ^^^ y.toNat) ^^^ ((crcIn z pre) >>> 8) := by rw [crcIn_snoc, crc_table]
      obtain ⟨q', hq'⟩ : ∃ q', q' = crcIn z (pre ++ [y]) := ⟨_, rfl⟩
      rw [← hq'] at hnew
      have Hq' := Lib.hid hq'
      clear hq'
      generalize crcIn z pre = q at *
      generalize (q.toNat % 256) ^^^ y.toNat = j at *
      have pe := hTW.entry hl8
      generalize ctab j = tj at *
      generalize q >>> 8 = r8 at *
      rw [← hnew] at hx9
      clear hnew
      have hj2 : (j : Int) < 256 := by omega
      have hfin : ∀ W', W' = (W.setCell ⟨w1.heap.size, 0, none⟩ (.int .u32 (q'.toNat : Int))).drew → KeepsFrom wL.heap.size W W' ∧ Below w1.heap.size W W' ∧ (Bk W' w1.heap.size 115 #[.int .u32 ((crcIn z (pre ++ [y])).toNat : Int)] ∧ Below w1.heap.size w1 W') := by
        rintro W' rfl
        rw [← Hq'.out]
        exact ⟨((KeepsOthers.setCell _ _ _).from _).trans ((KeepsOthers.drew _).from _), ((Below.refl _ W).setCell (p := ⟨w1.heap.size, 0, none⟩) (Nat.le_refl _) _).drew, (h1.set_ 0 _).drew, (hBW.setCell (p := ⟨w1.heap.size, 0, none⟩) (Nat.le_refl _) _).drew⟩
      have Hfin := Lib.hid hfin
      clear hfin
      gi_wp2
      refine wpIn_region_roundA (by kernel_rfl) (by kernel_rfl) ?_
      refine wpAny_take (i := 3) (v := ?_) rfl (by kernel_rfl) (by kernel_rfl) (by kernel_rfl) (fun _ _ _ h => h) (Or.inl ⟨by rfl, ?hy⟩) ?rest
      case hy => (intro w; go_simp; try with_reducible rfl)
      case rest =>
       refine wpAny_ready (rs := [0, 1, 9]) (by kernel_rfl) (by simp) ?_
       refine AllReady.cons rfl (fun K hK => ?_) ?_
       · go_simp
         refine hK _ _ ?_
         clear hK K
         refine wpAny_take (i := 5) (v := ?_) rfl (by kernel_rfl) (by kernel_rfl) (by kernel_rfl) (fun _ _ _ h => h) (Or.inl ⟨by rfl, ?hy⟩) ?rest
         case hy => (intro w; go_simp; try with_reducible rfl)
         case rest =>
          refine wpAny_take (i := 6) (v := ?_) rfl (by kernel_rfl) (by kernel_rfl) (by kernel_rfl) (fun _ _ _ h => h) (Or.inl ⟨by rfl, ?hy⟩) ?rest
          case hy => (intro w; go_simp; try with_reducible rfl)
          case rest =>
           refine wpAny_ready (rs := [1, 9]) (by kernel_rfl) (by simp) ?_
           refine AllReady.cons rfl (fun K hK => ?_) ?_
           · go_simp
             refine hK _ _ ?_
             clear hK K
             refine wpAny_take (i := 2) (v := ?_) rfl (by kernel_rfl) (by kernel_rfl) (by kernel_rfl) (fun _ _ _ h => h) (Or.inl ⟨by rfl, ?hy⟩) ?rest
             case hy => (intro w; go_simp; try with_reducible rfl)
             case rest =>
              refine wpAny_take (i := 4) (v := ?_) rfl (by kernel_rfl) (by kernel_rfl) (by kernel_rfl) (fun _ _ _ h => h) (Or.inl ⟨by rfl, ?hy⟩) ?rest
              case hy => (intro w; go_simp; try with_reducible rfl)
              case rest =>
               refine wpAny_take (i := 7) (v := ?_) rfl (by kernel_rfl) (by kernel_rfl) (by kernel_rfl) (fun _ _ _ h => h) (Or.inl ⟨by rfl, ?hy⟩) ?rest
               case hy => (intro w; go_simp; try with_reducible rfl)
               case rest =>
                refine wpAny_ready (rs := [8, 9]) (by kernel_rfl) (by simp) ?_
                refine AllReady.cons rfl (fun K hK => ?_) ?_
                · go_simp
                  refine hK _ _ ?_
                  clear hK K
                  refine wpAny_ready (rs := [9]) (by kernel_rfl) (by simp) ?_
                  refine AllReady.cons rfl (fun K hK => ?_) ?_
                  · go_simp
                    refine hK _ _ ?_
                    clear hK K
                    refine wpAny_take (i := 10) (v := ?_) rfl (by kernel_rfl) (by kernel_rfl) (by kernel_rfl) (fun _ _ _ h => h) (Or.inl ⟨by rfl, ?hy⟩) ?rest
                    case hy => (intro w; go_simp; try with_reducible rfl)
                    case rest =>
                     refine wpAny_take (i := 11) (v := ?_) rfl (by kernel_rfl) (by kernel_rfl) (by kernel_rfl) (fun _ _ _ h => h) (Or.inl ⟨by rfl, ?hy⟩) ?rest
                     case hy => (intro w; go_simp; try with_reducible rfl)
                     case rest =>
                      refine wpAny_ready (rs := [12]) (by kernel_rfl) (by simp) ?_
                      refine AllReady.cons rfl (fun K hK => ?_) ?_
                      · go_simp
                        refine hK _ _ ?_
                        clear hK K
                        refine wpAny_done (by kernel_rfl) ?_ _
                        exact onN_ok (by gi_wp2; exact Hfin.out _ rfl)
                      exact AllReady.nil
                  exact AllReady.nil
                refine AllReady.cons rfl (fun K hK => ?_) ?_
                · go_simp
                  refine hK _ _ ?_
                  clear hK K
                  refine wpAny_take (i := 10) (v := ?_) rfl (by kernel_rfl) (by kernel_rfl) (by kernel_rfl) (fun _ _ _ h => h) (Or.inl ⟨by rfl, ?hy⟩) ?rest
                  case hy => (intro w; go_simp; try with_reducible rfl)
                  case rest =>
                   refine wpAny_ready (rs := [8]) (by kernel_rfl) (by simp) ?_
                   refine AllReady.cons rfl (fun K hK => ?_) ?_
                   · go_simp
                     refine hK _ _ ?_
                     clear hK K
                     refine wpAny_take (i := 11) (v := ?_) rfl (by kernel_rfl) (by kernel_rfl) (by kernel_rfl) (fun _ _ _ h => h) (Or.inl ⟨by rfl, ?hy⟩) ?rest
                     case hy => (intro w; go_simp; try with_reducible rfl)
                     case rest =>
                      refine wpAny_ready (rs := [12]) (by kernel_rfl) (by simp) ?_
                      refine AllReady.cons rfl (fun K hK => ?_) ?_
                      · go_simp
                        refine hK _ _ ?_
                        clear hK K
                        refine wpAny_done (by kernel_rfl) ?_ _
                        exact onN_ok (by gi_wp2; exact Hfin.out _ rfl)
                      exact AllReady.nil
                   exact AllReady.nil
                exact AllReady.nil
           refine AllReady.cons rfl (fun K hK => ?_) ?_
           · go_simp
             refine hK _ _ ?_
             clear hK K
             refine wpAny_take (i := 10) (v := ?_) rfl (by kernel_rfl) (by kernel_rfl) (by kernel_rfl) (fun _ _ _ h => h) (Or.inl ⟨by rfl, ?hy⟩) ?rest
             case hy => (intro w; go_simp; try with_reducible rfl)
             case rest =>
              refine wpAny_ready (rs := [1]) (by kernel_rfl) (by simp) ?_
              refine AllReady.cons rfl (fun K hK => ?_) ?_
              · go_simp
                refine hK _ _ ?_
                clear hK K
                refine wpAny_take (i := 2) (v := ?_) rfl (by kernel_rfl) (by kernel_rfl) (by kernel_rfl) (fun _ _ _ h => h) (Or.inl ⟨by rfl, ?hy⟩) ?rest
                case hy => (intro w; go_simp; try with_reducible rfl)
                case rest =>
                 refine wpAny_take (i := 4) (v := ?_) rfl (by kernel_rfl) (by kernel_rfl) (by kernel_rfl) (fun _ _ _ h => h) (Or.inl ⟨by rfl, ?hy⟩) ?rest
                 case hy => (intro w; go_simp; try with_reducible rfl)
                 case rest =>
                  refine wpAny_take (i := 7) (v := ?_) rfl (by kernel_rfl) (by kernel_rfl) (by kernel_rfl) (fun _ _ _ h => h) (Or.inl ⟨by rfl, ?hy⟩) ?rest
                  case hy => (intro w; go_simp; try with_reducible rfl)
                  case rest =>
                   refine wpAny_ready (rs := [8]) (by kernel_rfl) (by simp) ?_
                   refine AllReady.cons rfl (fun K hK => ?_) ?_
                   · go_simp
                     refine hK _ _ ?_
                     clear hK K
                     refine wpAny_take (i := 11) (v := ?_) rfl (by kernel_rfl) (by kernel_rfl) (by kernel_rfl) (fun _ _ _ h => h) (Or.inl ⟨by rfl, ?hy⟩) ?rest
                     case hy => (intro w; go_simp; try with_reducible rfl)
                     case rest =>
                      refine wpAny_ready (rs := [12]) (by kernel_rfl) (by simp) ?_
                      refine AllReady.cons rfl (fun K hK => ?_) ?_
                      · go_simp
                        refine hK _ _ ?_
                        clear hK K
                        refine wpAny_done (by kernel_rfl) ?_ _
                        exact onN_ok (by gi_wp2; exact Hfin.out _ rfl)
                      exact AllReady.nil
                   exact AllReady.nil
              exact AllReady.nil
           exact AllReady.nil
       refine AllReady.cons rfl (fun K hK => ?_) ?_
       · go_simp
         refine hK _ _ ?_
         clear hK K
         refine wpAny_take (i := 2) (v := ?_) rfl (by kernel_rfl) (by kernel_rfl) (by kernel_rfl) (fun _ _ _ h => h) (Or.inl ⟨by rfl, ?hy⟩) ?rest
         case hy => (intro w; go_simp; try with_reducible rfl)
         case rest =>
          refine wpAny_take (i := 4) (v := ?_) rfl (by kernel_rfl) (by kernel_rfl) (by kernel_rfl) (fun _ _ _ h => h) (Or.inl ⟨by rfl, ?hy⟩) ?rest
          case hy => (intro w; go_simp; try with_reducible rfl)
          case rest =>
           refine wpAny_ready (rs := [0, 9]) (by kernel_rfl) (by simp) ?_
           refine AllReady.cons rfl (fun K hK => ?_) ?_
           · go_simp
             refine hK _ _ ?_
             clear hK K
             refine wpAny_take (i := 5) (v := ?_) rfl (by kernel_rfl) (by kernel_rfl) (by kernel_rfl) (fun _ _ _ h => h) (Or.inl ⟨by rfl, ?hy⟩) ?rest
             case hy => (intro w; go_simp; try with_reducible rfl)
             case rest =>
              refine wpAny_take (i := 6) (v := ?_) rfl (by kernel_rfl) (by kernel_rfl) (by kernel_rfl) (fun _ _ _ h => h) (Or.inl ⟨by rfl, ?hy⟩) ?rest
              case hy => (intro w; go_simp; try with_reducible rfl)
              case rest =>
               refine wpAny_take (i := 7) (v := ?_) rfl (by kernel_rfl) (by kernel_rfl) (by kernel_rfl) (fun _ _ _ h => h) (Or.inl ⟨by rfl, ?hy⟩) ?rest
               case hy => (intro w; go_simp; try with_reducible rfl)
               case rest =>
                refine wpAny_ready (rs := [8, 9]) (by kernel_rfl) (by simp) ?_
                refine AllReady.cons rfl (fun K hK => ?_) ?_
                · go_simp
                  refine hK _ _ ?_
                  clear hK K
                  refine wpAny_ready (rs := [9]) (by kernel_rfl) (by simp) ?_
                  refine AllReady.cons rfl (fun K hK => ?_) ?_
                  · go_simp
                    refine hK _ _ ?_
                    clear hK K
                    refine wpAny_take (i := 10) (v := ?_) rfl (by kernel_rfl) (by kernel_rfl) (by kernel_rfl) (fun _ _ _ h => h) (Or.inl ⟨by rfl, ?hy⟩) ?rest
                    case hy => (intro w; go_simp; try with_reducible rfl)
                    case rest =>
                     refine wpAny_take (i := 11) (v := ?_) rfl (by kernel_rfl) (by kernel_rfl) (by kernel_rfl) (fun _ _ _ h => h) (Or.inl ⟨by rfl, ?hy⟩) ?rest
                     case hy => (intro w; go_simp; try with_reducible rfl)
                     case rest =>
                      refine wpAny_ready (rs := [12]) (by kernel_rfl) (by simp) ?_
                      refine AllReady.cons rfl (fun K hK => ?_) ?_
                      · go_simp
                        refine hK _ _ ?_
                        clear hK K
                        refine wpAny_done (by kernel_rfl) ?_ _
                        exact onN_ok (by gi_wp2; exact Hfin.out _ rfl)
                      exact AllReady.nil
                  exact AllReady.nil
                refine AllReady.cons rfl (fun K hK => ?_) ?_
                · go_simp
                  refine hK _ _ ?_
                  clear hK K
                  refine wpAny_take (i := 10) (v := ?_) rfl (by kernel_rfl) (by kernel_rfl) (by kernel_rfl) (fun _ _ _ h => h) (Or.inl ⟨by rfl, ?hy⟩) ?rest
                  case hy => (intro w; go_simp; try with_reducible rfl)
                  case rest =>
                   refine wpAny_ready (rs := [8]) (by kernel_rfl) (by simp) ?_
                   refine AllReady.cons rfl (fun K hK => ?_) ?_
                   · go_simp
                     refine hK _ _ ?_
                     clear hK K
                     refine wpAny_take (i := 11) (v := ?_) rfl (by kernel_rfl) (by kernel_rfl) (by kernel_rfl) (fun _ _ _ h => h) (Or.inl ⟨by rfl, ?hy⟩) ?rest
                     case hy => (intro w; go_simp; try with_reducible rfl)
                     case rest =>
                      refine wpAny_ready (rs := [12]) (by kernel_rfl) (by simp) ?_
                      refine AllReady.cons rfl (fun K hK => ?_) ?_
                      · go_simp
                        refine hK _ _ ?_
                        clear hK K
                        refine wpAny_done (by kernel_rfl) ?_ _
                        exact onN_ok (by gi_wp2; exact Hfin.out _ rfl)
                      exact AllReady.nil
                   exact AllReady.nil
                exact AllReady.nil
           refine AllReady.cons rfl (fun K hK => ?_) ?_
           · go_simp
             refine hK _ _ ?_
             clear hK K
             refine wpAny_take (i := 10) (v := ?_) rfl (by kernel_rfl) (by kernel_rfl) (by kernel_rfl) (fun _ _ _ h => h) (Or.inl ⟨by rfl, ?hy⟩) ?rest
             case hy => (intro w; go_simp; try with_reducible rfl)
             case rest =>
              refine wpAny_ready (rs := [0]) (by kernel_rfl) (by simp) ?_
              refine AllReady.cons rfl (fun K hK => ?_) ?_
              · go_simp
                refine hK _ _ ?_
                clear hK K
                refine wpAny_take (i := 5) (v := ?_) rfl (by kernel_rfl) (by kernel_rfl) (by kernel_rfl) (fun _ _ _ h => h) (Or.inl ⟨by rfl, ?hy⟩) ?rest
                case hy => (intro w; go_simp; try with_reducible rfl)
                case rest =>
                 refine wpAny_take (i := 6) (v := ?_) rfl (by kernel_rfl) (by kernel_rfl) (by kernel_rfl) (fun _ _ _ h => h) (Or.inl ⟨by rfl, ?hy⟩) ?rest
                 case hy => (intro w; go_simp; try with_reducible rfl)
                 case rest =>
                  refine wpAny_take (i := 7) (v := ?_) rfl (by kernel_rfl) (by kernel_rfl) (by kernel_rfl) (fun _ _ _ h => h) (Or.inl ⟨by rfl, ?hy⟩) ?rest
                  case hy => (intro w; go_simp; try with_reducible rfl)
                  case rest =>
                   refine wpAny_ready (rs := [8]) (by kernel_rfl) (by simp) ?_
                   refine AllReady.cons rfl (fun K hK => ?_) ?_
                   · go_simp
                     refine hK _ _ ?_
                     clear hK K
                     refine wpAny_take (i := 11) (v := ?_) rfl (by kernel_rfl) (by kernel_rfl) (by kernel_rfl) (fun _ _ _ h => h) (Or.inl ⟨by rfl, ?hy⟩) ?rest
                     case hy => (intro w; go_simp; try with_reducible rfl)
                     case rest =>
                      refine wpAny_ready (rs := [12]) (by kernel_rfl) (by simp) ?_
                      refine AllReady.cons rfl (fun K hK => ?_) ?_
                      · go_simp
                        refine hK _ _ ?_
                        clear hK K
                        refine wpAny_done (by kernel_rfl) ?_ _
                        exact onN_ok (by gi_wp2; exact Hfin.out _ rfl)
                      exact AllReady.nil
                   exact AllReady.nil
              exact AllReady.nil
           exact AllReady.nil
       refine AllReady.cons rfl (fun K hK => ?_) ?_
       · go_simp
         refine hK _ _ ?_
         clear hK K
         refine wpAny_take (i := 10) (v := ?_) rfl (by kernel_rfl) (by kernel_rfl) (by kernel_rfl) (fun _ _ _ h => h) (Or.inl ⟨by rfl, ?hy⟩) ?rest
         case hy => (intro w; go_simp; try with_reducible rfl)
         case rest =>
          refine wpAny_ready (rs := [0, 1]) (by kernel_rfl) (by simp) ?_
          refine AllReady.cons rfl (fun K hK => ?_) ?_
          · go_simp
            refine hK _ _ ?_
            clear hK K
            refine wpAny_take (i := 5) (v := ?_) rfl (by kernel_rfl) (by kernel_rfl) (by kernel_rfl) (fun _ _ _ h => h) (Or.inl ⟨by rfl, ?hy⟩) ?rest
            case hy => (intro w; go_simp; try with_reducible rfl)
            case rest =>
             refine wpAny_take (i := 6) (v := ?_) rfl (by kernel_rfl) (by kernel_rfl) (by kernel_rfl) (fun _ _ _ h => h) (Or.inl ⟨by rfl, ?hy⟩) ?rest
             case hy => (intro w; go_simp; try with_reducible rfl)
             case rest =>
              refine wpAny_ready (rs := [1]) (by kernel_rfl) (by simp) ?_
              refine AllReady.cons rfl (fun K hK => ?_) ?_
              · go_simp
                refine hK _ _ ?_
                clear hK K
                refine wpAny_take (i := 2) (v := ?_) rfl (by kernel_rfl) (by kernel_rfl) (by kernel_rfl) (fun _ _ _ h => h) (Or.inl ⟨by rfl, ?hy⟩) ?rest
                case hy => (intro w; go_simp; try with_reducible rfl)
                case rest =>
                 refine wpAny_take (i := 4) (v := ?_) rfl (by kernel_rfl) (by kernel_rfl) (by kernel_rfl) (fun _ _ _ h => h) (Or.inl ⟨by rfl, ?hy⟩) ?rest
                 case hy => (intro w; go_simp; try with_reducible rfl)
                 case rest =>
                  refine wpAny_take (i := 7) (v := ?_) rfl (by kernel_rfl) (by kernel_rfl) (by kernel_rfl) (fun _ _ _ h => h) (Or.inl ⟨by rfl, ?hy⟩) ?rest
                  case hy => (intro w; go_simp; try with_reducible rfl)
                  case rest =>
                   refine wpAny_ready (rs := [8]) (by kernel_rfl) (by simp) ?_
                   refine AllReady.cons rfl (fun K hK => ?_) ?_
                   · go_simp
                     refine hK _ _ ?_
                     clear hK K
                     refine wpAny_take (i := 11) (v := ?_) rfl (by kernel_rfl) (by kernel_rfl) (by kernel_rfl) (fun _ _ _ h => h) (Or.inl ⟨by rfl, ?hy⟩) ?rest
                     case hy => (intro w; go_simp; try with_reducible rfl)
                     case rest =>
                      refine wpAny_ready (rs := [12]) (by kernel_rfl) (by simp) ?_
                      refine AllReady.cons rfl (fun K hK => ?_) ?_
                      · go_simp
                        refine hK _ _ ?_
                        clear hK K
                        refine wpAny_done (by kernel_rfl) ?_ _
                        exact onN_ok (by gi_wp2; exact Hfin.out _ rfl)
                      exact AllReady.nil
                   exact AllReady.nil
              exact AllReady.nil
          refine AllReady.cons rfl (fun K hK => ?_) ?_
          · go_simp
            refine hK _ _ ?_
            clear hK K
            refine wpAny_take (i := 2) (v := ?_) rfl (by kernel_rfl) (by kernel_rfl) (by kernel_rfl) (fun _ _ _ h => h) (Or.inl ⟨by rfl, ?hy⟩) ?rest
            case hy => (intro w; go_simp; try with_reducible rfl)
            case rest =>
             refine wpAny_take (i := 4) (v := ?_) rfl (by kernel_rfl) (by kernel_rfl) (by kernel_rfl) (fun _ _ _ h => h) (Or.inl ⟨by rfl, ?hy⟩) ?rest
             case hy => (intro w; go_simp; try with_reducible rfl)
             case rest =>
              refine wpAny_ready (rs := [0]) (by kernel_rfl) (by simp) ?_
              refine AllReady.cons rfl (fun K hK => ?_) ?_
              · go_simp
                refine hK _ _ ?_
                clear hK K
                refine wpAny_take (i := 5) (v := ?_) rfl (by kernel_rfl) (by kernel_rfl) (by kernel_rfl) (fun _ _ _ h => h) (Or.inl ⟨by rfl, ?hy⟩) ?rest
                case hy => (intro w; go_simp; try with_reducible rfl)
                case rest =>
                 refine wpAny_take (i := 6) (v := ?_) rfl (by kernel_rfl) (by kernel_rfl) (by kernel_rfl) (fun _ _ _ h => h) (Or.inl ⟨by rfl, ?hy⟩) ?rest
                 case hy => (intro w; go_simp; try with_reducible rfl)
                 case rest =>
                  refine wpAny_take (i := 7) (v := ?_) rfl (by kernel_rfl) (by kernel_rfl) (by kernel_rfl) (fun _ _ _ h => h) (Or.inl ⟨by rfl, ?hy⟩) ?rest
                  case hy => (intro w; go_simp; try with_reducible rfl)
                  case rest =>
                   refine wpAny_ready (rs := [8]) (by kernel_rfl) (by simp) ?_
                   refine AllReady.cons rfl (fun K hK => ?_) ?_
                   · go_simp
                     refine hK _ _ ?_
                     clear hK K
                     refine wpAny_take (i := 11) (v := ?_) rfl (by kernel_rfl) (by kernel_rfl) (by kernel_rfl) (fun _ _ _ h => h) (Or.inl ⟨by rfl, ?hy⟩) ?rest
                     case hy => (intro w; go_simp; try with_reducible rfl)
                     case rest =>
                      refine wpAny_ready (rs := [12]) (by kernel_rfl) (by simp) ?_
                      refine AllReady.cons rfl (fun K hK => ?_) ?_
                      · go_simp
                        refine hK _ _ ?_
                        clear hK K
                        refine wpAny_done (by kernel_rfl) ?_ _
                        exact onN_ok (by gi_wp2; exact Hfin.out _ rfl)
                      exact AllReady.nil
                   exact AllReady.nil
              exact AllReady.nil
          exact AllReady.nil
       exact AllReady.nil
    case done =>
      rintro D ys W hD rfl ⟨h1, hBW⟩ hK
      have q1 := h1.cell
      have hv := not_val (crcIn z ys)
      obtain ⟨q, hq⟩ : ∃ q, q = ~~~ (crcIn z ys) := ⟨_, rfl⟩
      rw [← hq] at hv
      have hRq : R = q := by rw [HR.out, hq]
      subst hRq
      have Hq := Lib.hid hq
      clear hq
      generalize crcIn z ys = q0 at *
      have hbD := hBW.trans (belowK_b (w := w1) (Nat.le_refl _) W D _ (.deferred none) (by omega) hK rfl rfl)
      have hKD := hKw.then_ hbD (by have := hK0.size; omega)
      have hMD := hT1.below hbD (by omega)
      have hTD := hMD.tab
      gi_wp2
      refine ⟨by simp, .inl ⟨_, _, rfl, run_takeDeferred hK, ?_⟩⟩
      exact ⟨.int .u32 (R.toNat : Int), by simp [results, Tryz.results62, go_sem], rfl, hKD, hTD, fun _ => hMD, fun h => ((HM0.out h).1.trans ((hB1.out (HM0.out h).2).mono (by omega))).trans (hbD.mono (by omega))⟩
    case stop =>
      rintro D c pre W hD ⟨k, hk, rfl⟩ hF hK
      exact hF.elim

theorem c_Sum (w : World) (b : Nat) {B : Nat} {A : Option Addr} {n c : Nat} {l : List UInt8} (hT : Tab w b) (hr : Rd w B A n (bcs l)) (hB : B ≤ w.heap.size) (ha : Apart A b) (hn : n ≤ 1099511627776) :
    Calls Tryz.prog 52 #[.pointer (some ⟨b, 0, none⟩), .slice A n c] w fun e w' => e = .returned (.int .u32 ((crcOf l).toNat : Int)) ∧ Kb [b] w w' ∧ Tab w' b ∧ (0 < n → TabM w' b) ∧ (TabM w b → Below w.heap.size w w') := by
  have HE := c_Extend w b 0#32 (c := c) hT hr hB ha hn
  rw [show ~~~ (crcIn (~~~ 0#32) l) = crcOf l from rfl] at HE
  generalize crcOf l = R at *
  have HE := Lib.hid HE
  go_enter Tryz.func52, Tryz.ntmps52
  go_wp2_with (go_at_call 62; refine HE.out.mono ?_; rintro e w' ⟨rfl, hK, hT', hM, hNo⟩; replace hM := Lib.hid hM; replace hNo := Lib.hid hNo)
  go_ret
  exact ⟨rfl, hK, hT', hM.out, hNo.out⟩
end Go.Proofs.YtgilnjngphhhlaaGreat
