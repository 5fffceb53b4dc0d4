/- Layer 24: copies of the files that a closure takes. -/
import Derived.Test.YtgpbkebmfbbamaaLvE
namespace Go.Proofs.Ytgpbkebmfbbamaa
open Go.RowKit Go.Lec

theorem infoM : (Try.prog.info? 44).map (fun i => (i.zero, i.size, i.bytes)) = some (some (.agg #[.int .i64 0, .int .i64 0, .int .i64 0, .slice none 0 0, .slice none 0 0]), 5, 72) := by kernel_rfl
theorem slm : SlK Try.prog 23 44 (.agg #[.int .i64 0, .int .i64 0, .int .i64 0, .slice none 0 0, .slice none 0 0]) 72 5 := ⟨Try.underlying23, info_parts infoM, rfl, by decide⟩

/-- What a list of new metas is, that say what others say. -/
def PickPost (w : World) (L : List Mt) (e : Ending) (w' : World) : Prop :=
  ∃ A n c L', e = .returned (.slice A n c) ∧ n ≤ c ∧ OwnK w' w.heap.size 44 5 (.slice A n c) n (L'.flatMap Mt.cs) ∧ Mts w' w'.heap.size A n L' ∧ L'.map Mt.pl = L.map Mt.pl ∧ (∀ m ∈ L', m.hi w.heap.size) ∧ Below w.heap.size w w'

set_option maxHeartbeats 1600000 in
theorem c_picked (w : World) {B : Nat} {A : Option Addr} {n c : Nat} {L : List Mt} (hr : Mts w B A n L) (hB : B ≤ w.heap.size) (hn : n ≤ 1099511627) (g : Nat) (caps : Array Value) (p : Mt → Bool)
    (hcf : ∀ (args : Array Value) (w : World), (callFunc g args).run Try.prog w = .ok (.enter g args) w)
    (hg : ∀ (W : World) (m : Mt), m ∈ L → Below w.heap.size w W → Calls Try.prog g (#[.agg #[.int .i64 m.num, .int .i64 m.size, .int .i64 m.cnt, .slice m.A1 m.n1 m.c1, .slice m.A2 m.n2 m.c2]] ++ caps) W fun e W' => e = .returned (.bool (p m)) ∧ Below W.heap.size W W') :
    Calls Try.prog 32 #[.slice A n c, .func (.func g) #[] caps] w (PickPost w (L.filter p)) := by
  have hln := hr.len
  have Hln := Lib.hid hln; clear hln
  go_enter Try.func32, Try.ntmps32
  go_wp2
  go_loopw [5, 10] (fun s i wr => ∃ (k : Nat) (L' : List Mt), k ≤ n ∧ i = .int .i64 k ∧ OwnK wr w.heap.size 44 5 s L'.length (L'.flatMap Mt.cs) ∧ (∀ m ∈ L', m.ok wr wr.heap.size ∧ m.away s.ownBlock) ∧ (∀ m ∈ L', m.hi w.heap.size) ∧ L'.map Mt.pl = ((L.take k).filter p).map Mt.pl ∧ Below w.heap.size w wr) (fun _ i _ => n - (intOf i).toNat)
  case atStart => exact ⟨0, [], by omega, rfl, OwnK.nil_ _ _ _ _, (fun _ h => by cases h), (fun _ h => by cases h), rfl, Below.refl _ _⟩
  case round =>
    obtain ⟨k, L', hk, rfl, hown, hoks, hhi, hpl, hb⟩ := hrel
    by_cases hlt : k < n
    · obtain ⟨b, o, m, rfl, hbB, hm, htk, hok, hcell⟩ := hr.cell5 hlt
      have Htk := Lib.hid htk
      have hmem : m ∈ L := List.mem_of_getElem? hm
      obtain ⟨h0, h1, h2, h3, h4⟩ := hcell wr (hb.mono hB)
      have hlt' : b < wr.heap.size := by have := hb.size; omega
      have HK := (Bk.new_ wr 44 #[.int .i64 m.num, .int .i64 m.size, .int .i64 m.cnt, .slice m.A1 m.n1 m.c1, .slice m.A2 m.n2 m.c2])
      have hk := HK.cell
      have hb1 := hb.alloc hb.size (.cells #[.int .i64 m.num, .int .i64 m.size, .int .i64 m.cnt, .slice m.A1 m.n1 m.c1, .slice m.A2 m.n2 m.c2] 44)
      have hlL : L'.length ≤ k := by have := congrArg List.length hpl; simp only [List.length_map] at this; rw [this]; exact Nat.le_trans (List.length_filter_le _ _) (by rw [List.length_take]; omega)
      obtain ⟨As, cs, rfl, hcs⟩ := hown.shape
      clear hm htk hcell
      go_wp2_with fail
      refine (hg _ m hmem hb1).mono ?_
      rintro e w1 ⟨rfl, hbc⟩
      rw [World.size_alloc] at hbc
      have hb2 : Below w.heap.size w w1 := hb1.trans (hbc.mono (by have := hb.size; omega))
      have HK1 := HK.below hbc (by omega)
      have hown1 := (hown.alloc (.cells #[.int .i64 m.num, .int .i64 m.size, .int .i64 m.cnt, .slice m.A1 m.n1 m.c1, .slice m.A2 m.n2 m.c2] 44)).below hbc (by simp)
      have hbsz := hb.size
      have hobl := fun x h => (hown.lt x h).2
      have hsz1 : wr.heap.size < w1.heap.size := by have := hbc.size; simp at this; omega
      have hoks1 : ∀ m ∈ L', m.ok w1 wr.heap.size ∧ m.away (Value.slice As L'.length cs).ownBlock := fun x hx => ⟨((hoks x hx).1.alloc (Nat.le_refl _) _).below hbc (by omega), (hoks x hx).2⟩
      have hok1 := hok.below hb2 hB
      clear hg h0 h1 h2 h3 h4 hk HK hbc hown hoks hb hb1
      cases hp : p m
      · go_wp2
        go_roundw
        case rel => exact ⟨k + 1, L', by omega, by go_num, hown1, fun x hx => ⟨((hoks1 x hx).1).more (by omega), (hoks1 x hx).2⟩, hhi, by rw [Htk.out, List.filter_append, hpl]; simp [hp], hb2⟩
        case measure => simp [intOf]; omega
      · have hk1 := HK1.cell
        have hkz := HK1.frz
        go_upto_region 6 with fail
        go_cut [] (fun wc => ∃ m' : Mt, m'.pl = m.pl ∧ m'.hi w.heap.size ∧ Bk wc wr.heap.size 44 #[.int .i64 m'.num, .int .i64 m'.size, .int .i64 m'.cnt, .slice m'.A1 m'.n1 m'.c1, .slice m'.A2 m'.n2 m'.c2] ∧ OwnK wc w.heap.size 44 5 (.slice As L'.length cs) L'.length (L'.flatMap Mt.cs) ∧ Below w.heap.size w wc ∧ m'.ok wc wc.heap.size ∧ m'.away (Value.slice As L'.length cs).ownBlock ∧ wr.heap.size < wc.heap.size ∧ (∀ m ∈ L', m.ok wc wr.heap.size ∧ m.away (Value.slice As L'.length cs).ownBlock))
        case first =>
          obtain ⟨h1r, h2r, _, _, hs1, hs2⟩ := hok1
          have Hl1 := Lib.hid h1r.1
          have Hl2 := Lib.hid h2r.1
          have hB1 : B ≤ w1.heap.size := by have := hb2.size; omega
          go_region_with (first
            | (refine (c_Clone w1.drew h1r.drew hB1 hs1).mono ?_; clear h1r; rintro e wa ⟨va, rfl, hoa, hba⟩; obtain ⟨Aa, ca, rfl, hca⟩ := hoa.shape; have c3 := (hba.cell (p := ⟨wr.heap.size, 3, none⟩) hsz1).trans (hk1 3); have c4 := (hba.cell (p := ⟨wr.heap.size, 4, none⟩) hsz1).trans (hk1 4); have hsza := hba.size; have z3 := (hba.frozen (p := ⟨wr.heap.size, 3, none⟩) hsz1).trans (hkz 3); have z4 := (hba.frozen (p := ⟨wr.heap.size, 4, none⟩) hsz1).trans (hkz 4))
            | (refine (c_Clone _ (h2r.drew.below hba hB1) (Nat.le_trans hB1 hsza) hs2).mono ?_; clear h2r; rintro e wb ⟨vb, rfl, hob, hbb⟩; obtain ⟨Ab, cb, rfl, hcb⟩ := hob.shape; have d3 := (hbb.cell (p := ⟨wr.heap.size, 3, none⟩) (Nat.lt_of_lt_of_le hsz1 hsza)).trans c3; have d4 := (hbb.cell (p := ⟨wr.heap.size, 4, none⟩) (Nat.lt_of_lt_of_le hsz1 hsza)).trans c4; have y3 := (hbb.frozen (p := ⟨wr.heap.size, 3, none⟩) (Nat.lt_of_lt_of_le hsz1 hsza)).trans z3; have y4 := (hbb.frozen (p := ⟨wr.heap.size, 4, none⟩) (Nat.lt_of_lt_of_le hsz1 hsza)).trans z4))
          all_goals (
            have HKb := (HK1.drew.below hba hsz1).below hbb (Nat.lt_of_lt_of_le hsz1 hsza)
            have hownb := (hown1.drew.below hba (Nat.le_refl _)).below hbb (by have : w1.heap.size ≤ wa.heap.size := hsza; omega)
            have hb3 : Below w.heap.size w wb := hb2.drew.trans ((hba.mono (by have := hb2.size; exact this)).trans (hbb.mono (Nat.le_trans hb2.size hsza)))
            have hoa2 := hoa.below hbb (Nat.le_refl _)
            have hob2 := hob.mono hsza
            have hszb := hbb.size
            have hoks2 : ∀ m ∈ L', m.ok wb wr.heap.size ∧ m.away (Value.slice As L'.length cs).ownBlock := fun x hx => ⟨((hoks1 x hx).1.drewN 1 |>.below hba (Nat.le_of_lt hsz1)).below hbb (by have : w1.heap.size ≤ wa.heap.size := hsza; omega), (hoks1 x hx).2⟩
            clear c3 c4 d3 d4 z3 z4 y3 y4 hk1 hkz
            go_wp2
            go_meet
            exact ⟨⟨m.num, m.size, m.cnt, Aa, _, ca, m.first, Ab, _, cb, m.last⟩, rfl, ⟨fun a ha => by have h1 : w1.heap.size ≤ a.block := hoa.ge a ha; omega, fun a ha => by have h1 : w1.heap.size ≤ a.block := hob2.ge a ha; omega⟩, (HKb.set_ 3 _).set_ 4 _, (hownb.far (fun e => absurd (hobl _ e) (Nat.lt_irrefl _)) _).far (fun e => absurd (hobl _ e) (Nat.lt_irrefl _)) _,
              (hb3.setCell hbsz _).setCell hbsz _,
              ⟨Own.rd (ownsRow_setCell_below (ownsRow_setCell_below hoa2 hsz1 _) hsz1 _), Own.rd (ownsRow_setCell_below (ownsRow_setCell_below hob2 hsz1 _) hsz1 _), hca, hcb, by have := Hl1.out; dsimp only; omega, by have := Hl2.out; dsimp only; omega⟩,
              ⟨fun _ a ha e => by have h1 : w1.heap.size ≤ a.block := hoa.ge a ha; have h2 := hobl _ e.symm; omega, fun _ a ha e => by have h1 : w1.heap.size ≤ a.block := hob2.ge a ha; have h2 := hobl _ e.symm; omega⟩,
              by have h1 : w1.heap.size ≤ wa.heap.size := hsza; simp; omega, fun x hx => ⟨((hoks2 x hx).1).below (((Below.refl wr.heap.size wb).setCell (Nat.le_refl _) _).setCell (Nat.le_refl _) _) (Nat.le_refl _), (hoks2 x hx).2⟩⟩)
        case rest =>
          obtain ⟨m', hpl', hhi', HK2, hown2, hb3, hok2, haw2, hsz2, hoks2⟩ := hcut
          have hk2 := HK2.cell
          go_wp2_with (first
            | (at_builtin; (refine wpList_appK_new rfl _ _ rfl slm (by decide) rfl hown2 hb3 hb3.size rfl (news := m'.cs) rfl m'.cs_one (by omega) ?_); intro v2 w2 ho2 hb4 hg2 hat hs2))
          go_roundw
          case rel =>
            have hX : v2.ownBlock = (Value.slice As L'.length cs).ownBlock ∨ ∃ g, v2.ownBlock = some g ∧ wr.heap.size < g := hat.imp_right fun ⟨g, e, h⟩ => ⟨g, e, by omega⟩
            refine ⟨k + 1, L' ++ [m'], by omega, by go_num, by simpa using ho2, fun x hx => ?_, fun x hx => ?_, by rw [Htk.out, List.filter_append, List.map_append, List.map_append, hpl]; simp [hp, hpl'], hb4⟩
            rcases List.mem_append.1 hx with hx | hx
            · exact ⟨((hoks2 x hx).1.grownX (by omega) (hoks2 x hx).2 hg2).more (by have := hg2.size; omega), (hoks2 x hx).2.next (hoks2 x hx).1 (hX.imp_right fun ⟨g, e, h⟩ => ⟨g, e, by omega⟩)⟩
            · obtain rfl : x = m' := by simpa using hx
              exact ⟨(hok2.grownX (Nat.le_refl _) haw2 hg2).more hg2.size, haw2.next hok2 (hat.imp_right fun ⟨g, e, h⟩ => ⟨g, e, h⟩)⟩
            · rcases List.mem_append.1 hx with hx | hx
              · exact hhi x hx
              · obtain rfl : x = m' := by simpa using hx
                exact hhi'
          case measure => simp [intOf]; omega
    · obtain rfl : k = n := by omega
      rw [List.take_of_length_le (by rw [Hln.out]; exact Nat.le_refl _)] at hpl
      obtain ⟨As, cs, rfl, hcs⟩ := hown.shape
      go_wp2
      go_ret
      exact ⟨As, _, cs, L', rfl, hcs, hown, ⟨hown.rd, fun m hm => (hoks m hm).1⟩, hpl, hhi, hb⟩
end Go.Proofs.Ytgpbkebmfbbamaa
