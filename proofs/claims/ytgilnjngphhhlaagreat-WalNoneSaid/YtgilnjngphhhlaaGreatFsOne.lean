/- Layer 1: the program's file system alone, by where it may turn. -/
import Derived.Test.YtgilnjngphhhlaaGreatFsX1
namespace Go.Proofs.YtgilnjngphhhlaaGreat
open Go.RowKit Go.Lec Go.Fsy Go.Op Go.Maps
/-- The program's file system; all that may turn lies from block B on, and not in K. -/
def One (B : Nat) (K : Nat → Prop) (w : World) (fb : Nat) (s : St) : Prop := ∃ X I, FsP X I w fb s ∧ (∀ b, X b → B ≤ b) ∧ ∀ b, K b → ¬ X b ∧ ¬ I b
theorem One.below {B : Nat} {K : Nat → Prop} {w w' : World} {fb : Nat} {s : St} (h : One B K w fb s) (hb : Below w.heap.size w w') : One B K w' fb s := by
  obtain ⟨X, I, h1, h2⟩ := h
  exact ⟨X, I, h1.below hb, h2⟩
/-- What is not yet made does not turn. -/
theorem One.fresh {B : Nat} {K K' : Nat → Prop} {w : World} {fb : Nat} {s : St} (h : One B K w fb s) (hK : ∀ b, K' b → K b ∨ w.heap.size ≤ b) : One B K' w fb s := by
  obtain ⟨X, I, h1, h2, h3⟩ := h
  obtain ⟨G, hG⟩ := h1
  exact ⟨X, I, ⟨G, hG⟩, h2, fun b hb => ⟨fun hx => (hK b hb).elim (fun h => (h3 b h).1 hx) (fun h => by have := hG.lt b (.inl hx); omega), fun hx => (hK b hb).elim (fun h => (h3 b h).2 hx) (fun h => by have := hG.lt b (.inr hx); omega)⟩⟩
/-- What an operation leaves. -/
structure OneP (B : Nat) (K : Nat → Prop) (w : World) (fb : Nat) (r : St × Int) (e : Ending) (w' : World) : Prop where
  e : e = .returned (.int .i64 r.2)
  one : One B K w' fb r.1
  below : Below B w w'
  kb : KbP (fun b => ¬ K b) w w'
theorem One.upd {B : Nat} {K : Nat → Prop} {w w' : World} {fb : Nat} {r : St × Int} {X I : Nat → Prop} {e : Ending} (hx : (∀ b, X b → B ≤ b) ∧ ∀ b, K b → ¬ X b ∧ ¬ I b) (hB : B ≤ w.heap.size) (hK : ∀ b, K b → b < w.heap.size) (h : UpdP X I w fb r e w') : OneP B K w fb r e w' := by
  obtain ⟨he, X', I', hf, hg⟩ := h
  exact ⟨he, ⟨X', I', hf, fun b hb => (hg.sx b hb).elim (hx.1 b) (fun h => Nat.le_trans hB h), fun b hb => ⟨fun hx' => (hg.sx b hx').elim (hx.2 b hb).1 (fun h => by have := hK b hb; omega), fun hx' => (hg.si b hx').elim (hx.2 b hb).2 (fun h => by have := hK b hb; omega)⟩⟩, hg.kb.below hx.1 hB, hg.kb.more (fun b h1 h2 => (hx.2 b h2).1 h1)⟩
/-- The file system's blocks turn not, if others do. -/
theorem One.kbP {B : Nat} {K Y : Nat → Prop} {w w' : World} {fb : Nat} {s : St} (h : One B K w fb s) (hk : KbP Y w w') (hY : ∀ b, Y b → K b) : One B K w' fb s := by
  obtain ⟨X, I, ⟨G, hG⟩, h2, h3⟩ := h
  exact ⟨X, I, ⟨G, hG.kbP hk (fun b hx hy => (h3 b (hY b hy)).1 hx) (fun b hx hy => (h3 b (hY b hy)).2 hx)⟩, h2, h3⟩
theorem NewP.one {K : Nat → Prop} {w w' : World} {s : St} {e : Ending} (h : NewP w s e w') (hK : ∀ b, K b → b < w.heap.size) : ∃ fb, e = .returned (ptrV fb) ∧ One w.heap.size K w' fb s ∧ Below w.heap.size w w' := by
  obtain ⟨fb, X, I, he, h1, h2, h3, h4⟩ := h
  exact ⟨fb, he, ⟨X, I, h1, h2, fun b hb => ⟨fun hx => by have := h2 b hx; have := hK b hb; omega, fun hx => by have := h3 b hx; have := hK b hb; omega⟩⟩, h4⟩
section
variable {B fb N : Nat} {K : Nat → Prop} {w : World} {s : St}
theorem o_Start {p : Pl} {AK AF AU : Option Addr} {cK cF cU : Nat} (h : One B K w fb s) (hB : B ≤ w.heap.size) (hK : ∀ b, K b → b < w.heap.size) (hi : Fsy.Inv s N) (hN : N ≤ 1048575) (hp : s.pl.ok) (hP : PlOk (fun b => b < B) w p AK cK AF cF AU cU) (hpo : p.ok) :
    Calls Tryz.prog 17 #[ptrV fb, plV p AK cK AF cF AU cU] w (OneP B K w fb (Fsy.start s p, 0)) := by
  obtain ⟨X, I, hf, hx⟩ := h
  exact (c_Start w hf hi hN hp hP (fun q hq hq' => by have := hx.1 q hq'; omega) hpo).mono fun e w' => One.upd hx hB hK
theorem o_Sync {name : Bs} (h : One B K w fb s) (hB : B ≤ w.heap.size) (hK : ∀ b, K b → b < w.heap.size) (hi : Fsy.Inv s N) (hN : N ≤ 1048575) (hp : s.pl.ok) (hn : name.length ≤ 4294967296) :
    Calls Tryz.prog 24 #[ptrV fb, .string ⟨name.toArray⟩] w (OneP B K w fb (Fsy.sync s name)) := by
  obtain ⟨X, I, hf, hx⟩ := h
  exact (c_Sync w hf hi hN hp hn).mono fun e w' => One.upd hx hB hK
theorem o_SyncDir (h : One B K w fb s) (hB : B ≤ w.heap.size) (hK : ∀ b, K b → b < w.heap.size) (hi : Fsy.Inv s N) (hN : N ≤ 1048575) (hp : s.pl.ok) :
    Calls Tryz.prog 28 #[ptrV fb] w (OneP B K w fb (Fsy.syncDir s)) := by
  obtain ⟨X, I, hf, hx⟩ := h
  exact (c_SyncDir w hf hi hN hp).mono fun e w' => One.upd hx hB hK
theorem o_Create {name : Bs} (h : One B K w fb s) (hB : B ≤ w.heap.size) (hK : ∀ b, K b → b < w.heap.size) (hi : Fsy.Inv s N) (hN : N ≤ 1048575) (hp : s.pl.ok) (hn : name.length ≤ 4294967296) :
    Calls Tryz.prog 27 #[ptrV fb, .string ⟨name.toArray⟩] w (OneP B K w fb (Fsy.create s name)) := by
  obtain ⟨X, I, hf, hx⟩ := h
  exact (c_Create w hf hi hN hp hn).mono fun e w' => One.upd hx hB hK
theorem o_Cut {name : Bs} {k : Int} (h : One B K w fb s) (hB : B ≤ w.heap.size) (hK : ∀ b, K b → b < w.heap.size) (hi : Fsy.Inv s N) (hN : N ≤ 1048575) (hp : s.pl.ok) (hn : name.length ≤ 4294967296) (hk1 : -9223372036854775808 ≤ k) (hk2 : k ≤ 9223372036854775807) :
    Calls Tryz.prog 22 #[ptrV fb, .string ⟨name.toArray⟩, .int .i64 k] w (OneP B K w fb (Fsy.cutF s name k)) := by
  obtain ⟨X, I, hf, hx⟩ := h
  exact (c_Cut w hf hi hN hp hn hk1 hk2).mono fun e w' => One.upd hx hB hK
theorem o_Append {name bs : Bs} {A : Option Addr} {d : Nat} (h : One B K w fb s) (hB : B ≤ w.heap.size) (hK : ∀ b, K b → b < w.heap.size) (hi : Fsy.Inv s N) (hN : N ≤ 1048575) (hp : s.pl.ok) (hn : name.length ≤ 4294967296) (hb : RdP K w A bs.length (bcs bs)) (hbd : bs.length ≤ d) (hbl : bs.length ≤ 1099511627776) :
    Calls Tryz.prog 23 #[ptrV fb, .string ⟨name.toArray⟩, .slice A bs.length d] w (OneP B K w fb (Fsy.append s name bs)) := by
  obtain ⟨X, I, hf, hx⟩ := h
  exact (c_Append w hf hi hN hp hn hb (fun q hq => (hx.2 q hq).1) hbd hbl).mono fun e w' => One.upd hx hB hK
theorem o_Size {name : Bs} (h : One B K w fb s) (hi : Fsy.Inv s N) (hn : name.length ≤ 4294967296) :
    Calls Tryz.prog 29 #[ptrV fb, .string ⟨name.toArray⟩] w fun e w' => e = .returned (.tuple #[.int .i64 (Fsy.size s name).1, .int .i64 (Fsy.size s name).2]) ∧ w' = w := by
  obtain ⟨X, I, hf, hx⟩ := h
  exact c_Size w hf hi hn
theorem o_Read {name : Bs} {k n : Int} (h : One B K w fb s) (hi : Fsy.Inv s N) (hn : name.length ≤ 4294967296) (hk1 : -9223372036854775808 ≤ k) (hk2 : k ≤ 9223372036854775807) (hn1 : -9223372036854775808 ≤ n) (hn2 : n ≤ 9223372036854775807) :
    Calls Tryz.prog 30 #[ptrV fb, .string ⟨name.toArray⟩, .int .i64 k, .int .i64 n] w (ReadP w (Fsy.read s name k n)) := by
  obtain ⟨X, I, hf, hx⟩ := h
  exact c_Read w hf hi hn hk1 hk2 hn1 hn2
end
end Go.Proofs.YtgilnjngphhhlaaGreat
