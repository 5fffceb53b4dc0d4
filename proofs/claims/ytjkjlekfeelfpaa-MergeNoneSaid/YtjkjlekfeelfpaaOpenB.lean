/- Opening arguments: how long a slice of bytes can be. Nothing here speaks of the program. -/
import Derived.Test.YtjkjlekfeelfpaaOpen
import Derived.SizedLaws
namespace Go.Lec
open Go.Joins Go.ChangeShapes Go.WideShapes Go.RowKit Go.Deep

/-- A slice of bytes that came in takes no more than the form's own reach. -/
theorem bytes_short {H : Type} {enc : TypeId × Value → H} {P : Program} {w : World} {base : Nat} {spare : Nat → Bool} {held : Bool} {t e : TypeId} (ht : P.underlying t = some (.slice e)) (he : P.underlying e = some (.int .u8)) (hc : P.cellsOf e = 1) (hby : P.bytesOf e = 1)
    {fuel : Nat} {A : Option Addr} {n c : Nat} {d : DataW H} {p : List MemPlace} (h : DataW.trod enc P w base spare held fuel t [.slice A n c] = some (d, p))
    {ts : List TypeId} {ds : List (DataW H)} (hz : (DataW.weightsEach P ts ds).all (· ≤ reachBytes) = true) {j : Nat} (h1 : ts[j]? = some t) (h2 : ds[j]? = some d) : n ≤ 140737488355328 := by
  rcases open_ints ht he hc h with ⟨hcs, hx⟩ | ⟨a, len, cap, zs, hcs, _, hl, hm, hzl, hx, hcell, hwz⟩
  · simp only [List.cons.injEq, Value.slice.injEq, and_true] at hcs
    omega
  · simp only [List.cons.injEq, Value.slice.injEq, and_true] at hcs
    obtain ⟨rfl, rfl, rfl⟩ := hcs
    simp only [Prod.mk.injEq] at hx
    obtain ⟨rfl, rfl⟩ := hx
    have := sized_slice hz h1 h2 ht
    have hr := reachBytes_lt
    rw [hby] at this
    simp only [lits, List.length_map, List.length_take, List.length_drop] at this
    have : n ≤ zs.length := by rw [hzl]; split <;> omega
    omega
end Go.Lec
