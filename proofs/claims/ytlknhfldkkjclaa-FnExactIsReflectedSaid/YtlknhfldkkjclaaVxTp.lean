/- Where a map has a value, and test points of a conjugacy: the program's functions and the reference's. -/
import Derived.Test.YtlknhfldkkjclaaVpTp
import Derived.Test.YtlknhfldkkjclaaVxCh
import Derived.Test.YtlknhfldkkjclaaVxRs
namespace Go.Vx
open Go Go.Proofs
set_option maxRecDepth 100000
set_option linter.unusedSimpArgs false
set_option linter.unusedVariables false

theorem eta_rt (p : Rt) : (⟨p.num, p.den⟩ : Rt) = p := rfl
theorem mapx_next {f : List Pt} {i : Nat} (hi : i < f.length) : (f.take (i + 1)).map Pt.x = (f.take i).map Pt.x ++ [(getA zP f i).x] := by rw [take_next zP hi, List.map_append]; rfl
theorem mapx_gd {f : List Pt} (hf : mapOk f = true) (i : Nat) : Gd ((f.take i).map Pt.x) := fun x hx => by
  obtain ⟨p, hp, rfl⟩ := List.mem_map.1 hx
  exact coord_good (ptOk_iff.1 ((mapOk_iff.1 hf).2.1 p (List.mem_of_mem_take hp))).1
theorem pt_unit {h : List Pt} (hh : mapOk h = true) {i : Nat} (hi : i < h.length) : unitRt (getA zP h i).x = true := coord_unit (ptOk_iff.1 (map_pt hh hi)).1
end Go.Vx
