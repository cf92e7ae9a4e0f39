/- Maps that are turned by half a turn: plain laws. -/
import Derived.Test.YtlknhfldkkjclaaVpCm
namespace Go.Vx
open Go
set_option maxRecDepth 100000
set_option linter.unusedSimpArgs false
set_option linter.unusedVariables false

def mirR (x : Rt) : Rt := ⟨x.den - x.num, x.den⟩
def mirP (p : Pt) : Pt := ⟨mirR p.x, mirR p.y⟩
@[irreducible] def rfL (f : List Pt) : List Pt := f.reverse.map mirP
@[irreducible] def rfK (f : List Pt) (k : Nat) : List Pt := (f.reverse.map mirP).take k
theorem rfL_len (f : List Pt) : (rfL f).length = f.length := by unfold rfL; simp
theorem rfK_zero (f : List Pt) : rfK f 0 = [] := by unfold rfK; simp
theorem rfK_len (f : List Pt) {k : Nat} (h : k ≤ f.length) : (rfK f k).length = k := by unfold rfK; simp; omega
theorem rfK_all (f : List Pt) : rfK f f.length = rfL f := by unfold rfK rfL; rw [List.take_of_length_le (by simp)]
theorem rev_get (f : List Pt) {k : Nat} (h : k < f.length) : getA zP f.reverse k = getA zP f (f.length - 1 - k) := by
  rw [getA_eq, getA_eq]
  simp only [List.getD]
  rw [List.getElem?_reverse h]
theorem rfK_succ (f : List Pt) {k : Nat} (h : k < f.length) : rfK f (k + 1) = rfK f k ++ [mirP (getA zP f (f.length - 1 - k))] := by
  have h1 : k < (f.reverse.map mirP).length := by simpa using h
  have h2 : (f.reverse.map mirP)[k] = mirP (getA zP f (f.length - 1 - k)) := by
    rw [← rev_get f h, getA_eq]
    have h3 : k < f.reverse.length := by simpa using h
    simp only [List.getElem_map, List.getD, List.getElem?_eq_getElem h3, Option.getD_some]
  unfold rfK
  rw [List.take_add_one, List.getElem?_eq_getElem h1, h2]
  rfl
theorem rfL_get (f : List Pt) {k : Nat} (h : k < f.length) : getA zP (rfL f) k = mirP (getA zP f (f.length - 1 - k)) := by
  rw [← rev_get f h]
  unfold rfL
  have h3 : k < f.reverse.length := by simpa using h
  rw [getA_eq, getA_eq]
  have h4 : k < (f.reverse.map mirP).length := by simpa using h
  simp only [List.getD, List.getElem?_eq_getElem h3, List.getElem?_eq_getElem h4, List.getElem_map, Option.getD_some]
theorem mirR_coord {x : Rt} (h : coordRt x = true) : coordRt (mirR x) = true := by
  obtain ⟨h1, h2, h3, h4, h5⟩ := coord_iff.1 h
  have hg := goodRt_iff.1 h1
  refine coord_iff.2 ⟨goodRt_iff.2 ⟨?_, ?_, ?_, ?_, ?_⟩, ?_, ?_, ?_, ?_⟩
  all_goals try (show _ ≤ _; unfold mirR; dsimp only; omega)
  show (Int.gcd (x.den - x.num) x.den : Int) = 1
  have h6 : Int.gcd (x.den - x.num) x.den = Int.gcd x.num x.den := by
    apply Nat.dvd_antisymm
    · apply Int.dvd_gcd
      · have a := Int.gcd_dvd_left (x.den - x.num) x.den
        have b := Int.gcd_dvd_right (x.den - x.num) x.den
        have := Int.dvd_sub b a
        rwa [show x.den - (x.den - x.num) = x.num by omega] at this
      · exact Int.gcd_dvd_right ..
    · apply Int.dvd_gcd
      · exact Int.dvd_sub (Int.gcd_dvd_right ..) (Int.gcd_dvd_left ..)
      · exact Int.gcd_dvd_right ..
  rw [h6]; exact hg.2.2.2.2
theorem mirP_ok {p : Pt} (h : ptOk p = true) : ptOk (mirP p) = true := by
  obtain ⟨h1, h2⟩ := ptOk_iff.1 h
  exact ptOk_iff.2 ⟨mirR_coord h1, mirR_coord h2⟩
theorem mir_lt {a b : Rt} (h : ltR a b) : ltR (mirR b) (mirR a) := by
  unfold ltR mirR at *
  dsimp only
  have e1 : (b.den - b.num) * a.den = b.den * a.den - b.num * a.den := Int.sub_mul ..
  have e2 : (a.den - a.num) * b.den = a.den * b.den - a.num * b.den := Int.sub_mul ..
  have e3 := Int.mul_comm a.den b.den
  omega
theorem rf_rs {f : List Pt} (h : mapOk f = true) : rsOk (rfL f) := by
  obtain ⟨⟨h1, h2⟩, h3, h4, h5, h6⟩ := mapOk_iff.1 h
  refine rsOk_iff.2 ⟨fun p hp => ?_, fun i hi => ?_⟩
  · unfold rfL at hp
    obtain ⟨q, hq, rfl⟩ := List.mem_map.1 hp
    exact mirP_ok (h3 q (by simpa using hq))
  · rw [rfL_len] at hi
    rw [rfL_get f (by omega), rfL_get f (by omega)]
    have := h6 (f.length - 1 - (i + 1)) (by omega)
    rw [show f.length - 1 - (i + 1) + 1 = f.length - 1 - i by omega] at this
    exact mir_lt this
theorem map_rs {f : List Pt} (h : mapOk f = true) : rsOk f := by
  obtain ⟨⟨h1, h2⟩, h3, h4, h5, h6⟩ := mapOk_iff.1 h
  exact rsOk_iff.2 ⟨h3, h6⟩
theorem map_len {f : List Pt} (h : mapOk f = true) : 2 ≤ f.length ∧ f.length ≤ 12 := (mapOk_iff.1 h).1
@[irreducible] noncomputable def rfM (f : List Pt) : List Pt × Bool := bif mapOk f then (rfL f, true) else ([], false)
theorem rfM_t {f : List Pt} (h : mapOk f = true) : rfM f = (rfL f, true) := by unfold rfM; rw [h]; rfl
theorem rfM_f {f : List Pt} (h : mapOk f = false) : rfM f = ([], false) := by unfold rfM; rw [h]; rfl
@[irreducible] noncomputable def isRf (f g : List Pt) : Bool × Bool := bif mapOk f && mapOk g then (decide (smL (rfL f) = smL g), true) else (false, false)
theorem isRf_t {f g : List Pt} (h : mapOk f = true) (h2 : mapOk g = true) : isRf f g = (decide (smL (rfL f) = smL g), true) := by unfold isRf; rw [h, h2]; rfl
theorem isRf_f1 {f g : List Pt} (h : mapOk f = false) : isRf f g = (false, false) := by unfold isRf; rw [h]; rfl
theorem isRf_f2 {f g : List Pt} (h2 : mapOk g = false) : isRf f g = (false, false) := by unfold isRf; rw [h2, Bool.and_false]; rfl
end Go.Vx
