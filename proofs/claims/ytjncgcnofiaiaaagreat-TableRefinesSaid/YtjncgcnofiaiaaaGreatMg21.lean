/-
  Parts of the proof: Tools for rows: slices of numbers of arguments opened.
-/
import Derived.Test.YtjncgcnofiaiaaaGreatMg19
import Derived.Test.YtjncgcnofiaiaaaGreatMg20
set_option linter.unusedVariables false
set_option linter.unusedSimpArgs false
namespace Go.Proofs.YtjncgcnofiaiaaaGreat
open Go.ChangeShapes Go.WideShapes Go.ChangeAt Go.RowKit Go.Joins
theorem addr_add_add (a : Addr) (m n : Nat) : (a.add m).add n = a.add (m + n) := by
 unfold Addr.add
 by_cases h1 : m = 0
 ·subst h1
  simp
 ·by_cases h2 : n = 0
  ·subst h2
   simp
  ·rw [if_neg h1, if_neg h2, if_neg (by omega)]
   simp [Nat.add_assoc]
theorem els_row {w : World} {a : Addr} {f : Nat → R2} : ∀ (n : Nat), (∀ i, i < n → w.cell? (a.add (i * 2)) = some (.int .i64 (f i).1) ∧ w.cell? (a.add (i * 2 + 1)) = some (.int .i64 (f i).2)) →
  ∃ (ds : List C) (vs : List Value) (l : List R2), l.length = n ∧ Els elP ds l ∧ RL (cx0 (fun _ => False) w) ds vs ∧ vs.length = n * 2 ∧ ∀ j v, vs[j]? = some v → w.cell? (a.add j) = some v
 | 0, _ => ⟨[], [], [], rfl, .nil, .nil, rfl, fun j v h => by simp at h⟩
 | n + 1, h => by
  obtain ⟨ds, vs, l, h1, h2, h3, h4, h5⟩ := els_row n (fun i hi => h i (by omega))
  obtain ⟨c1, c2⟩ := h n (by omega)
  refine ⟨ds ++ ratC (f n), vs ++ [.int .i64 (f n).1, .int .i64 (f n).2], l ++ [f n], by simp [h1], h2.snoc rfl, h3.append (.cons (.int _ _) (.cons (.int _ _) .nil)), by simp [h4]; omega, fun j v hj => ?_⟩
  rcases Nat.lt_or_ge j vs.length with hlt | hge
  ·rw [List.getElem?_append_left hlt] at hj
   exact h5 j v hj
  ·rw [List.getElem?_append_right hge, h4] at hj
   rw [h4] at hge
   have hj2 : j - n * 2 < 2 := by
    have := (List.getElem?_eq_some_iff.1 hj).1
    simpa using this
   obtain rfl | rfl : j = n * 2 ∨ j = n * 2 + 1 := by omega
   ·simp at hj
    rw [c1, hj]
   ·rw [show n * 2 + 1 - n * 2 = 1 by omega] at hj
    simp at hj
    rw [c2, hj]
section
variable {H : Type} {enc : TypeId × Value → H} {P : Program} {w : World} {spare : Nat → Bool} {held : Bool}
end
theorem rats_sl : Tryz.prog.underlying T_sl_api_Rat = some (.slice xL) := by kernel_rfl
end Go.Proofs.YtjncgcnofiaiaaaGreat
