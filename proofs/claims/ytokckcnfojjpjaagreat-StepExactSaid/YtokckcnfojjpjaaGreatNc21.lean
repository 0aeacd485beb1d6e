/-
  Parts of the proof: Tools for rows: slices of numbers of arguments opened.
-/
import Derived.Test.YtokckcnfojjpjaaGreatNc19
import Derived.Test.YtokckcnfojjpjaaGreatNc20
set_option linter.unusedVariables false
set_option linter.unusedSimpArgs false
namespace Go.Proofs.YtokckcnfojjpjaaGreat
open Go.ChangeShapes Go.WideShapes Go.ChangeAt Go.RowKit Go.Joins
theorem addr_add_add (a : Addr) (m n : Nat) : (a.add m).add n = a.add (m + n) := by
 unfold Addr.add
 by_cases h1 : m = 0
 ·subst h1
  simp
 ·by_cases h2 : n = 0
  ·subst h2
   simp
  ·rw [if_neg h1, if_neg h2, if_neg (by omega)]
   simp [Nat.add_assoc]
theorem els_row {w : World} {a : Addr} {f : Nat → R2} : ∀ (n : Nat), (∀ i, i < n → w.cell? (a.add (i * 2)) = some (.int .i64 (f i).1) ∧ w.cell? (a.add (i * 2 + 1)) = some (.int .i64 (f i).2)) →
  ∃ (ds : List C) (vs : List Value) (l : List R2), l.length = n ∧ Els elP ds l ∧ RL (cx0 (fun _ => False) w) ds vs ∧ vs.length = n * 2 ∧ ∀ j v, vs[j]? = some v → w.cell? (a.add j) = some v
 | 0, _ => ⟨[], [], [], rfl, .nil, .nil, rfl, fun j v h => by simp at h⟩
 | n + 1, h => by
  obtain ⟨ds, vs, l, h1, h2, h3, h4, h5⟩ := els_row n (fun i hi => h i (by omega))
  obtain ⟨c1, c2⟩ := h n (by omega)
  refine ⟨ds ++ ratC (f n), vs ++ [.int .i64 (f n).1, .int .i64 (f n).2], l ++ [f n], by simp [h1], h2.snoc rfl, h3.append (.cons (.int _ _) (.cons (.int _ _) .nil)), by simp [h4]; omega, fun j v hj => ?_⟩
  rcases Nat.lt_or_ge j vs.length with hlt | hge
  ·rw [List.getElem?_append_left hlt] at hj
   exact h5 j v hj
  ·rw [List.getElem?_append_right hge, h4] at hj
   rw [h4] at hge
   have hj2 : j - n * 2 < 2 := by
    have := (List.getElem?_eq_some_iff.1 hj).1
    simpa using this
   obtain rfl | rfl : j = n * 2 ∨ j = n * 2 + 1 := by omega
   ·simp at hj
    rw [c1, hj]
   ·rw [show n * 2 + 1 - n * 2 = 1 by omega] at hj
    simp at hj
    rw [c2, hj]
section
variable {H : Type} {enc : TypeId × Value → H} {P : Program} {w : World} {spare : Nat → Bool} {held : Bool}
theorem open_rats {T vH : TypeId} (sl : P.underlying T = some (.slice vH)) (bD : twoB P vH 1 1 2 (isI64 P) = true) {r : Reach} {b0 : Nat} {v : Value} {d : DataW H} {p : List MemPlace} (hv : Value.okWide P w r b0 T v) (h : DataW.Trod enc P w 0 spare held T v d p) :
  ∃ (l : List R2) (c : C), Ls elP c l ∧ RV (cx0 (fun _ => False) w) (.c c) v := by
 obtain ⟨f0, f1, hs, o0, o1, k0, k1, hC, i0, i1⟩ := twoB_out bD
 obtain ⟨a0, len, cap, rfl⟩ := okWide_slice sl hv
 obtain ⟨fuel, hf⟩ := h
 rcases DataW.trod_slice sl hf with ⟨h0, _⟩ | ⟨a, len', cap', elems, rest, n, _, h0, _, _, hl, _, hlen, hel, _⟩
 ·simp [Value.cells] at h0
  obtain ⟨rfl, rfl, rfl⟩ := h0
  exact ⟨[], .nilSl, .nil, .c .nilSl⟩
 ·simp [Value.cells] at h0
  obtain ⟨rfl, rfl, rfl⟩ := h0
  have key : ∀ i, ∃ q : R2, i < len → w.cell? (a.add (i * 2)) = some (.int .i64 q.1) ∧ w.cell? (a.add (i * 2 + 1)) = some (.int .i64 q.2) := by
   intro i
   by_cases hi : i < len
   ·have he := hel i hi
    rw [List.getElem?_eq_getElem (by omega)] at he
    simp only [Option.bind_eq_some_iff] at he
    obtain ⟨cs, hcs, htr⟩ := he
    obtain ⟨x, y, rfl⟩ := open_two hs o0 o1 k0 k1 hC (isI64_out i0) (isI64_out i1) htr
    rw [hC] at hcs
    refine ⟨(x, y), fun _ => ?_⟩
    obtain ⟨_, _, hg⟩ := World.cells?_some hcs
    have g0 := hg 0 (by decide)
    have g1 := hg 1 (by decide)
    rw [addr_add_add] at g0 g1
    exact ⟨by simpa using g0, by simpa using g1⟩
   ·exact ⟨(0, 0), fun h => absurd h hi⟩
  obtain ⟨f, hf⟩ := Classical.axiomOfChoice key
  obtain ⟨ds, vs, l, h1, h2, h3, h4, h5⟩ := els_row len (fun i hi => hf i hi)
  refine ⟨l, .imm l.length ds, .imm h2, .c ?_⟩
  rw [h1]
  exact .imm hl (fun j v hj => ⟨fun h => h.elim, h5 j v hj⟩) h3
end
theorem rats_sl : Tryz.prog.underlying T_sl_api_Rat = some (.slice vH) := by kernel_rfl
end Go.Proofs.YtokckcnfojjpjaaGreat
