/-
  isoclineref01.whole: what one stands for; signed, neg, mul, cmp, one, isOne, isNought, ofInt.
-/
import Derived.Test.YtjncgcnofiaiaaaVhH
set_option linter.unusedVariables false
set_option linter.unusedSimpArgs false
namespace Go.Proofs.Ytjncgcnofiaiaaa
open Go.RowKit
set_option maxRecDepth 20000

inductive IsW : List C → Int → Prop
  | mk {c : C} {l : List Nat} (minus : Bool) (hc : Wd c l) (hn : Norm l) (hm : minus = true → l ≠ []) : IsW [c, .bool minus] (amt minus (val l))
def WK (z : Int) (u : V) : Prop := ∃ cs, u = .agg cs ∧ IsW cs z
theorem IsW.hf {cs : List C} {z : Int} (h : IsW cs z) : HFL cs := by
  cases h with
  | mk minus hc hn hm => exact ⟨hc.hf, trivial, trivial⟩
theorem IsW.two {cs : List C} {z : Int} (h : IsW cs z) : ∃ c l minus, cs = [c, .bool minus] ∧ Wd c l ∧ Norm l ∧ (minus = true → l ≠ []) ∧ z = amt minus (val l) := by
  cases h with
  | mk minus hc hn hm => exact ⟨_, _, minus, rfl, hc, hn, hm, rfl⟩
theorem WK.fz {z : Int} {cs : List C} {H : Hp} (h : IsW cs z) : ∃ d, FzV H (.agg cs) d ∧ WK z d := ⟨_, .agg (.hf h.hf), cs, rfl, h⟩
def BoolK (p : Prop) (u : V) : Prop := ∃ b, u = .c (.bool b) ∧ (b = true ↔ p)
theorem BoolK.fz {p : Prop} {b : Bool} {H : Hp} (h : b = true ↔ p) : ∃ d, FzV H (.c (.bool b)) d ∧ BoolK p d := ⟨_, .c (.hf trivial), b, rfl, h⟩
theorem val_pos {l : List Nat} (h : Norm l) (h0 : l ≠ []) : 0 < val l := by
  have h1 : 0 < l.length := List.length_pos_iff.2 h0
  have := norm_ge h h1
  have h2 : 0 < 4294967296 ^ (l.length - 1) := Nat.pow_pos (by decide)
  omega
attribute [local irreducible] compare' semH semC qLen qNil qIad qSlc qIdx ldBox ldCells stBox appX awpF awpOpsF awpDF xopF xopDF qval lval seqQ blockQ loopQ bodyF retKF cnd arith IntKind.wrap

theorem ref01_signed {c : C} {l : List Nat} (minus : Bool) (hc : Wd c l) (hn : Norm l) : semC Try.prog n_ref01_signed [.c c, .c (.bool minus)] (WK (amt minus (val l))) := by
  refine semC_of_awpF ok_ref01_signed rfl (show HFVs [.c c, .c (.bool minus)] from ⟨hc.hf, trivial, trivial⟩) ?_
  cases minus
  · refine go ?_
    exact WK.fz (.mk false hc hn (fun h => by cases h))
  · refine go ?_
    cases hq : compare' Cm.gtr (l.length : Int) 0
    · simp [compare'] at hq
      subst hq
      refine go ?_
      exact WK.fz (z := amt true (val [])) (.mk (l := []) false hc hn (fun h => by cases h))
    · simp [compare'] at hq
      refine go ?_
      exact WK.fz (.mk true hc hn (fun _ e => by simp [e] at hq))

theorem ref01_whole_neg {cs : List C} {z : Int} (hz : IsW cs z) : semC Try.prog n_ref01_whole_neg [.agg cs] (WK (-z)) := by
  refine semC_of_awpF ok_ref01_whole_neg rfl (show HFVs [.agg cs] from ⟨hz.hf, trivial⟩) ?_
  obtain ⟨c, l, minus, rfl, hc, hn, hm, e⟩ := hz.two
  refine go ?_
  refine semH_of_semC (ref01_signed (!minus) hc hn) (fun u hu => ?_)
  obtain ⟨ds, rfl, hd⟩ := hu
  obtain ⟨c', l', m', rfl, _⟩ := hd.two
  refine go ?_
  rw [e, show -amt minus (val l) = amt (!minus) (val l) by cases minus <;> simp [amt]]
  exact WK.fz hd

theorem ref01_whole_mul {cs ds : List C} {x y : Int} {n : Nat} (hx : IsW cs x) (hy : IsW ds y) (sx : Sz n x) (sy : Sz n y) (hn : n ≤ 1073741824) : semC Try.prog n_ref01_whole_mul [.agg cs, .agg ds] (WK (x * y)) := by
  refine semC_of_awpF ok_ref01_whole_mul rfl (show HFVs [.agg cs, .agg ds] from ⟨hx.hf, hy.hf, trivial⟩) ?_
  unfold Sz at sx sy
  obtain ⟨c1, l1, m1, rfl, w1, o1, _, e1⟩ := hx.two
  obtain ⟨c2, l2, m2, rfl, w2, o2, _, e2⟩ := hy.two
  have hl1 : l1.length ≤ n := norm_len o1 (by rw [e1] at sx; rwa [amt_abs] at sx)
  have hl2 : l2.length ≤ n := norm_len o2 (by rw [e2] at sy; rwa [amt_abs] at sy)
  refine go ?_
  refine call_C (ref01_times w1 w2 o1.1 o2.1 (by omega) (by omega)) (fun u hu => ?_)
  obtain ⟨c3, l3, rfl, w3, o3, v3⟩ := hu
  refine go ?_
  refine call_C (ref01_signed _ w3 o3) (fun u hu => ?_)
  obtain ⟨fs, rfl, hf⟩ := hu
  obtain ⟨c', l', m', rfl, _⟩ := hf.two
  refine go ?_
  rw [e1, e2, amt_mul, ← v3]
  exact WK.fz hf

theorem ref01_one : semC Try.prog n_ref01_one [] (WK 1) := by
  refine semC_of_awpF ok_ref01_one rfl (show HFVs [] from trivial) ?_
  refine go ?_
  refine ⟨_, .agg (.cons (fz_words [1] (by rfl) (by simp) (by simp) rfl rfl) (.cons (.hf trivial) .nil)), _, rfl, ?_⟩
  exact .mk (l := [1]) false (.imm [1]) (.one (by omega) (by omega)) (fun h => by cases h)

theorem ref01_whole_isNought {cs : List C} {z : Int} (hz : IsW cs z) : semC Try.prog n_ref01_whole_isNought [.agg cs] (BoolK (z = 0)) := by
  refine semC_of_awpF ok_ref01_whole_isNought rfl (show HFVs [.agg cs] from ⟨hz.hf, trivial⟩) ?_
  obtain ⟨c, l, minus, rfl, hc, hn, hm, e⟩ := hz.two
  refine go ?_
  refine BoolK.fz ?_
  simp only [compare', dec_true]
  constructor
  · intro h
    have h1 : l = [] := List.length_eq_zero_iff.1 (by omega)
    rw [e, h1]
    cases minus <;> simp [amt, val]
  · intro h
    by_cases h1 : l = []
    · simp [h1]
    · have := val_pos hn h1
      rw [h] at e
      cases minus <;> simp [amt] at e <;> omega
end Go.Proofs.Ytjncgcnofiaiaaa
