/-
  Which api.Rat is a number: num.Valid, ref01.Is.
-/
import Derived.Test.YtjncgcnofiaiaaaVhK
set_option linter.unusedVariables false
set_option linter.unusedSimpArgs false
namespace Go.Proofs.Ytjncgcnofiaiaaa
open Go.RowKit
set_option maxRecDepth 20000

def IsRat (n d : Int) : Prop := 1 ≤ d ∧ d ≤ 1000000000000 ∧ -1000000000000 ≤ n ∧ n ≤ 1000000000000 ∧ Int.gcd n d = 1
theorem gcd_round {a b : Int} : Int.gcd b (a.tmod b) = Int.gcd a b := by
  rw [Int.gcd_eq_natAbs_gcd_natAbs, Int.gcd_eq_natAbs_gcd_natAbs, Int.natAbs_tmod, Nat.gcd_comm a.natAbs, Nat.gcd_rec b.natAbs a.natAbs, Nat.gcd_comm]
theorem tmod_less {a b : Int} (h : b ≠ 0) : (a.tmod b).natAbs < b.natAbs := by
  rw [Int.natAbs_tmod]
  exact Nat.mod_lt _ (by omega)
theorem ar_rem {k : IntKind} {a b : Int} : arith .rem k a b = a.tmod b := rfl
attribute [local irreducible] compare' semH semC qLen qNil qIad qSlc qIdx ldBox ldCells stBox appX awpF awpOpsF awpDF xopF xopDF qval lval seqQ blockQ loopQ bodyF retKF cnd arith IntKind.wrap

theorem num_Valid (n d : Int) : semC Try.prog n_num_Valid [.agg [.int .i64 n, .int .i64 d]] (BoolK (IsRat n d)) := by
  refine semC_of_awpF ok_num_Valid rfl (show HFVs [.agg [.int .i64 n, .int .i64 d]] from ⟨⟨trivial, trivial, trivial⟩, trivial⟩) ?_
  refine go ?_
  cases h1 : compare' Cm.lss d 1
  · simp [compare'] at h1
    refine go ?_
    cases h2 : compare' Cm.gtr d 1000000000000
    · simp [compare'] at h2
      refine go ?_
      cases h3 : compare' Cm.gtr n 1000000000000
      · simp [compare'] at h3
        refine go ?_
        cases h4 : compare' Cm.lss n (-1000000000000)
        · simp [compare'] at h4
          refine go ?_
          refine f_loop (fun m vs H => ∃ a b : Int, vs = [i64 a, i64 b] ∧ m = b.natAbs ∧ Int.gcd a b = Int.gcd n d) (by rfl) ⟨_, _, rfl, rfl, rfl⟩ ?_
          rintro m vs H ⟨a, b, rfl, rfl, hg⟩
          refine go ?_
          cases hq : compare' Cm.neq b 0
          · simp [compare'] at hq
            subst hq
            rw [Int.gcd_zero_right] at hg
            refine go ?_
            cases h5 : compare' Cm.eql a 1
            · simp [compare'] at h5
              refine go ?_
              refine BoolK.fz ?_
              simp only [compare', dec_true]
              exact ⟨fun h => ⟨h1, h2, h4, h3, by rw [← hg, h]; rfl⟩, fun h => by
                have := h.2.2.2.2
                omega⟩
            · simp [compare'] at h5
              refine go ?_
              exact BoolK.fz ⟨fun h => ⟨h1, h2, h4, h3, by rw [← hg, h5]; rfl⟩, fun _ => rfl⟩
          · simp [compare'] at hq
            refine go ?_
            refine q_ar (by rfl) (by rfl) (by simp [needs, hq]) ?_
            refine go ?_
            rw [ar_rem]
            exact l_n (by rfl) (tmod_less hq) ⟨_, _, rfl, rfl, gcd_round.trans hg⟩
        · simp [compare'] at h4
          refine go ?_
          exact BoolK.fz ⟨fun h => (by cases h), fun h => absurd h.2.2.1 (by omega)⟩
      · simp [compare'] at h3
        refine go ?_
        exact BoolK.fz ⟨fun h => (by cases h), fun h => absurd h.2.2.2.1 (by omega)⟩
    · simp [compare'] at h2
      refine go ?_
      exact BoolK.fz ⟨fun h => (by cases h), fun h => absurd h.2.1 (by omega)⟩
  · simp [compare'] at h1
    refine go ?_
    exact BoolK.fz ⟨fun h => (by cases h), fun h => absurd h.1 (by omega)⟩

theorem ref01_Is (n d : Int) : semC Try.prog n_ref01_Is [.agg [.int .i64 n, .int .i64 d]] (BoolK (IsRat n d)) := by
  refine semC_of_awpF ok_ref01_Is rfl (show HFVs [.agg [.int .i64 n, .int .i64 d]] from ⟨⟨trivial, trivial, trivial⟩, trivial⟩) ?_
  refine go ?_
  cases h1 : compare' Cm.lss d 1
  · simp [compare'] at h1
    refine go ?_
    cases h2 : compare' Cm.gtr d 1000000000000
    · simp [compare'] at h2
      refine go ?_
      cases h4 : compare' Cm.lss n (-1000000000000)
      · simp [compare'] at h4
        refine go ?_
        cases h3 : compare' Cm.gtr n 1000000000000
        · simp [compare'] at h3
          refine go ?_
          cases h6 : compare' Cm.lss n 0
          · simp [compare'] at h6
            refine go ?_
            refine f_loop (fun m vs H => ∃ a b : Int, vs = [i64 a, i64 b] ∧ m = b.natAbs ∧ 0 ≤ a ∧ 0 ≤ b ∧ Int.gcd a b = Int.gcd n d) (by rfl) ⟨_, _, rfl, rfl, by omega, by omega, rfl⟩ ?_
            rintro m vs H ⟨a, b, rfl, rfl, p1, p2, hg⟩
            refine go ?_
            cases hq : compare' Cm.gtr b 0
            · simp [compare'] at hq
              have hb : b = 0 := by omega
              subst hb
              rw [Int.gcd_zero_right] at hg
              refine go ?_
              refine BoolK.fz ?_
              simp only [compare', dec_true]
              exact ⟨fun h => ⟨h1, h2, h4, h3, by rw [← hg, h]; rfl⟩, fun h => by
                have := h.2.2.2.2
                omega⟩
            · simp [compare'] at hq
              refine go ?_
              refine q_ar (by rfl) (by rfl) (by simp [needs]; omega) ?_
              refine go ?_
              rw [ar_rem]
              have hp : 0 ≤ a.tmod b := Int.tmod_nonneg _ p1
              exact l_n (by rfl) (tmod_less (by omega)) ⟨_, _, rfl, rfl, p2, hp, gcd_round.trans hg⟩
          · simp [compare'] at h6
            refine go ?_
            rw [show IntKind.i64.wrap (0 - n) = -n by rw [wrap_i64 (by omega) (by omega)]; omega]
            refine f_loop (fun m vs H => ∃ a b : Int, vs = [i64 a, i64 b] ∧ m = b.natAbs ∧ 0 ≤ a ∧ 0 ≤ b ∧ Int.gcd a b = Int.gcd n d) (by rfl) ⟨_, _, rfl, rfl, by omega, by omega, Int.neg_gcd⟩ ?_
            rintro m vs H ⟨a, b, rfl, rfl, p1, p2, hg⟩
            refine go ?_
            cases hq : compare' Cm.gtr b 0
            · simp [compare'] at hq
              have hb : b = 0 := by omega
              subst hb
              rw [Int.gcd_zero_right] at hg
              refine go ?_
              refine BoolK.fz ?_
              simp only [compare', dec_true]
              exact ⟨fun h => ⟨h1, h2, h4, h3, by rw [← hg, h]; rfl⟩, fun h => by
                have := h.2.2.2.2
                omega⟩
            · simp [compare'] at hq
              refine go ?_
              refine q_ar (by rfl) (by rfl) (by simp [needs]; omega) ?_
              refine go ?_
              rw [ar_rem]
              have hp : 0 ≤ a.tmod b := Int.tmod_nonneg _ p1
              exact l_n (by rfl) (tmod_less (by omega)) ⟨_, _, rfl, rfl, p2, hp, gcd_round.trans hg⟩
        · simp [compare'] at h3
          refine go ?_
          exact BoolK.fz ⟨fun h => (by cases h), fun h => absurd h.2.2.2.1 (by omega)⟩
      · simp [compare'] at h4
        refine go ?_
        exact BoolK.fz ⟨fun h => (by cases h), fun h => absurd h.2.2.1 (by omega)⟩
    · simp [compare'] at h2
      refine go ?_
      exact BoolK.fz ⟨fun h => (by cases h), fun h => absurd h.2.1 (by omega)⟩
  · simp [compare'] at h1
    refine go ?_
    exact BoolK.fz ⟨fun h => (by cases h), fun h => absurd h.1 (by omega)⟩
end Go.Proofs.Ytjncgcnofiaiaaa
