/-
  ref01.whole.small.
-/
import Derived.Test.YtjncgcnofiaiaaaVhL
set_option linter.unusedVariables false
set_option linter.unusedSimpArgs false
namespace Go.Proofs.Ytjncgcnofiaiaaa
open Go.RowKit
set_option maxRecDepth 20000

theorem or_comm_words {h b : Nat} (hh : h < 4294967296) (hb : b < 4294967296) : arith .or .u64 (b : Int) ((h * 4294967296 : Nat) : Int) = ((b + 4294967296 * h : Nat) : Int) := by
  have := or_words hh hb
  have e : arith .or .u64 (b : Int) ((h * 4294967296 : Nat) : Int) = arith .or .u64 ((h * 4294967296 : Nat) : Int) (b : Int) := by
    show IntKind.u64.wrap ((BitVec.ofInt 64 (b : Int) ||| BitVec.ofInt 64 ((h * 4294967296 : Nat) : Int)).toNat : Int) = IntKind.u64.wrap ((BitVec.ofInt 64 ((h * 4294967296 : Nat) : Int) ||| BitVec.ofInt 64 (b : Int)).toNat : Int)
    rw [BitVec.or_comm]
  rw [e, this]
  congr 1
  omega
theorem or_zero {b : Nat} (hb : b < 4294967296) : arith .or .u64 0 (b : Int) = (b : Int) := by
  have := or_words (h := 0) (by decide) hb
  simpa using this
/-- The step of small: word number i (0 or 1) is laid over what is there. -/
theorem small_step {l : List Nat} {i : Nat} (ho : OkW l) (hl : l.length ≤ 2) (hi : i < l.length) :
    arith .or .u64 ((val (l.take i) : Nat) : Int) (IntKind.u64.wrap (IntKind.u64.wrap ((at0 l i : Nat) : Int) * 2 ^ (min (arith .mul .u64 32 (IntKind.u64.wrap (i : Int))).toNat IntKind.u64.bits))) = ((val (l.take (i + 1)) : Nat) : Int) ∧ 0 ≤ arith .mul .u64 32 (IntKind.u64.wrap (i : Int)) := by
  have ga := ho.get i
  rw [val_take_succ]
  have h2 : i = 0 ∨ i = 1 := by omega
  rcases h2 with rfl | rfl
  · have e : arith .mul .u64 32 (IntKind.u64.wrap ((0 : Nat) : Int)) = 0 := by rw [ar_mul, wrap_u64, wrap_u64]; rfl
    rw [e]
    refine ⟨?_, by omega⟩
    have e2 : (2 : Int) ^ (min (0 : Int).toNat IntKind.u64.bits) = 1 := by decide
    rw [e2, wrapN _ (by omega), Int.mul_one, wrapN _ (by omega)]
    simp only [List.take_zero, val, Nat.pow_zero, Nat.one_mul, Nat.zero_add]
    exact or_zero ga
  · have e : arith .mul .u64 32 (IntKind.u64.wrap ((1 : Nat) : Int)) = 32 := by rw [ar_mul, wrap_u64, wrap_u64]; rfl
    rw [e]
    refine ⟨?_, by omega⟩
    have hv := val_lt (ho.take 1)
    have e3 : (l.take 1).length = 1 := by simp; omega
    rw [e3] at hv
    rw [shl32, wrapN _ (by omega), show ((at0 l 1 : Nat) : Int) * 4294967296 = ((at0 l 1 * 4294967296 : Nat) : Int) by omega, wrapN _ (by omega), or_comm_words ga (by omega)]
attribute [local irreducible] compare' semH semC qLen qNil qIad qSlc qIdx ldBox ldCells stBox appX awpF awpOpsF awpDF xopF xopDF qval lval seqQ blockQ loopQ bodyF retKF cnd arith IntKind.wrap

theorem ref01_small {cs : List C} {z : Int} (hz : IsW cs z) : semC Try.prog n_ref01_whole_small [.agg cs] (SmallK z (-9223372036854775808 ≤ z ∧ z < 9223372036854775808)) := by
  refine semC_of_awpF ok_ref01_whole_small rfl (show HFVs [.agg cs] from ⟨hz.hf, trivial⟩) ?_
  obtain ⟨c, l, minus, rfl, hc, hn, hm, e⟩ := hz.two
  refine go ?_
  cases hq : compare' Cm.gtr (l.length : Int) 2
  · simp [compare'] at hq
    refine go ?_
    refine f_loop (fun m vs H => ∃ (i : Nat) (u : Int), vs = [.c (.ptr 0 0), .c (.int .u64 u), i64 (i : Int)] ∧ H = [.live ⟨[c, .bool minus], T_isoclineref01_whole, .rw⟩] ∧ m = l.length - i ∧ i ≤ l.length ∧ u = ((val (l.take i) : Nat) : Int)) (by rfl) ⟨0, _, rfl, rfl, rfl, by omega, rfl⟩ ?_
    rintro m vs H ⟨i, u, rfl, rfl, rfl, k1, rfl⟩
    refine go ?_
    cases h : compare' Cm.lss (i : Int) l.length
    · simp [compare'] at h
      have ei : i = l.length := by omega
      subst ei
      rw [val_all (Nat.le_refl _)]
      have hv := val_two hn.1 (by omega)
      cases minus
      · refine go ?_
        refine SmallK.fz ?_ ?_
        · simp only [compare', dec_true]
          rw [e]
          simp only [amt, cond_false]
          omega
        · simp only [compare', dec_true]
          intro h
          rw [wrap_i64 (by omega) (by omega), e]
          rfl
      · refine go ?_
        refine SmallK.fz ?_ ?_
        · simp only [compare', dec_true]
          rw [e]
          simp only [amt, cond_true]
          omega
        · simp only [compare', dec_true]
          intro h
          rw [wrap_i64', wrap_u64, e]
          simp only [amt, cond_true]
          split <;> omega
    · simp [compare'] at h
      refine go ?_
      obtain ⟨s1, s2⟩ := small_step hn.1 (by omega) h
      refine q_shl (by rfl) (by rfl) s2 ?_
      refine go ?_
      rw [show at0 l ((i : Nat) : Int).toNat = at0 l i by rw [Int.toNat_natCast], s1, show arith .add .i64 ((i : Nat) : Int) 1 = ((i + 1 : Nat) : Int) by rw [ar_add, wrap_i64 (by omega) (by omega)]; omega]
      exact l_n (by rfl) (by omega) ⟨i + 1, _, rfl, rfl, rfl, by omega, rfl⟩
  · simp [compare'] at hq
    refine go ?_
    have hg := val_ge hn (by omega)
    refine SmallK.fz ⟨fun h => (by cases h), fun h => ?_⟩ (fun h => by cases h)
    exfalso
    rw [e] at h
    cases minus <;> simp [amt] at h <;> omega
end Go.Proofs.Ytjncgcnofiaiaaa
