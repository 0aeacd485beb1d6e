/-
  isoclineref01.whole: isOne, ofInt, cmp, den.
-/
import Derived.Test.YtjncgcnofiaiaaaVhI
set_option linter.unusedVariables false
set_option linter.unusedSimpArgs false
namespace Go.Proofs.Ytjncgcnofiaiaaa
open Go.RowKit
set_option maxRecDepth 20000

theorem len_one {l : List Nat} (h : l.length = 1) : val l = at0 l 0 := by
  match l, h with
  | [x], _ => simp [val, at0]
theorem val_one {l : List Nat} (hn : Norm l) (h : val l = 1) : l.length = 1 := by
  have h1 := norm_len (n := 1) hn (by rw [h]; decide)
  rcases Nat.eq_zero_or_pos l.length with h0 | h0
  · have : l = [] := List.length_eq_zero_iff.1 h0
    subst this
    simp [val] at h
  · omega
theorem sgn_pos {n : Int} (h : 0 < n) : sgn n = 1 := by unfold sgn; rw [if_neg (by omega), if_neg (by omega)]
theorem sgn_lt {n : Int} (h : n < 0) : sgn n = -1 := by unfold sgn; rw [if_pos h]
theorem sgn_zero : sgn 0 = 0 := rfl
theorem sgn_neg (n : Int) : sgn (-n) = -sgn n := by
  rcases Int.lt_trichotomy n 0 with h | h | h
  · rw [sgn_lt h, sgn_pos (by omega)]
    rfl
  · subst h
    rfl
  · rw [sgn_pos h, sgn_lt (by omega)]
theorem sgn_range (n : Int) : -1 ≤ sgn n ∧ sgn n ≤ 1 := by
  unfold sgn
  split
  · omega
  · split <;> omega
attribute [local irreducible] compare' semH semC qLen qNil qIad qSlc qIdx ldBox ldCells stBox appX awpF awpOpsF awpDF xopF xopDF qval lval seqQ blockQ loopQ bodyF retKF cnd arith IntKind.wrap

theorem ref01_isOne {cs : List C} {z : Int} (hz : IsW cs z) : semC Try.prog n_ref01_isOne [.agg cs] (BoolK (z = 1)) := by
  refine semC_of_awpF ok_ref01_isOne rfl (show HFVs [.agg cs] from ⟨hz.hf, trivial⟩) ?_
  obtain ⟨c, l, minus, rfl, hc, hn, hm, e⟩ := hz.two
  have key : z = 1 → minus = false ∧ l.length = 1 ∧ at0 l 0 = 1 := by
    intro h
    rw [h] at e
    cases minus
    · simp [amt] at e
      have h1 := val_one hn (by omega)
      exact ⟨rfl, h1, by rw [← len_one h1]; omega⟩
    · simp [amt] at e
      omega
  refine go ?_
  cases hq : compare' Cm.eql (l.length : Int) 1
  · simp only [compare', dec_false] at hq
    refine go ?_
    exact BoolK.fz ⟨fun h => (by cases h), fun h => absurd (key h).2.1 (by omega)⟩
  · simp only [compare', dec_true] at hq
    refine go ?_
    cases hq2 : compare' Cm.eql ((at0 l (0 : Int).toNat : Nat) : Int) 1
    · simp only [compare', dec_false] at hq2
      refine go ?_
      exact BoolK.fz ⟨fun h => (by cases h), fun h => absurd (key h).2.2 (fun e => hq2 (by show ((at0 l 0 : Nat) : Int) = 1; omega))⟩
    · simp only [compare', dec_true] at hq2
      have h3 : at0 l 0 = 1 := by
        have : ((at0 l 0 : Nat) : Int) = 1 := hq2
        omega
      refine go ?_
      refine BoolK.fz ⟨fun h => ?_, fun h => by rw [(key h).1]; rfl⟩
      cases minus
      · rw [e, len_one (by omega), h3]
        rfl
      · simp at h

theorem ref01_ofInt {v : Int} (h1 : -9223372036854775808 ≤ v) (h2 : v < 9223372036854775808) : semC Try.prog n_ref01_ofInt [i64 v] (WK v) := by
  refine semC_of_awpF ok_ref01_ofInt rfl (show HFVs [i64 v] from ⟨trivial, trivial⟩) ?_
  have ht := ref01_trim (.imm [v.natAbs % 4294967296, v.natAbs / 4294967296]) (by simp)
  refine go ?_
  cases hq : compare' Cm.lss v 0
  · have hq0 := hq
    simp [compare'] at hq
    refine go ?_
    rw [show IntKind.u64.wrap v = ((v.natAbs : Nat) : Int) by rw [wrap_u64]; omega, shrN, show IntKind.u32.wrap ((v.natAbs : Nat) : Int) = ((v.natAbs % 4294967296 : Nat) : Int) by rw [wrap_u32]; omega, show IntKind.u32.wrap ((v.natAbs / 4294967296 : Nat) : Int) = ((v.natAbs / 4294967296 : Nat) : Int) by rw [wrap_u32]; omega]
    refine semH_of_semC_close [1] (.cons (.c (fz_words [v.natAbs % 4294967296, v.natAbs / 4294967296] (by rfl) rfl (by simp) rfl rfl)) .nil) ht (fun u hu => ?_)
    obtain ⟨c', l', rfl, w1, p1, v1, t1⟩ := hu
    refine go ?_
    rw [hq0]
    have hno : Norm l' := ⟨fun x hx => by have := p1.subset hx; simp at this; omega, t1⟩
    rw [show v = amt false (val l') by rw [v1]; simp [amt, val]; omega]
    exact WK.fz (.mk false w1 hno (fun h => by cases h))
  · have hq0 := hq
    simp [compare'] at hq
    refine go ?_
    rw [show IntKind.u64.wrap (0 - IntKind.u64.wrap v) = ((v.natAbs : Nat) : Int) by rw [wrap_u64, wrap_u64]; omega, shrN, show IntKind.u32.wrap ((v.natAbs : Nat) : Int) = ((v.natAbs % 4294967296 : Nat) : Int) by rw [wrap_u32]; omega, show IntKind.u32.wrap ((v.natAbs / 4294967296 : Nat) : Int) = ((v.natAbs / 4294967296 : Nat) : Int) by rw [wrap_u32]; omega]
    refine semH_of_semC_close [1] (.cons (.c (fz_words [v.natAbs % 4294967296, v.natAbs / 4294967296] (by rfl) rfl (by simp) rfl rfl)) .nil) ht (fun u hu => ?_)
    obtain ⟨c', l', rfl, w1, p1, v1, t1⟩ := hu
    refine go ?_
    rw [hq0]
    have hno : Norm l' := ⟨fun x hx => by have := p1.subset hx; simp at this; omega, t1⟩
    have hv : val l' = v.natAbs := by rw [v1]; simp [val]; omega
    rw [show v = amt true (val l') by rw [hv]; simp [amt]; omega]
    exact WK.fz (.mk true w1 hno (fun _ e => by rw [e] at hv; simp [val] at hv; omega))

theorem ref01_whole_cmp {cs ds : List C} {x y : Int} {n : Nat} (hx : IsW cs x) (hy : IsW ds y) (sx : Sz n x) (sy : Sz n y) (hn : n ≤ 1073741824) : semC Try.prog n_ref01_whole_cmp [.agg cs, .agg ds] (IntK (sgn (x - y))) := by
  refine semC_of_awpF ok_ref01_whole_cmp rfl (show HFVs [.agg cs, .agg ds] from ⟨hx.hf, hy.hf, trivial⟩) ?_
  unfold Sz at sx sy
  obtain ⟨c1, l1, m1, rfl, w1, o1, g1, e1⟩ := hx.two
  obtain ⟨c2, l2, m2, rfl, w2, o2, g2, e2⟩ := hy.two
  have hl1 : l1.length ≤ n := norm_len o1 (by rw [e1] at sx; rwa [amt_abs] at sx)
  have hl2 : l2.length ≤ n := norm_len o2 (by rw [e2] at sy; rwa [amt_abs] at sy)
  have ho := ref01_order w1 w2 o1.1 o2.1 (by omega)
  have hs : ∀ r, (l1.length < l2.length → r = -1) → (l2.length < l1.length → r = 1) → (l1.length = l2.length → r = sgn (val l1 - val l2)) → r = sgn (val l1 - val l2) := by
    intro r r1 r2 r3
    rcases Nat.lt_trichotomy l1.length l2.length with h | h | h
    · have := norm_lt o1 o2 h
      rw [r1 h]
      unfold sgn
      rw [if_pos (by omega)]
    · exact r3 h
    · have := norm_lt o2 o1 h
      rw [r2 h]
      unfold sgn
      rw [if_neg (by omega), if_neg (by omega)]
  rw [e1, e2]
  cases m1 <;> cases m2
  · refine go ?_
    refine semH_of_semC ho (fun u hu => ?_)
    obtain ⟨r, rfl, r1, r2, r3⟩ := hu
    refine go ?_
    rw [hs r r1 r2 r3]
    exact IntK.fz
  · refine go ?_
    have := val_pos o2 (g2 rfl)
    rw [sgn_pos (by simp only [amt, cond_true, cond_false]; omega)]
    exact IntK.fz
  · refine go ?_
    have := val_pos o1 (g1 rfl)
    rw [sgn_lt (by simp only [amt, cond_true, cond_false]; omega)]
    exact IntK.fz
  · refine go ?_
    refine semH_of_semC ho (fun u hu => ?_)
    obtain ⟨r, rfl, r1, r2, r3⟩ := hu
    refine go ?_
    have hr := hs r r1 r2 r3
    have hb := sgn_range ((val l1 : Int) - val l2)
    rw [wrap_i64 (by omega) (by omega), Int.zero_sub, hr, ← sgn_neg, show amt true (val l1) - amt true (val l2) = -((val l1 : Int) - val l2) by simp only [amt, cond_true]; omega]
    exact IntK.fz
end Go.Proofs.Ytjncgcnofiaiaaa
