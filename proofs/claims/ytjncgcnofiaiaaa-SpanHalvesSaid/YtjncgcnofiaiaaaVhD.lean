/-
  num.made.
-/
import Derived.Test.YtjncgcnofiaiaaaVhC
set_option linter.unusedVariables false
set_option linter.unusedSimpArgs false
namespace Go.Proofs.Ytjncgcnofiaiaaa
open Go.RowKit
set_option maxRecDepth 20000

def ZK (z : Int) (u : V) : Prop := ∃ cs, u = .agg cs ∧ IsZ cs z
theorem or_words {h b : Nat} (hh : h < 4294967296) (hb : b < 4294967296) : arith .or .u64 ((h * 4294967296 : Nat) : Int) (b : Int) = ((h * 4294967296 + b : Nat) : Int) := by
  have e : (BitVec.ofInt 64 ((h * 4294967296 : Nat) : Int) ||| BitVec.ofInt 64 (b : Int)).toNat = h * 4294967296 + b := by
    rw [BitVec.toNat_or, BitVec.toNat_ofInt, BitVec.toNat_ofInt]
    have e1 : (((h * 4294967296 : Nat) : Int) % ((2 ^ 64 : Nat) : Int)).toNat = h <<< 32 := by
      rw [Nat.shiftLeft_eq]
      omega
    have e2 : ((b : Int) % ((2 ^ 64 : Nat) : Int)).toNat = b := by omega
    rw [e1, e2, ← Nat.shiftLeft_add_eq_or_of_lt (by omega : b < 2 ^ 32), Nat.shiftLeft_eq]
  show IntKind.u64.wrap _ = _
  show IntKind.u64.wrap ((BitVec.ofInt 64 ((h * 4294967296 : Nat) : Int) ||| BitVec.ofInt 64 (b : Int)).toNat : Int) = _
  rw [e, wrap_u64]
  omega
theorem shl32 (a : Int) : a * 2 ^ (min (32 : Int).toNat IntKind.u64.bits) = a * 4294967296 := by
  have : (2 : Int) ^ (min (32 : Int).toNat IntKind.u64.bits) = 4294967296 := by decide
  rw [this]
theorem val_ge {l : List Nat} (h : Norm l) (h3 : 2 < l.length) : 18446744073709551616 ≤ val l := by
  rw [val_split l (l.length - 1), drop_cons (by omega)]
  have h1 := h.2 (fun e => by simp [e] at h3)
  have e1 : (l.take (l.length - 1)).length = l.length - 1 := by simp
  rw [e1]
  simp only [val]
  have h2 : (4294967296 : Nat) ^ 2 ≤ 4294967296 ^ (l.length - 1) := Nat.pow_le_pow_right (by decide) (by omega)
  have h4 : 4294967296 ^ (l.length - 1) * 1 ≤ 4294967296 ^ (l.length - 1) * (at0 l (l.length - 1) + 4294967296 * val (l.drop (l.length - 1 + 1))) := Nat.mul_le_mul_left _ (by omega)
  have h5 : (4294967296 : Nat) ^ 2 = 18446744073709551616 := by decide
  omega
theorem val_two {l : List Nat} (h : OkW l) (h2 : l.length ≤ 2) : val l < 18446744073709551616 := by
  have h1 := val_lt h
  have h3 : (4294967296 : Nat) ^ l.length ≤ 4294967296 ^ 2 := Nat.pow_le_pow_right (by decide) h2
  have h5 : (4294967296 : Nat) ^ 2 = 18446744073709551616 := by decide
  omega

attribute [local irreducible] compare' semH semC qLen qNil qIad qSlc qIdx ldBox ldCells stBox appX awpF awpOpsF awpDF xopF xopDF qval lval seqQ blockQ loopQ bodyF retKF cnd arith IntKind.wrap
theorem ZK.fz {z : Int} {cs : List C} {H : Hp} (h : IsZ cs z) : ∃ d, FzV H (.agg cs) d ∧ ZK z d := ⟨_, .agg (.hf h.hf), cs, rfl, h⟩

theorem num_made {c : C} {l : List Nat} (neg : Bool) (hc : Wd c l) (ho : OkW l) (hl : l.length < 4611686018427387904) : semC Try.prog n_num_made [.c c, .c (.bool neg)] (ZK (amt neg (val l))) := by
  refine semC_of_awpF ok_num_made rfl (show HFVs [.c c, .c (.bool neg)] from ⟨hc.hf, trivial, trivial⟩) ?_
  refine go ?_
  refine f_loop (fun n vs H => ∃ c' l', vs = [.c c', .c (.bool neg), .c (.ptr 0 0)] ∧ H = [.live ⟨[.int .i64 0, .nilSl, .bool false], T_num_Z, .rw⟩] ∧ n = l'.length ∧ Wd c' l' ∧ l' <+: l ∧ val l' = val l) (by rfl) ⟨_, l, rfl, rfl, rfl, hc, List.prefix_refl l, rfl⟩ ?_
  rintro n vs H ⟨c', l', rfl, rfl, rfl, hc', h1, h2⟩
  have hll := h1.length_le
  refine go ?_
  cases hq : compare' Cm.gtr (l'.length : Int) 0
  · simp [compare'] at hq
    refine go ?_
    have hno : Norm l' := by rw [hq]; exact .nil
    cases hq2 : compare' Cm.leq (l'.length : Int) 2
    · simp [compare'] at hq2
      refine go ?_
      have hg := val_ge hno (by omega)
      rw [← h2]
      cases hc' with
      | nil => simp at hq2
      | imm => exact ZK.fz (.big l' neg hno (by omega))
    · simp [compare'] at hq2
      refine go ?_
      refine f_loop (fun n vs H => ∃ i u : Int, vs = [.c c', .c (.bool neg), .c (.ptr 0 0), .c (.int .u64 u), i64 i] ∧ H = [.live ⟨[.int .i64 0, .nilSl, .bool false], T_num_Z, .rw⟩] ∧ n = (i + 1).toNat ∧ -1 ≤ i ∧ i < l'.length ∧ u = ((val (l'.drop (i + 1).toNat) : Nat) : Int)) (by rfl) ⟨_, _, rfl, rfl, rfl, ?_⟩ ?_
      · rw [ar_sub, wrap_i64 (by omega) (by omega)]
        refine ⟨by omega, by omega, ?_⟩
        have e : ((l'.length : Int) - 1 + 1).toNat = l'.length := by omega
        rw [e, List.drop_length]
        rfl
      · rintro n vs H ⟨i, u, rfl, rfl, rfl, k1, k2, rfl⟩
        refine go ?_
        refine cnd_intro (fun h => ?_) (fun h => ?_)
        · simp [compare'] at h
          refine go ?_
          have ei : (i + 1).toNat = i.toNat + 1 := by omega
          have ei' : (i - 1 + 1).toNat = i.toNat := by omega
          have ho' : OkW l' := hno.1
          have hv1 : val (l'.drop (i + 1).toNat) < 4294967296 := by
            have h7 := val_lt (ho'.drop (i + 1).toNat)
            have h8 : (4294967296 : Nat) ^ (l'.drop (i + 1).toNat).length ≤ 4294967296 ^ 1 := Nat.pow_le_pow_right (by decide) (by simp; omega)
            have h9 : (4294967296 : Nat) ^ 1 = 4294967296 := by decide
            omega
          have hw := ho'.get i.toNat
          rw [shl32, show IntKind.u64.wrap (((val (l'.drop (i + 1).toNat) : Nat) : Int) * 4294967296) = ((val (l'.drop (i + 1).toNat) * 4294967296 : Nat) : Int) by rw [wrap_u64]; omega, show IntKind.u64.wrap ((at0 l' i.toNat : Nat) : Int) = ((at0 l' i.toNat : Nat) : Int) by rw [wrap_u64]; omega, or_words hv1 hw]
          refine l_n (by rfl) ?_ ⟨_, _, rfl, rfl, rfl, ?_⟩
          · rw [ar_sub, wrap_i64 (by omega) (by omega)]
            omega
          · rw [ar_sub, wrap_i64 (by omega) (by omega)]
            refine ⟨by omega, by omega, ?_⟩
            rw [ei', drop_cons (l := l') (i := i.toNat) (by omega), ← ei]
            simp only [val]
            omega
        · simp [compare'] at h
          have e0 : (i + 1).toNat = 0 := by omega
          rw [e0, List.drop_zero, h2]
          have hvt := val_two hno.1 (by omega)
          rw [h2] at hvt
          refine go ?_
          cases hq3 : compare' Cm.lss ((val l : Nat) : Int) 9223372036854775808
          · simp [compare'] at hq3
            refine go ?_
            cases hc' with
            | nil => simp [val] at h2; omega
            | imm =>
              have := IsZ.big l' neg hno (by omega)
              rw [h2] at this
              exact ZK.fz this
          · simp [compare'] at hq3
            cases neg
            · refine go ?_
              rw [wrap_i64 (by omega) (by omega)]
              exact ZK.fz (.small _ (by omega) (by omega))
            · refine go ?_
              rw [wrap_i64 (n := ((val l : Nat) : Int)) (by omega) (by omega), wrap_i64 (by omega) (by omega), Int.zero_sub]
              exact ZK.fz (.small _ (by omega) (by omega))
  · simp [compare'] at hq
    refine go ?_
    have e : arith .sub .i64 (l'.length : Int) 1 = ((l'.length - 1 : Nat) : Int) := by
      rw [ar_sub, wrap_i64 (by omega) (by omega)]
      omega
    rw [e]
    refine go ?_
    refine cnd_intro (fun h => ?_) (fun h => ?_)
    · simp [compare'] at h
      refine go ?_
      refine slc_wd (by rfl) hc' (by rfl) (by rfl) (by omega) (by rw [e]; omega) (by rw [e]; omega) (fun c'' hc'' => ?_)
      refine go ?_
      rw [e] at hc''
      refine l_n (by rfl) ?_ ⟨c'', _, rfl, rfl, rfl, hc'', ?_, ?_⟩
      · simp
        omega
      · simp
        exact (List.take_prefix _ _).trans h1
      · simp
        rw [val_last hq h, h2]
    · simp [compare'] at h
      refine go ?_
      have hno : Norm l' := ⟨fun x hx => ho x (h1.subset hx), fun _ => h⟩
      cases hq2 : compare' Cm.leq (l'.length : Int) 2
      · simp [compare'] at hq2
        refine go ?_
        have hg := val_ge hno (by omega)
        rw [← h2]
        cases hc' with
        | nil => simp at hq2
        | imm => exact ZK.fz (.big l' neg hno (by omega))
      · simp [compare'] at hq2
        refine go ?_
        refine f_loop (fun n vs H => ∃ i u : Int, vs = [.c c', .c (.bool neg), .c (.ptr 0 0), .c (.int .u64 u), i64 i] ∧ H = [.live ⟨[.int .i64 0, .nilSl, .bool false], T_num_Z, .rw⟩] ∧ n = (i + 1).toNat ∧ -1 ≤ i ∧ i < l'.length ∧ u = ((val (l'.drop (i + 1).toNat) : Nat) : Int)) (by rfl) ⟨_, _, rfl, rfl, rfl, ?_⟩ ?_
        · rw [ar_sub, wrap_i64 (by omega) (by omega)]
          refine ⟨by omega, by omega, ?_⟩
          have e : ((l'.length : Int) - 1 + 1).toNat = l'.length := by omega
          rw [e, List.drop_length]
          rfl
        · rintro n vs H ⟨i, u, rfl, rfl, rfl, k1, k2, rfl⟩
          refine go ?_
          refine cnd_intro (fun h => ?_) (fun h => ?_)
          · simp [compare'] at h
            refine go ?_
            have ei : (i + 1).toNat = i.toNat + 1 := by omega
            have ei' : (i - 1 + 1).toNat = i.toNat := by omega
            have ho' : OkW l' := hno.1
            have hv1 : val (l'.drop (i + 1).toNat) < 4294967296 := by
              have h7 := val_lt (ho'.drop (i + 1).toNat)
              have h8 : (4294967296 : Nat) ^ (l'.drop (i + 1).toNat).length ≤ 4294967296 ^ 1 := Nat.pow_le_pow_right (by decide) (by simp; omega)
              have h9 : (4294967296 : Nat) ^ 1 = 4294967296 := by decide
              omega
            have hw := ho'.get i.toNat
            rw [shl32, show IntKind.u64.wrap (((val (l'.drop (i + 1).toNat) : Nat) : Int) * 4294967296) = ((val (l'.drop (i + 1).toNat) * 4294967296 : Nat) : Int) by rw [wrap_u64]; omega, show IntKind.u64.wrap ((at0 l' i.toNat : Nat) : Int) = ((at0 l' i.toNat : Nat) : Int) by rw [wrap_u64]; omega, or_words hv1 hw]
            refine l_n (by rfl) ?_ ⟨_, _, rfl, rfl, rfl, ?_⟩
            · rw [ar_sub, wrap_i64 (by omega) (by omega)]
              omega
            · rw [ar_sub, wrap_i64 (by omega) (by omega)]
              refine ⟨by omega, by omega, ?_⟩
              rw [ei', drop_cons (l := l') (i := i.toNat) (by omega), ← ei]
              simp only [val]
              omega
          · simp [compare'] at h
            have e0 : (i + 1).toNat = 0 := by omega
            rw [e0, List.drop_zero, h2]
            have hvt := val_two hno.1 (by omega)
            rw [h2] at hvt
            refine go ?_
            cases hq3 : compare' Cm.lss ((val l : Nat) : Int) 9223372036854775808
            · simp [compare'] at hq3
              refine go ?_
              cases hc' with
              | nil => simp [val] at h2; omega
              | imm =>
                have := IsZ.big l' neg hno (by omega)
                rw [h2] at this
                exact ZK.fz this
            · simp [compare'] at hq3
              cases neg
              · refine go ?_
                rw [wrap_i64 (by omega) (by omega)]
                exact ZK.fz (.small _ (by omega) (by omega))
              · refine go ?_
                rw [wrap_i64 (n := ((val l : Nat) : Int)) (by omega) (by omega), wrap_i64 (by omega) (by omega), Int.zero_sub]
                exact ZK.fz (.small _ (by omega) (by omega))
end Go.Proofs.Ytjncgcnofiaiaaa
