/-
  bits.Len32, bits.LeadingZeros32.
-/
import Derived.Test.YtjncgcnofiaiaaaVhM
import Derived.Lib.Tables
set_option linter.unusedVariables false
set_option linter.unusedSimpArgs false
namespace Go.Proofs.Ytjncgcnofiaiaaa
open Go.RowKit
set_option maxRecDepth 20000

theorem len8_spec (b : Nat) (h : b < 256) : b < 2 ^ ((Lib.len8tab[b]?).getD 0).toNat ∧ (0 < ((Lib.len8tab[b]?).getD 0).toNat → 2 ^ (((Lib.len8tab[b]?).getD 0).toNat - 1) ≤ b) ∧ ((Lib.len8tab[b]?).getD 0).toNat ≤ 8 := by
  have key : ∀ b : Fin 256, b.val < 2 ^ ((Lib.len8tab[b.val]?).getD 0).toNat ∧ (0 < ((Lib.len8tab[b.val]?).getD 0).toNat → 2 ^ (((Lib.len8tab[b.val]?).getD 0).toNat - 1) ≤ b.val) ∧ ((Lib.len8tab[b.val]?).getD 0).toNat ≤ 8 := by decide +kernel
  exact key ⟨b, h⟩
def tb (b : Nat) : Nat := ((Lib.len8tab[b]?).getD 0).toNat
theorem tb_eq (b : Nat) : ((Lib.len8tab[b]?).getD 0).toNat = tb b := rfl
def LenK (x : Nat) (u : V) : Prop := ∃ r : Nat, u = i64 r ∧ x < 2 ^ r ∧ (0 < x → 0 < r ∧ 2 ^ (r - 1) ≤ x) ∧ r ≤ 32
/-- A byte's length under k bits more. -/
theorem len_shift {x k : Nat} (hk : k ≤ 24) (h : x / 2 ^ k < 256) (h0 : k = 0 ∨ 0 < x / 2 ^ k) :
    ∃ r : Nat, r = k + tb (x / 2 ^ k) ∧ x < 2 ^ r ∧ (0 < x → 0 < r ∧ 2 ^ (r - 1) ≤ x) ∧ r ≤ 32 := by
  obtain ⟨h1, h2, h3⟩ := len8_spec _ h
  simp only [tb_eq] at h1 h2 h3
  generalize tb (x / 2 ^ k) = t at h1 h2 h3 ⊢
  refine ⟨k + t, rfl, ?_, fun hx => ?_, by omega⟩
  · rw [Nat.pow_add, Nat.mul_comm]
    exact (Nat.div_lt_iff_lt_mul (Nat.pow_pos (by decide))).1 h1
  · have ht : 0 < t := by
      rcases Nat.eq_zero_or_pos t with e | e
      · exfalso
        rw [e, Nat.pow_zero] at h1
        rcases h0 with e | e
        · subst e
          rw [Nat.pow_zero, Nat.div_one] at h1
          omega
        · exact Nat.lt_irrefl 0 (Nat.lt_of_lt_of_le e (Nat.le_of_lt_succ h1))
      · exact e
    refine ⟨by omega, ?_⟩
    have h4 := h2 ht
    have e : k + t - 1 = (t - 1) + k := by omega
    rw [e, Nat.pow_add]
    exact (Nat.le_div_iff_mul_le (Nat.pow_pos (by decide))).1 h4
theorem wrap_u8 (n : Int) : IntKind.u8.wrap n = n % 256 := by simp [IntKind.wrap, IntKind.bits, IntKind.signed]
theorem shr16 (a : Nat) : ((a : Nat) : Int).fdiv (2 ^ (min (16 : Int).toNat IntKind.u32.bits)) = ((a / 65536 : Nat) : Int) := by
  rw [show (2 : Int) ^ (min (16 : Int).toNat IntKind.u32.bits) = 65536 by decide, Int.fdiv_eq_ediv_of_nonneg _ (by decide)]
  omega
theorem shr8 (a : Nat) : ((a : Nat) : Int).fdiv (2 ^ (min (8 : Int).toNat IntKind.u32.bits)) = ((a / 256 : Nat) : Int) := by
  rw [show (2 : Int) ^ (min (8 : Int).toNat IntKind.u32.bits) = 256 by decide, Int.fdiv_eq_ediv_of_nonneg _ (by decide)]
  omega
attribute [local irreducible] compare' semH semC qLen qNil qIad qSlc qIdx ldBox ldCells stBox appX awpF awpOpsF awpDF xopF xopDF qval lval seqQ blockQ loopQ bodyF retKF cnd arith IntKind.wrap
theorem bits_Len32 {x : Nat} (hx : x < 4294967296) : semC Try.prog n_bits_Len32 [.c (.int .u32 (x : Int))] (LenK x) := by
  refine semC_of_awpF ok_bits_Len32 rfl (show HFVs [.c (.int .u32 (x : Int))] from ⟨trivial, trivial⟩) ?_
  refine go ?_
  cases h1 : compare' Cm.geq (x : Int) 65536
  · simp only [compare', dec_false] at h1
    refine go ?_
    cases h2 : compare' Cm.geq (x : Int) 256
    · simp only [compare', dec_false] at h2
      refine go ?_
      rw [show IntKind.u8.wrap ((x : Nat) : Int) = ((x / 2 ^ 0 : Nat) : Int) by rw [wrap_u8]; omega]
      refine q_idxS (s := Lib.len8tab) (by rfl) (by rfl) (by omega) (by rw [Lib.len8tab_size]; omega) ?_
      refine go ?_
      obtain ⟨r, hr, p1, p2, p3⟩ := len_shift (x := x) (k := 0) (by omega) (by omega) (Or.inl rfl)
      rw [Int.toNat_natCast, tb_eq, show IntKind.i64.wrap ((tb (x / 2 ^ 0) : Nat) : Int) = ((tb (x / 2 ^ 0) : Nat) : Int) by rw [wrap_i64 (by omega) (by omega)], show arith .add .i64 0 ((tb (x / 2 ^ 0) : Nat) : Int) = ((r : Nat) : Int) by rw [ar_add, wrap_i64 (by omega) (by omega), hr]; omega]
      exact ⟨_, .c (.hf trivial), r, rfl, p1, p2, p3⟩
    · simp only [compare', dec_true] at h2
      refine go ?_
      rw [shr8]
      refine go ?_
      rw [show IntKind.u8.wrap ((x / 256 : Nat) : Int) = ((x / 2 ^ 8 : Nat) : Int) by rw [wrap_u8]; omega]
      refine q_idxS (s := Lib.len8tab) (by rfl) (by rfl) (by omega) (by rw [Lib.len8tab_size]; omega) ?_
      refine go ?_
      obtain ⟨r, hr, p1, p2, p3⟩ := len_shift (x := x) (k := 8) (by omega) (by omega) (Or.inr (by omega))
      rw [Int.toNat_natCast, tb_eq, show IntKind.i64.wrap ((tb (x / 2 ^ 8) : Nat) : Int) = ((tb (x / 2 ^ 8) : Nat) : Int) by rw [wrap_i64 (by omega) (by omega)], show arith .add .i64 0 8 = 8 by rw [ar_add, wrap_i64 (by omega) (by omega)]; rfl, show arith .add .i64 8 ((tb (x / 2 ^ 8) : Nat) : Int) = ((r : Nat) : Int) by rw [ar_add, wrap_i64 (by omega) (by omega), hr]; omega]
      exact ⟨_, .c (.hf trivial), r, rfl, p1, p2, p3⟩
  · simp only [compare', dec_true] at h1
    refine go ?_
    rw [shr16]
    cases h2 : compare' Cm.geq ((x / 65536 : Nat) : Int) 256
    · simp only [compare', dec_false] at h2
      refine go ?_
      rw [show IntKind.u8.wrap ((x / 65536 : Nat) : Int) = ((x / 2 ^ 16 : Nat) : Int) by rw [wrap_u8]; omega]
      refine q_idxS (s := Lib.len8tab) (by rfl) (by rfl) (by omega) (by rw [Lib.len8tab_size]; omega) ?_
      refine go ?_
      obtain ⟨r, hr, p1, p2, p3⟩ := len_shift (x := x) (k := 16) (by omega) (by omega) (Or.inr (by omega))
      rw [Int.toNat_natCast, tb_eq, show IntKind.i64.wrap ((tb (x / 2 ^ 16) : Nat) : Int) = ((tb (x / 2 ^ 16) : Nat) : Int) by rw [wrap_i64 (by omega) (by omega)], show arith .add .i64 16 ((tb (x / 2 ^ 16) : Nat) : Int) = ((r : Nat) : Int) by rw [ar_add, wrap_i64 (by omega) (by omega), hr]; omega]
      exact ⟨_, .c (.hf trivial), r, rfl, p1, p2, p3⟩
    · simp only [compare', dec_true] at h2
      refine go ?_
      rw [shr8]
      refine go ?_
      rw [show IntKind.u8.wrap ((x / 65536 / 256 : Nat) : Int) = ((x / 2 ^ 24 : Nat) : Int) by rw [wrap_u8]; omega]
      refine q_idxS (s := Lib.len8tab) (by rfl) (by rfl) (by omega) (by rw [Lib.len8tab_size]; omega) ?_
      refine go ?_
      obtain ⟨r, hr, p1, p2, p3⟩ := len_shift (x := x) (k := 24) (by omega) (by omega) (Or.inr (by omega))
      rw [Int.toNat_natCast, tb_eq, show IntKind.i64.wrap ((tb (x / 2 ^ 24) : Nat) : Int) = ((tb (x / 2 ^ 24) : Nat) : Int) by rw [wrap_i64 (by omega) (by omega)], show arith .add .i64 16 8 = 24 by rw [ar_add, wrap_i64 (by omega) (by omega)]; rfl, show arith .add .i64 24 ((tb (x / 2 ^ 24) : Nat) : Int) = ((r : Nat) : Int) by rw [ar_add, wrap_i64 (by omega) (by omega), hr]; omega]
      exact ⟨_, .c (.hf trivial), r, rfl, p1, p2, p3⟩

def LzK (x : Nat) (u : V) : Prop := ∃ s : Nat, u = i64 s ∧ s ≤ 31 ∧ 2147483648 ≤ x * 2 ^ s ∧ x * 2 ^ s < 4294967296
theorem bits_LeadingZeros32 {x : Nat} (hx : x < 4294967296) (h0 : 0 < x) : semC Try.prog n_bits_LeadingZeros32 [.c (.int .u32 (x : Int))] (LzK x) := by
  refine semC_of_awpF ok_bits_LeadingZeros32 rfl (show HFVs [.c (.int .u32 (x : Int))] from ⟨trivial, trivial⟩) ?_
  refine go ?_
  refine semH_of_semC (bits_Len32 hx) (fun u hu => ?_)
  obtain ⟨r, rfl, p1, p2, p3⟩ := hu
  obtain ⟨p4, p5⟩ := p2 h0
  refine go ?_
  rw [show arith .sub .i64 32 ((r : Nat) : Int) = ((32 - r : Nat) : Int) by rw [ar_sub, wrap_i64 (by omega) (by omega)]; omega]
  refine ⟨_, .c (.hf trivial), 32 - r, rfl, by omega, ?_, ?_⟩
  · have h1 := Nat.mul_le_mul_right (2 ^ (32 - r)) p5
    rw [← Nat.pow_add, show r - 1 + (32 - r) = 31 by omega] at h1
    exact h1
  · have h1 := Nat.mul_lt_mul_of_pos_right p1 (Nat.pow_pos (n := 32 - r) (show 0 < 2 by decide))
    rw [← Nat.pow_add, show r + (32 - r) = 32 by omega] at h1
    exact h1
end Go.Proofs.Ytjncgcnofiaiaaa
