/-
  num.Z: what a Z stands for; words, made.
-/
import Derived.Test.YtjncgcnofiaiaaaVhB
set_option linter.unusedVariables false
set_option linter.unusedSimpArgs false
namespace Go.Proofs.Ytjncgcnofiaiaaa
open Go.RowKit
attribute [local irreducible] compare' semH semC qLen qNil qIad qSlc qIdx ldBox ldCells stBox appX awpF awpOpsF awpDF xopF xopDF qval lval seqQ blockQ loopQ bodyF retKF cnd arith IntKind.wrap

def Norm (l : List Nat) : Prop := OkW l ∧ (l ≠ [] → at0 l (l.length - 1) ≠ 0)
def amt (neg : Bool) (n : Nat) : Int := bif neg then -(n : Int) else n
inductive IsZ : List C → Int → Prop
  | small (v : Int) (h1 : -9223372036854775808 ≤ v) (h2 : v < 9223372036854775808) : IsZ [.int .i64 v, .nilSl, .bool false] v
  | big (l : List Nat) (neg : Bool) (hn : Norm l) (h : 9223372036854775808 ≤ val l) : IsZ [.int .i64 0, .imm l.length (l.map W), .bool neg] (amt neg (val l))
theorem IsZ.hf {cs : List C} {z : Int} (h : IsZ cs z) : HFL cs := by
  cases h
  · exact ⟨trivial, trivial, trivial, trivial⟩
  · exact ⟨trivial, HFL_words _, trivial, trivial⟩

theorem fdiv32 (a : Int) : a.fdiv (2 ^ (min (32 : Int).toNat IntKind.u64.bits)) = a / 4294967296 := by
  have : (2 : Int) ^ (min (32 : Int).toNat IntKind.u64.bits) = 4294967296 := by decide
  rw [this, Int.fdiv_eq_ediv_of_nonneg _ (by decide)]
theorem Norm.nil : Norm [] := ⟨fun x h => (by cases h), fun h => (h rfl).elim⟩
theorem Norm.one {x : Nat} (h : x < 4294967296) (h0 : x ≠ 0) : Norm [x] := ⟨fun y hy => by simp at hy; omega, fun _ => by simpa [at0] using h0⟩
theorem Norm.two {x y : Nat} (h : x < 4294967296) (h' : y < 4294967296) (h0 : y ≠ 0) : Norm [x, y] := ⟨fun z hz => by simp at hz; omega, fun _ => by simpa [at0] using h0⟩

def WordsK (z : Int) (u : V) : Prop := ∃ c l neg, u = .tup [.c c, .c (.bool neg)] ∧ Wd c l ∧ Norm l ∧ z = amt neg (val l)
theorem WordsK.fz {z : Int} {c : C} {l : List Nat} {neg : Bool} {H : Hp} {d : C} (h : Fz (· ≠ .bor) H c d) (h1 : Wd d l) (h2 : Norm l) (h3 : z = amt neg (val l)) : ∃ d, FzV H (.tup [.c c, .c (.bool neg)]) d ∧ WordsK z d :=
  ⟨_, .tup (.cons (.c h) (.cons (.c (.hf trivial)) .nil)), d, l, neg, rfl, h1, h2, h3⟩

theorem num_Z_words {cs : List C} {z : Int} (hz : IsZ cs z) : semC Try.prog n_num_Z_words [.agg cs] (WordsK z) := by
  refine semC_of_awpF ok_num_Z_words rfl (show HFVs [.agg cs] from ⟨hz.hf, trivial⟩) ?_
  cases hz with
  | small v h1 h2 =>
    refine go ?_
    cases hq : compare' Cm.lss z 0
    · have hq0 := hq
      simp [compare'] at hq
      refine go ?_
      rw [show IntKind.u64.wrap z = ((z.natAbs : Nat) : Int) by rw [wrap_u64]; omega]
      cases hq2 : compare' Cm.eql ((z.natAbs : Nat) : Int) 0
      · simp [compare'] at hq2
        refine go ?_
        cases hq3 : compare' Cm.eql (((z.natAbs : Nat) : Int).fdiv (2 ^ (min (32 : Int).toNat IntKind.u64.bits))) 0
        · rw [fdiv32] at hq3
          simp only [compare', dec_false] at hq3
          refine go ?_
          rw [hq0, fdiv32, show IntKind.u32.wrap ((z.natAbs : Nat) : Int) = ((z.natAbs % 4294967296 : Nat) : Int) by rw [wrap_u32]; omega, show IntKind.u32.wrap (((z.natAbs : Nat) : Int) / 4294967296) = ((z.natAbs / 4294967296 : Nat) : Int) by rw [wrap_u32]; omega]
          refine WordsK.fz (fz_words [z.natAbs % 4294967296, z.natAbs / 4294967296] (by rfl) (by simp) (by simp) rfl rfl) (.imm _) (.two (by omega) (by omega) (by omega)) ?_
          simp [amt, val]
          omega
        · rw [fdiv32] at hq3
          simp only [compare', dec_true] at hq3
          refine go ?_
          rw [hq0, show IntKind.u32.wrap ((z.natAbs : Nat) : Int) = ((z.natAbs : Nat) : Int) by rw [wrap_u32]; omega]
          refine WordsK.fz (fz_words [z.natAbs] (by rfl) (by simp) (by simp) rfl rfl) (.imm _) (.one (by omega) (by omega)) ?_
          simp [amt, val]
          omega
      · simp [compare'] at hq2
        refine go ?_
        exact WordsK.fz (.hf trivial) .nil .nil (by simp [amt, val]; omega)
    · have hq0 := hq
      simp [compare'] at hq
      refine go ?_
      rw [show IntKind.u64.wrap (0 - IntKind.u64.wrap z) = ((z.natAbs : Nat) : Int) by rw [wrap_u64, wrap_u64]; omega]
      cases hq2 : compare' Cm.eql ((z.natAbs : Nat) : Int) 0
      · simp [compare'] at hq2
        refine go ?_
        cases hq3 : compare' Cm.eql (((z.natAbs : Nat) : Int).fdiv (2 ^ (min (32 : Int).toNat IntKind.u64.bits))) 0
        · rw [fdiv32] at hq3
          simp only [compare', dec_false] at hq3
          refine go ?_
          rw [hq0, fdiv32, show IntKind.u32.wrap ((z.natAbs : Nat) : Int) = ((z.natAbs % 4294967296 : Nat) : Int) by rw [wrap_u32]; omega, show IntKind.u32.wrap (((z.natAbs : Nat) : Int) / 4294967296) = ((z.natAbs / 4294967296 : Nat) : Int) by rw [wrap_u32]; omega]
          refine WordsK.fz (fz_words [z.natAbs % 4294967296, z.natAbs / 4294967296] (by rfl) (by simp) (by simp) rfl rfl) (.imm _) (.two (by omega) (by omega) (by omega)) ?_
          simp [amt, val]
          omega
        · rw [fdiv32] at hq3
          simp only [compare', dec_true] at hq3
          refine go ?_
          rw [hq0, show IntKind.u32.wrap ((z.natAbs : Nat) : Int) = ((z.natAbs : Nat) : Int) by rw [wrap_u32]; omega]
          refine WordsK.fz (fz_words [z.natAbs] (by rfl) (by simp) (by simp) rfl rfl) (.imm _) (.one (by omega) (by omega)) ?_
          simp [amt, val]
          omega
      · simp [compare'] at hq2
        refine go ?_
        exact WordsK.fz (.hf trivial) .nil .nil (by simp [amt, val]; omega)
  | big l neg hn hv =>
    refine go ?_
    exact WordsK.fz (.hf (HFL_words _)) (.imm l) hn rfl
end Go.Proofs.Ytjncgcnofiaiaaa
