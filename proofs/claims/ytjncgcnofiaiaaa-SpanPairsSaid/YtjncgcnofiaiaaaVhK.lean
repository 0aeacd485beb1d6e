/-
  num.Z.Int; ref01.Q.den.
-/
import Derived.Test.YtjncgcnofiaiaaaVhJ
set_option linter.unusedVariables false
set_option linter.unusedSimpArgs false
namespace Go.Proofs.Ytjncgcnofiaiaaa
open Go.RowKit
set_option maxRecDepth 20000

def SmallK (z : Int) (p : Prop) (u : V) : Prop := ∃ r b, u = .tup [i64 r, .c (.bool b)] ∧ (b = true ↔ p) ∧ (b = true → r = z)
theorem SmallK.fz {z r : Int} {p : Prop} {b : Bool} {H : Hp} (h : b = true ↔ p) (h2 : b = true → r = z) : ∃ d, FzV H (.tup [i64 r, .c (.bool b)]) d ∧ SmallK z p d :=
  ⟨_, .tup (.cons (.c (.hf trivial)) (.cons (.c (.hf trivial)) .nil)), r, b, rfl, h, h2⟩
attribute [local irreducible] compare' semH semC qLen qNil qIad qSlc qIdx ldBox ldCells stBox appX awpF awpOpsF awpDF xopF xopDF qval lval seqQ blockQ loopQ bodyF retKF cnd arith IntKind.wrap

theorem num_Z_Int {cs : List C} {z most : Int} (hz : IsZ cs z) (h0 : 0 ≤ most) (h1 : most < 9223372036854775808) : semC Try.prog n_num_Z_Int [.agg cs, i64 most] (SmallK z (-most ≤ z ∧ z ≤ most)) := by
  refine semC_of_awpF ok_num_Z_Int rfl (show HFVs [.agg cs, i64 most] from ⟨hz.hf, trivial, trivial⟩) ?_
  rcases hz.look with ⟨rfl, x1, x2⟩ | ⟨lx, nx, rfl, xn, xv, xe⟩
  · refine go ?_
    cases hq : compare' Cm.gtr z most
    · simp [compare'] at hq
      refine go ?_
      rw [show IntKind.i64.wrap (0 - most) = -most by rw [wrap_i64 (by omega) (by omega)]; omega]
      cases hr : compare' Cm.lss z (-most)
      · simp [compare'] at hr
        refine go ?_
        exact SmallK.fz ⟨fun _ => ⟨hr, hq⟩, fun _ => rfl⟩ (fun _ => rfl)
      · simp [compare'] at hr
        refine go ?_
        exact SmallK.fz ⟨fun h => (by cases h), fun h => absurd h.1 (by omega)⟩ (fun h => by cases h)
    · simp [compare'] at hq
      refine go ?_
      exact SmallK.fz ⟨fun h => (by cases h), fun h => absurd h.2 (by omega)⟩ (fun h => by cases h)
  · refine go ?_
    refine SmallK.fz ⟨fun h => (by cases h), fun h => ?_⟩ (fun h => by cases h)
    exfalso
    rw [xe] at h
    cases nx <;> simp [amt] at h <;> omega

/-- The cells of a ref01.Q stand for n / d; no words at all below stand for 1. -/
inductive IsRQ : List C → Int → Int → Prop
  | mk {n d : List C} {a b : Int} (hn : IsW n a) (hd : IsW d b) : IsRQ (n ++ d) a (if b = 0 then 1 else b)
theorem ref01_den {n d : List C} {a b : Int} (hn : IsW n a) (hd : IsW d b) : semC Try.prog n_ref01_Q_den [.agg (n ++ d)] (WK (if b = 0 then 1 else b)) := by
  obtain ⟨c1, l1, m1, rfl, w1, o1, g1, e1⟩ := hn.two
  obtain ⟨c2, l2, m2, rfl, w2, o2, g2, e2⟩ := hd.two
  refine semC_of_awpF ok_ref01_Q_den rfl (show HFVs [.agg [c1, .bool m1, c2, .bool m2]] from ⟨⟨w1.hf, trivial, w2.hf, trivial, trivial⟩, trivial⟩) ?_
  refine go ?_
  refine semH_of_semC (ref01_whole_isNought hd) (fun u hu => ?_)
  obtain ⟨z, rfl, hz⟩ := hu
  cases z
  · refine go ?_
    have hb : ¬ b = 0 := fun h => by
      have := hz.2 h
      cases this
    rw [if_neg hb]
    exact WK.fz hd
  · refine go ?_
    refine semH_of_semC ref01_one (fun u hu => ?_)
    obtain ⟨es, rfl, he⟩ := hu
    obtain ⟨c', l', m', rfl, _⟩ := he.two
    refine go ?_
    rw [if_pos (hz.1 rfl)]
    exact WK.fz he
end Go.Proofs.Ytjncgcnofiaiaaa
