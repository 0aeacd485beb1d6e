/-
  ref01.trim of a slice of a box.
-/
import Derived.Test.YtjncgcnofiaiaaaVhO
set_option linter.unusedVariables false
set_option linter.unusedSimpArgs false
namespace Go.Proofs.Ytjncgcnofiaiaaa
open Go.RowKit
set_option maxRecDepth 20000

theorem slc_sl {e : Env} {x : Option V} {lo hi : Option AO} {b off n : Nat} {co : Option Nat} {l h : Int} {K : V → Prop} (hx : x = some (.c (.sl b off n co 1))) (h1 : bnd e 0 lo = some l) (h2 : bnd e n hi = some h) (h3 : 0 ≤ l) (h4 : l ≤ h) (h5 : h ≤ n)
    (k : K (.c (.sl b (off + l.toNat * 1) (h.toNat - l.toNat) (co.map (· - l.toNat)) 1))) : qSlc e 1 x lo hi none K := by
  subst hx
  simp only [qSlc, h1, h2]
  exact chk_intro (by simp; omega) k
attribute [local irreducible] compare' semH semC qLen qNil qIad qSlc qIdx ldBox ldCells stBox appX awpF awpOpsF awpDF xopF xopDF qval lval seqQ blockQ loopQ bodyF retKF cnd arith IntKind.wrap

theorem ref01_trim_box {H : Hp} {b : Nat} {out : List Nat} {el : TypeId} {kd : BK} {co : Option Nat} {K : V → Hp → Prop} (hb : H[b]? = some (.live ⟨out.map W, el, kd⟩)) (hl : out.length < 4611686018427387904)
    (hK : ∀ k co', k ≤ out.length → val (out.take k) = val out → (k ≠ 0 → at0 out (k - 1) ≠ 0) → K (.c (.sl b 0 k co' 1)) H) : semH Try.prog n_ref01_trim [.c (.sl b 0 out.length co 1)] H K := by
  refine semH_of_awpF ok_ref01_trim rfl ?_
  refine go ?_
  refine f_loop (fun m vs H' => ∃ k co', vs = [.c (.sl b 0 k co' 1)] ∧ H' = H ∧ m = k ∧ k ≤ out.length ∧ val (out.take k) = val out) (by rfl) ⟨_, _, rfl, rfl, rfl, Nat.le_refl _, val_all (Nat.le_refl _)⟩ ?_
  rintro m vs H' ⟨k, co', rfl, rfl, rfl, k1, k2⟩
  refine go ?_
  cases hq : compare' Cm.gtr (m : Int) 0
  · simp [compare'] at hq
    refine go ?_
    exact hK m co' k1 k2 (fun h => absurd hq h)
  · simp [compare'] at hq
    refine go ?_
    have e : arith .sub .i64 (m : Int) 1 = ((m - 1 : Nat) : Int) := by
      rw [ar_sub, wrap_i64 (by omega) (by omega)]
      omega
    rw [e]
    refine idx_sl (by rfl) (by rfl) (by omega) (by omega) ?_
    refine go ?_
    refine ld_word (k := m - 1) hb (by omega) (by omega) ?_
    refine go ?_
    cases h : compare' Cm.eql ((at0 out (m - 1) : Nat) : Int) 0
    · simp only [compare', dec_false] at h
      refine go ?_
      exact hK m co' k1 k2 (fun _ => by omega)
    · simp only [compare', dec_true] at h
      refine go ?_
      refine slc_sl (by rfl) (by rfl) (by rfl) (by omega) (by rw [e]; omega) (by rw [e]; omega) ?_
      refine go ?_
      rw [e]
      refine l_n (by rfl) ?_ ⟨_, _, rfl, rfl, rfl, ?_, ?_⟩
      · simp; omega
      · simp; omega
      · have hv := val_take_succ out (m - 1)
        rw [show m - 1 + 1 = m by omega, show at0 out (m - 1) = 0 by omega] at hv
        simp
        omega
end Go.Proofs.Ytjncgcnofiaiaaa
