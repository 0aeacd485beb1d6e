/-
  ref01.parts: quotient and rest of two amounts.
-/
import Derived.Test.YtjncgcnofiaiaaaVhT
set_option linter.unusedVariables false
set_option linter.unusedSimpArgs false
namespace Go.Proofs.Ytjncgcnofiaiaaa
open Go.RowKit
set_option maxRecDepth 20000

def PartsK (A B : Nat) (u : V) : Prop := ∃ c l d m, u = .tup [.c c, .c d] ∧ Wd c l ∧ Norm l ∧ val l = A / B ∧ Wd d m ∧ Norm m ∧ val m = A % B
theorem PartsK.fz {A B : Nat} {c d : C} {l m : List Nat} {H : Hp} (h1 : Wd c l) (h2 : Norm l) (h3 : val l = A / B) (h4 : Wd d m) (h5 : Norm m) (h6 : val m = A % B) : ∃ e, FzV H (.tup [.c c, .c d]) e ∧ PartsK A B e :=
  ⟨_, .tup (.cons (.c (.hf h1.hf)) (.cons (.c (.hf h4.hf)) .nil)), c, l, d, m, rfl, h1, h2, h3, h4, h5, h6⟩
theorem remN (a b : Nat) : arith .rem .u64 (a : Int) (b : Int) = ((a % b : Nat) : Int) := by
  show (a : Int).tmod b = _
  exact (Int.ofNat_tmod a b).symm
theorem norm_of {l m : List Nat} (h : OkW l) (hp : m <+: l) (ht : m ≠ [] → at0 m (m.length - 1) ≠ 0) : Norm m := ⟨fun x hx => h x (hp.subset hx), ht⟩
/-- Division by one word. -/
theorem short_round {a out : List Nat} {j b rest : Nat} (oa : OkW a) (hb : 0 < b) (hbB : b < 4294967296) (hr : rest < b) (hja : j < a.length) (hjo : j < out.length) (h : val (a.drop (j + 1)) = val (out.drop (j + 1)) * b + rest) :
    (rest * 4294967296 + at0 a j) / b < 4294967296 ∧ val (a.drop j) = val ((out.set j ((rest * 4294967296 + at0 a j) / b)).drop j) * b + (rest * 4294967296 + at0 a j) % b ∧ (rest * 4294967296 + at0 a j) % b < b := by
  have ga := oa.get j
  refine ⟨?_, ?_, Nat.mod_lt _ hb⟩
  · rw [Nat.div_lt_iff_lt_mul hb]
    have := Nat.mul_le_mul_right 4294967296 hr
    rw [Nat.succ_mul, Nat.mul_comm b] at this
    omega
  · rw [val_drop_set hjo, drop_cons hja]
    have hd := Nat.div_add_mod (rest * 4294967296 + at0 a j) b
    show at0 a j + 4294967296 * val (a.drop (j + 1)) = _
    rw [h]
    generalize (rest * 4294967296 + at0 a j) / b = q at hd ⊢
    generalize (rest * 4294967296 + at0 a j) % b = r at hd ⊢
    generalize val (out.drop (j + 1)) = o
    grind
attribute [local irreducible] compare' semH semC qLen qNil qIad qSlc qIdx ldBox ldCells stBox appX awpF awpOpsF awpDF xopF xopDF qval lval seqQ blockQ loopQ bodyF retKF cnd arith IntKind.wrap

theorem ref01_parts_short {c d : C} {a : List Nat} {b : Nat} (hc : Wd c a) (hd : Wd d [b]) (na : Norm a) (nb : Norm [b]) (hl : a.length < 1073741824) (hv : ¬ val a < val [b]) : semC Try.prog n_ref01_parts [.c c, .c d] (PartsK (val a) (val [b])) := by
  refine semC_of_awpF ok_ref01_parts rfl (show HFVs [.c c, .c d] from ⟨hc.hf, hd.hf, trivial⟩) ?_
  have hb0 : b ≠ 0 := by simpa [at0] using nb.2 (by simp)
  have hbB : b < 4294967296 := nb.1 b (by simp)
  have hL : [b].length = 1 := rfl
  have e0 : val [b] = b := by simp [val]
  rw [e0] at hv ⊢
  have la : 1 ≤ a.length := by
    rcases Nat.eq_zero_or_pos a.length with h | h
    · have : a = [] := List.length_eq_zero_iff.1 h
      subst this
      simp [val] at hv
      omega
    · exact h
  refine go ?_
  refine semH_of_semC (ref01_order hc hd na.1 nb.1 (by omega)) (fun u hu => ?_)
  obtain ⟨r, rfl, r1, r2, r3⟩ := hu
  refine go ?_
  cases hq : compare' Cm.lss r 0
  · simp [compare'] at hq
    refine go ?_
    refine c_t (by simp [compare']) ?_
    refine go ?_
    refine x_mkSl (by rfl) (by rfl) ⟨by omega, by omega, by omega, by omega⟩ ?_
    rw [Int.toNat_natCast, zeros]
    refine go ?_
    rw [subI1 a.length (by omega) la]
    refine f_loop (fun n vs H => ∃ (j rest : Nat) (out : List Nat), vs = [.c c, .c d, .c (.sl 0 0 a.length (some a.length) 1), u64 rest, i64 ((j : Int) - 1)] ∧ H = [.live ⟨out.map W, T_uint32, .rw⟩] ∧ n = j ∧ j ≤ a.length ∧ out.length = a.length ∧ OkW out ∧ rest < b ∧ val (a.drop j) = val (out.drop j) * b + rest) (by rfl) ⟨a.length, 0, _, ?_, rfl, rfl, Nat.le_refl _, by simp, fun x hx => by simp at hx; omega, by omega, by simp [val]⟩ ?_
    · rw [show ((a.length - 1 : Nat) : Int) = (a.length : Int) - 1 by omega]
      rfl
    rintro n vs H ⟨j, rest, out, rfl, rfl, rfl, j1, j2, j3, j4, j5⟩
    refine go ?_
    cases hq2 : compare' Cm.geq ((n : Int) - 1) 0
    · simp [compare'] at hq2
      have ej : n = 0 := by omega
      subst ej
      rw [List.drop_zero, List.drop_zero] at j5
      refine go ?_
      refine semH_of_semC_close [0] (.cons (.c (fz_words out (by rfl) rfl (by simp) j2.symm (by rw [← j2]; exact List.take_of_length_le (by simp)))) .nil) (ref01_trim (.imm out) (by omega)) (fun u hu => ?_)
      obtain ⟨c1, l1, rfl, w1, p1, v1, t1⟩ := hu
      refine go ?_
      rw [u32N, Nat.mod_eq_of_lt (by omega : rest < 4294967296)]
      refine semH_of_semC_close [1] (.cons (.c (fz_words [rest] (by rfl) rfl (by simp) rfl rfl)) .nil) (ref01_trim (.imm [rest]) (by simp)) (fun u hu => ?_)
      obtain ⟨c2, l2, rfl, w2, p2, v2, t2⟩ := hu
      refine go ?_
      have hb1 : 0 < b := by omega
      refine PartsK.fz w1 (norm_of j3 p1 t1) ?_ w2 (norm_of (fun x hx => by simp at hx; omega) p2 t2) ?_
      · rw [v1, j5, Nat.mul_comm, Nat.mul_add_div hb1, Nat.div_eq_of_lt j4, Nat.add_zero]
      · rw [v2, j5, Nat.mul_comm, Nat.mul_add_mod, Nat.mod_eq_of_lt j4]
        simp [val]
    · simp [compare'] at hq2
      obtain ⟨i, rfl⟩ : ∃ i, n = i + 1 := ⟨n - 1, by omega⟩
      rw [show ((i + 1 : Nat) : Int) - 1 = (i : Int) by omega]
      have ga := na.1.get i
      obtain ⟨s1, s2, s3⟩ := short_round (j := i) na.1 (by omega) hbB j4 (by omega) (by omega) j5
      refine go ?_
      rw [Int.toNat_natCast, wrapN _ (by omega : at0 a i < 18446744073709551616), shl32N _ (by omega), or_words (by omega) ga]
      refine go ?_
      rw [show at0 [b] (0 : Int).toNat = b from rfl, wrapN _ (by omega : b < 18446744073709551616)]
      refine q_ar (by rfl) (by rfl) (by simp [needs]; omega) ?_
      rw [quoN _ _ (by omega)]
      refine go ?_
      rw [u32N, Nat.mod_eq_of_lt s1]
      refine idx_sl (by rfl) (by rfl) (by omega) (by omega) ?_
      refine go ?_
      refine st_word (k := i) (by rfl) (by rfl) (by omega) (by omega) ?_
      refine go ?_
      rw [show at0 [b] (0 : Int).toNat = b from rfl, wrapN _ (by omega : b < 18446744073709551616)]
      refine q_ar (by rfl) (by rfl) (by simp [needs]; omega) ?_
      rw [remN]
      refine go ?_
      refine l_n (by rfl) (by omega) ⟨i, _, _, ?_, rfl, rfl, by omega, by simp [j2], j3.set s1, s3, s2⟩
      rw [show arith .sub .i64 ((i : Nat) : Int) 1 = (i : Int) - 1 by rw [ar_sub, wrap_i64 (by omega) (by omega)]]
      rfl
  · simp [compare'] at hq
    exfalso
    apply hv
    rcases Nat.lt_trichotomy a.length [b].length with h | h | h
    · omega
    · have := r3 h
      rw [this] at hq
      unfold sgn at hq
      split at hq
      · rename_i h
        rw [e0] at h
        omega
      · split at hq <;> omega
    · have := r2 h
      omega
end Go.Proofs.Ytjncgcnofiaiaaa
