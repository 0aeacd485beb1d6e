/-
  Comparing words.
-/
import Derived.Test.YtjncgcnofiaiaaaVhA
import Derived.Test.YtjncgcnofiaiaaaAc2
import Derived.Test.YtjncgcnofiaiaaaAc3
set_option linter.unusedVariables false
set_option linter.unusedSimpArgs false
namespace Go.Proofs.Ytjncgcnofiaiaaa
open Go.RowKit
attribute [local irreducible] compare' semH semC qLen qNil qIad qSlc qIdx ldBox ldCells stBox appX awpF awpOpsF awpDF xopF xopDF qval lval seqQ blockQ loopQ bodyF retKF cnd arith IntKind.wrap

def CmpK (a b : List Nat) (u : V) : Prop := ∃ r, u = i64 r ∧ (a.length < b.length → r = -1) ∧ (b.length < a.length → r = 1) ∧ (a.length = b.length → r = sgn (val a - val b))
theorem CmpK.fz {a b : List Nat} {u : V} {H : Hp} (h : CmpK a b u) : ∃ d, FzV H u d ∧ CmpK a b d := by
  obtain ⟨r, rfl, h⟩ := h
  exact ⟨_, .c (.hf trivial), r, rfl, h⟩

theorem num_cmpWords {c d : C} {a b : List Nat} (hc : Wd c a) (hd : Wd d b) (ha : OkW a) (hb : OkW b) (hl : a.length < 4611686018427387904) : semC Try.prog n_num_cmpWords [.c c, .c d] (CmpK a b) := by
  refine semC_of_awpF ok_num_cmpWords rfl (show HFVs [.c c, .c d] from ⟨hc.hf, hd.hf, trivial⟩) ?_
  refine go ?_
  refine cnd_intro (fun h => ?_) (fun h => ?_)
  · refine go ?_
    simp [compare'] at h
    refine cnd_intro (fun h' => ?_) (fun h' => ?_)
    · refine go ?_
      simp [compare'] at h'
      exact CmpK.fz ⟨_, rfl, by omega, by omega, by omega⟩
    · refine go ?_
      simp [compare'] at h'
      exact CmpK.fz ⟨_, rfl, by omega, by omega, by omega⟩
  · refine go ?_
    simp [compare'] at h
    have h : a.length = b.length := by omega
    refine f_loop (fun n vs H => ∃ i : Int, vs = [.c c, .c d, i64 i] ∧ H = [] ∧ n = (i + 1).toNat ∧ -1 ≤ i ∧ i < a.length ∧ a.drop (i + 1).toNat = b.drop (i + 1).toNat) (by rfl) ⟨_, rfl, rfl, rfl, ?_⟩ ?_
    · rw [ar_sub, wrap_i64 (by omega) (by omega)]
      refine ⟨by omega, by omega, ?_⟩
      have e : (((a.length : Int) - 1) + 1).toNat = a.length := by omega
      rw [e, List.drop_length, h, List.drop_length]
    · rintro n vs H ⟨i, rfl, rfl, rfl, h1, h2, h4⟩
      refine go ?_
      refine cnd_intro (fun h' => ?_) (fun h' => ?_)
      · simp [compare'] at h'
        refine go ?_
        have ei : i.toNat < a.length := by omega
        have ei' : (i + 1).toNat = i.toNat + 1 := by omega
        refine cnd_intro (fun h3 => ?_) (fun h3 => ?_)
        · simp [compare'] at h3
          refine go ?_
          rw [ei'] at h4
          refine cnd_intro (fun h5 => ?_) (fun h5 => ?_)
          · simp [compare'] at h5
            refine go ?_
            have := val_less ha hb h ei h4 (by omega)
            exact CmpK.fz ⟨_, rfl, by omega, by omega, fun _ => by unfold sgn; rw [if_pos (by omega)]⟩
          · simp [compare'] at h5
            refine go ?_
            have := val_less hb ha h.symm (by omega) h4.symm (by omega : at0 b i.toNat < at0 a i.toNat)
            exact CmpK.fz ⟨_, rfl, by omega, by omega, fun _ => by unfold sgn; rw [if_neg (by omega), if_neg (by omega)]⟩
        · simp [compare'] at h3
          refine go ?_
          refine l_n (by rfl) ?_ ⟨_, rfl, rfl, rfl, ?_⟩
          · rw [ar_sub, wrap_i64 (by omega) (by omega)]
            omega
          · rw [ar_sub, wrap_i64 (by omega) (by omega)]
            refine ⟨by omega, by omega, ?_⟩
            have e : (i - 1 + 1).toNat = i.toNat := by omega
            rw [e, drop_cons ei, drop_cons (l := b) (by omega), ← ei', h4, show at0 a i.toNat = at0 b i.toNat by omega]
      · simp [compare'] at h'
        refine go ?_
        have e : (i + 1).toNat = 0 := by omega
        rw [e] at h4
        simp at h4
        exact CmpK.fz ⟨_, rfl, by omega, by omega, fun _ => by rw [h4]; simp [sgn]⟩
theorem ref01_order {c d : C} {a b : List Nat} (hc : Wd c a) (hd : Wd d b) (ha : OkW a) (hb : OkW b) (hl : a.length < 4611686018427387904) : semC Try.prog n_ref01_order [.c c, .c d] (CmpK a b) := by
  refine semC_of_awpF ok_ref01_order rfl (show HFVs [.c c, .c d] from ⟨hc.hf, hd.hf, trivial⟩) ?_
  refine go ?_
  refine cnd_intro (fun h => ?_) (fun h => ?_)
  · refine go ?_
    simp [compare'] at h
    refine cnd_intro (fun h' => ?_) (fun h' => ?_)
    · refine go ?_
      simp [compare'] at h'
      exact CmpK.fz ⟨_, rfl, by omega, by omega, by omega⟩
    · refine go ?_
      simp [compare'] at h'
      exact CmpK.fz ⟨_, rfl, by omega, by omega, by omega⟩
  · refine go ?_
    simp [compare'] at h
    have h : a.length = b.length := by omega
    refine f_loop (fun n vs H => ∃ i : Int, vs = [.c c, .c d, i64 i] ∧ H = [] ∧ n = (i + 1).toNat ∧ -1 ≤ i ∧ i < a.length ∧ a.drop (i + 1).toNat = b.drop (i + 1).toNat) (by rfl) ⟨_, rfl, rfl, rfl, ?_⟩ ?_
    · rw [ar_sub, wrap_i64 (by omega) (by omega)]
      refine ⟨by omega, by omega, ?_⟩
      have e : (((a.length : Int) - 1) + 1).toNat = a.length := by omega
      rw [e, List.drop_length, h, List.drop_length]
    · rintro n vs H ⟨i, rfl, rfl, rfl, h1, h2, h4⟩
      refine go ?_
      refine cnd_intro (fun h' => ?_) (fun h' => ?_)
      · simp [compare'] at h'
        refine go ?_
        have ei : i.toNat < a.length := by omega
        have ei' : (i + 1).toNat = i.toNat + 1 := by omega
        refine cnd_intro (fun h5 => ?_) (fun h5 => ?_)
        · simp [compare'] at h5
          refine go ?_
          rw [ei'] at h4
          have := val_less ha hb h ei h4 (by omega)
          exact CmpK.fz ⟨_, rfl, by omega, by omega, fun _ => by unfold sgn; rw [if_pos (by omega)]⟩
        · simp [compare'] at h5
          refine go ?_
          refine cnd_intro (fun h6 => ?_) (fun h6 => ?_)
          · simp [compare'] at h6
            refine go ?_
            rw [ei'] at h4
            have := val_less hb ha h.symm (by omega) h4.symm (by omega : at0 b i.toNat < at0 a i.toNat)
            exact CmpK.fz ⟨_, rfl, by omega, by omega, fun _ => by unfold sgn; rw [if_neg (by omega), if_neg (by omega)]⟩
          · simp [compare'] at h6
            refine go ?_
            refine l_n (by rfl) ?_ ⟨_, rfl, rfl, rfl, ?_⟩
            · rw [ar_sub, wrap_i64 (by omega) (by omega)]
              omega
            · rw [ar_sub, wrap_i64 (by omega) (by omega)]
              refine ⟨by omega, by omega, ?_⟩
              have e : (i - 1 + 1).toNat = i.toNat := by omega
              rw [e, drop_cons ei, drop_cons (l := b) (by omega), ← ei', h4, show at0 a i.toNat = at0 b i.toNat by omega]
      · simp [compare'] at h'
        refine go ?_
        have e : (i + 1).toNat = 0 := by omega
        rw [e] at h4
        simp at h4
        exact CmpK.fz ⟨_, rfl, by omega, by omega, fun _ => by rw [h4]; simp [sgn]⟩

/-! ### Noughts at the end -/
def trimL (l : List Nat) : List Nat := (l.reverse.dropWhile (· == 0)).reverse
theorem trim_val : ∀ l : List Nat, val (l ++ [0]) = val l := fun l => by simp [val_append, val]

theorem ref01_trim {c : C} {l : List Nat} (hc : Wd c l) (hl : l.length < 4611686018427387904) : semC Try.prog n_ref01_trim [.c c] (fun u => ∃ c' l', u = .c c' ∧ Wd c' l' ∧ l' <+: l ∧ val l' = val l ∧ (l' ≠ [] → at0 l' (l'.length - 1) ≠ 0)) := by
  refine semC_of_awpF ok_ref01_trim rfl (show HFVs [.c c] from ⟨hc.hf, trivial⟩) ?_
  refine go ?_
  refine f_loop (fun n vs H => ∃ c' l', vs = [.c c'] ∧ H = [] ∧ n = l'.length ∧ Wd c' l' ∧ l' <+: l ∧ val l' = val l) (by rfl) ⟨_, l, rfl, rfl, rfl, hc, List.prefix_refl l, rfl⟩ ?_
  rintro n vs H ⟨c', l', rfl, rfl, rfl, hc', h1, h2⟩
  refine go ?_
  cases hq : compare' Cm.gtr (l'.length : Int) 0
  · simp [compare'] at hq
    refine go ?_
    refine ⟨_, .c (.hf hc'.hf), c', l', rfl, hc', h1, h2, fun hne => ?_⟩
    exact absurd hq hne
  · simp [compare'] at hq
    have hll := h1.length_le
    refine go ?_
    have e : arith .sub .i64 (l'.length : Int) 1 = ((l'.length - 1 : Nat) : Int) := by
      rw [ar_sub, wrap_i64 (by omega) (by omega)]
      omega
    rw [e]
    refine go ?_
    refine cnd_intro (fun h => ?_) (fun h => ?_)
    · simp [compare'] at h
      refine go ?_
      refine slc_wd (by rfl) hc' (by rfl) (by rfl) (by omega) (by rw [e]; omega) (by rw [e]; omega) (fun c'' hc'' => ?_)
      refine go ?_
      rw [e] at hc''
      refine l_n (by rfl) ?_ ⟨c'', _, rfl, rfl, rfl, hc'', ?_, ?_⟩
      · simp
        omega
      · simp
        exact (List.take_prefix _ _).trans h1
      · simp
        rw [val_last hq h, h2]
    · simp [compare'] at h
      refine go ?_
      exact ⟨_, .c (.hf hc'.hf), c', l', rfl, hc', h1, h2, fun _ => h⟩
end Go.Proofs.Ytjncgcnofiaiaaa
