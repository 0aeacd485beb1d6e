/-
  isoclinelaw19.StepGrows returns true for every input, and the arguments read afterwards as they read before. Conditions: none.
-/
import Derived.Test.YtokckcnfojjpjaaGreatNb19
import Derived.Test.YtokckcnfojjpjaaGreatNb22
set_option linter.unusedVariables false
set_option linter.unusedSimpArgs false
namespace Go.Proofs.YtokckcnfojjpjaaGreat
open Go.ChangeShapes Go.WideShapes Go.ChangeAt Go.RowKit Go.Joins
theorem int_one : Tryz.prog.underlying T_int = some (.int .i64) := by kernel_rfl
theorem rv_int (z : Int) {c : Cx} : RV c (i64 z) (.int .i64 z) := .c (.int _ _)
set_option maxRecDepth 100000 in
theorem stepGrows_lifted (os : Os) (started : os.Started) (H : Type) (enc : TypeId × Value → H) :
  ReturnsInHanded {} Tryz.checked os 6 .any (Rows.stepGrowsSpec.pre6 enc Tryz.prog Tryz.f6 Rows.stepGrowsRow.domain false) (Rows.stepGrowsSpec.post enc Tryz.prog Tryz.f6 false true false false) := by
 refine returnsInHanded_of_change (C := Tryz.checked) own_none started (by kernel_rfl) Tryz.func6
  (ChangeSpec.witness6 (enc := enc) (C := Tryz.checked) false ⟨#[], #[.int .i64 0, .agg #[.int .i64 0, .int .i64 0], .agg #[.int .i64 0, .int .i64 0]], []⟩ 8 (by kernel_rfl) (by kernel_rfl) (by kernel_rfl) (by kernel_rfl)) ?_
 intro W base args ds gs before hval0 hW hcnd _
 have hval : ∀ (j : Nat) t v, Tryz.f6.params[j]? = some t → args[j]? = some v → Value.okWide Tryz.prog W .any base t v := hval0
 have hW' := hW
 obtain ⟨p, q, hA0, hV, rfl, hfz, hnd⟩ := hW
 have hA : DataW.TrodAll enc Tryz.prog W 0 (fun _ => true) true Tryz.f6.params.toList args.toList ds p := hA0
 rw [Tryz.params6] at hA hval
 obtain ⟨v0, v1, v2, d0, d1, d2, p0, p1, p2, rfl, rfl, rfl, h0, h1, h2⟩ := trodAll_three hA
 obtain ⟨rfl, rfl⟩ := trodVars_none hV
 have hlt : ∀ x ∈ p0 ++ p1 ++ p2, x.block < W.heap.size := fun x hx => hW'.lt x (by simpa using hx)
 obtain ⟨m, rfl⟩ := okWide_int int_one (hval 0 _ v0 rfl rfl)
 obtain ⟨x, rfl⟩ := open_rat rat_two (hval 1 _ v1 rfl rfl) h1
 obtain ⟨y, rfl⟩ := open_rat rat_two (hval 2 _ v2 rfl rfl) h2
 clear hA0 hval0
 refine ((law19_StepGrows m x y).2.2 (fun _ => False) W [_, _, _] (fun _ h => h.elim) (.cons (rv_int m) (.cons (rv_rat x) (.cons (rv_rat y) .nil)))).mono ?_
 rintro e W' ⟨v, u, rfl, hu, hr, hq⟩
 obtain rfl := hu
 obtain rfl := rv_true hr
 have hb := hq.below
 refine ⟨_, rfl, _, _, _, [], p0 ++ (p1 ++ p2), [], hW', ?_, ?_, rfl, hb.frame _, fun h => by cases h⟩
 ·exact trodAll_mk1 (shut_bool (by kernel_rfl) true)
 ·exact trodAll_mk3 (Below.trod laid_out (by kernel_rfl) (of_decide_eq_true (by kernel_rfl)) h0 hb (fun x hx => hlt x (by simp [hx]))) (Below.trod laid_out (by kernel_rfl) (of_decide_eq_true (by kernel_rfl)) h1 hb (fun x hx => hlt x (by simp [hx]))) (Below.trod laid_out (by kernel_rfl) (of_decide_eq_true (by kernel_rfl)) h2 hb (fun x hx => hlt x (by simp [hx])))
theorem stepGrows_holds : Rows.StepGrowsSaid :=
 OpenClaim.holds_of_wide 6 Tryz.f6 rfl rfl rfl rfl rfl rfl rfl ⟨rfl, rfl, rfl, rfl, rfl⟩ rfl rfl rfl rfl rfl (by kernel_rfl) Tryz.func6 (by kernel_rfl)
  (of_decide_eq_true (by kernel_rfl)) (by unfold Func.isWrapper; first | (rw [if_pos (by decide +kernel)]; kernel_rfl) | (rw [if_neg (by decide +kernel)]; exact ⟨rfl, rfl⟩))
  (fun os started H enc _ => stepGrows_lifted os started H enc)
#print axioms stepGrows_holds
end Go.Proofs.YtokckcnfojjpjaaGreat
