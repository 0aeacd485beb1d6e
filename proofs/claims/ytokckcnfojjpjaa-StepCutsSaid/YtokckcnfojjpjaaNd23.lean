/-
  Parts of the proof: A run of steps (step.run).
-/
import Derived.Test.YtokckcnfojjpjaaNd22
import Derived.Test.YtokckcnfojjpjaaNd20
set_option linter.unusedVariables false
set_option linter.unusedSimpArgs false
namespace Go.Proofs.Ytokckcnfojjpjaa
open Go.RowKit
set_option maxRecDepth 20000
theorem bH {P : Program} {e : Env} {H : Hp} {K : V → Hp → Prop} {el : TypeId} {zero : List C} (k : K (.c (.ptr H.length 0)) (H ++ [.live ⟨zero, el, .rw⟩])) : xR P e (H ++ List.replicate (0 + 1) .unb) H.length (.alloc el zero) K := by
 have e1 : H ++ List.replicate (0 + 1) .unb = H ++ [.unb] := rfl
 rw [e1]
 refine uA (yJ _ _) ?_
 rw [bM]
 exact k
theorem go13 {A B : Prop} (k : B) (h : Held B → A := by
 intro hgo
 repeat (first | (refine g_o ?_; first | (refine o_some ?_; try (first | (refine x_q (by rfl) ?_; try (first | refine q_mv (by rfl) ?_ | refine wP (by rfl) ?_ | (refine uQ ?_; try (first | refine uC (by rfl) (by assumption) ?_ | refine vB (by rfl) (by assumption) ?_ | refine vC (by rfl) ?_ | refine xY (by rfl) ?_ | refine xX (by rfl) ?_)) | (refine uS ?_; try (first | refine uD (by rfl) (by rfl) (by assumption) (by omega) (by omega) ?_ | refine wT (by rfl) (by rfl) (by assumption) (by omega) (by omega) ?_ | refine wX (by rfl) (by rfl) (by decide) (by decide) ?_ | refine yG (by rfl) (by rfl) (by decide) (by decide) ?_ | refine wN (by rfl) (by rfl) (by decide) (by decide) ?_ | refine yG (by rfl) (by rfl) (by omega) (by omega) ?_)) | refine q_cm (by rfl) (by rfl) ?_ | refine q_ar (by rfl) (by rfl) (by rfl) ?_ | refine vJ (by rfl) ?_ | (refine uW ?_; try (first | refine wF (by rfl) ?_ | refine wG (by rfl) ?_ | refine vD (by rfl) ?_)) | refine uV (by rfl) (by rfl) ?_ | refine wO (by rfl) ?_ | refine wQ (by rfl) ?_ | refine uF (by rfl) (by rfl) (by first | decide | omega) ?_ | refine uM (by rfl) (by rfl) (by first | decide | omega) ?_ | refine uX (by rfl) (by rfl) ?_ | refine uY (by rfl) (by rfl) (by rfl) ?_ | refine uO (by rfl) ?_ | refine uN (by rfl) ?_ | refine xZ (by rfl) (by rfl) ?_ | refine wA (by rfl) (by rfl) ?_ | refine uL ?_ | refine uR ?_ | refine uU (by rfl) (by rfl) ?_ | refine vI (by rfl) (by rfl) ?_ | refine wC (by rfl) ?_ | refine q_mx (by rfl) (by rfl) ?_ | refine q_mn (by rfl) (by rfl) ?_ | refine uP (by rfl) (by rfl) (by rfl) ?_ | refine uT (by rfl) ?_ | refine vK (by rfl) ?_ | refine vL (by rfl) ?_ | refine wB (by rfl) ?_ | refine wR (by rfl) (by rfl) ?_ | refine wS (by rfl) (by rfl) ?_)) | (refine hU ?_; try (first | (refine uZ (by rfl) ?_; try (first | refine yN (by rfl) (by rfl) ?_ | refine yI (by rfl) (by rfl) ?_ | refine yN (yJ _ _) (by rfl) ?_ | refine yI (yJ _ _) (by rfl) ?_ | refine yN (xU _ _ _ _) (by rfl) ?_ | refine yI (xU _ _ _ _) (by rfl) ?_ | refine yN (xT _ _ _) (by rfl) ?_ | refine yI (xT _ _ _) (by rfl) ?_)) | (refine tA (by rfl) ?_; try (first | refine tE (by assumption) (by omega) (by omega) (fun _ _ => ?_) | refine vU (by omega) (by omega) ?_ | refine xQ (Nat.le_of_ble_eq_true (by rfl)) ?_ | refine yS (by rfl) (by rfl) (by rfl) (by omega) ?_)))) | refine tC (by rfl) (by rfl) (by rfl) (by rfl) (Nat.le_of_ble_eq_true (by rfl)) ?_ | (refine qK (by rfl) (by rfl) ?_; try (first | refine yS (by rfl) (by rfl) (by rfl) (Nat.le_of_ble_eq_true (by rfl)) ?_ | refine yS (by rfl) (by rfl) (by rfl) (by omega) ?_)) | refine pN (by rfl) (by rfl) ?_ | refine x_box (by rfl) (by rfl) ?_ | refine pA ?_ | refine x_frzSl (by rfl) ?_ | refine bI ?_ | refine jZ ?_ | refine qY ?_ | refine qZ (by rfl) (by rfl) (by rfl) (by rfl) ?_ | refine sR (by rfl) (by rfl) (by rfl) ?_)) | (refine o_nil ?_; try (first | refine s_n ?_ | refine s_r ?_ | refine s_e ?_ | refine k_n ?_ | refine k_r ?_ | refine k_e (by rfl) ?_ | refine k_o (by rfl) ?_ | refine l_r ?_ | refine l_e ?_ | refine b_r ?_ | refine b_n ?_)) | refine o_guard (by rfl) ?_ | refine bP (by rfl) ?_ | refine o_none ?_ | refine bQ (by rfl) ?_) | (refine g_f ?_; first | refine f_seq ?_ | refine f_reg ?_ | (refine f_cond (by rfl) ?_; try (first | refine c_t (by rfl) ?_ | refine c_f (by rfl) ?_)) | refine f_block ?_ | refine f_skip ?_ | refine f_ret ?_ | refine f_exit ?_ | refine f_regD0 ?_ | refine f_regD ?_) | (refine g_s ?_; first | refine s_n ?_ | refine s_r ?_ | refine s_e ?_) | (refine g_d ?_; first | refine d_late (T := none) (by rfl) (by rfl) (by rfl) (by rfl) ?_ | (refine pS (T := none) (by rfl) (by rfl) ?_; try (first | (refine xd_q (by rfl) ?_; try (first | refine q_mv (by rfl) ?_ | refine wP (by rfl) ?_ | (refine uQ ?_; try (first | refine uC (by rfl) (by assumption) ?_ | refine vB (by rfl) (by assumption) ?_ | refine vC (by rfl) ?_ | refine xY (by rfl) ?_ | refine xX (by rfl) ?_)) | (refine uS ?_; try (first | refine uD (by rfl) (by rfl) (by assumption) (by omega) (by omega) ?_ | refine wT (by rfl) (by rfl) (by assumption) (by omega) (by omega) ?_ | refine wX (by rfl) (by rfl) (by decide) (by decide) ?_ | refine yG (by rfl) (by rfl) (by decide) (by decide) ?_ | refine wN (by rfl) (by rfl) (by decide) (by decide) ?_ | refine yG (by rfl) (by rfl) (by omega) (by omega) ?_)) | refine q_cm (by rfl) (by rfl) ?_ | refine q_ar (by rfl) (by rfl) (by rfl) ?_ | refine vJ (by rfl) ?_ | (refine uW ?_; try (first | refine wF (by rfl) ?_ | refine wG (by rfl) ?_ | refine vD (by rfl) ?_)) | refine uV (by rfl) (by rfl) ?_ | refine wO (by rfl) ?_ | refine wQ (by rfl) ?_ | refine uF (by rfl) (by rfl) (by first | decide | omega) ?_ | refine uM (by rfl) (by rfl) (by first | decide | omega) ?_ | refine uX (by rfl) (by rfl) ?_ | refine uY (by rfl) (by rfl) (by rfl) ?_ | refine uO (by rfl) ?_ | refine uN (by rfl) ?_ | refine xZ (by rfl) (by rfl) ?_ | refine wA (by rfl) (by rfl) ?_ | refine uL ?_ | refine uR ?_ | refine uU (by rfl) (by rfl) ?_ | refine vI (by rfl) (by rfl) ?_ | refine wC (by rfl) ?_ | refine q_mx (by rfl) (by rfl) ?_ | refine q_mn (by rfl) (by rfl) ?_ | refine uP (by rfl) (by rfl) (by rfl) ?_ | refine uT (by rfl) ?_ | refine vK (by rfl) ?_ | refine vL (by rfl) ?_ | refine wB (by rfl) ?_ | refine wR (by rfl) (by rfl) ?_ | refine wS (by rfl) (by rfl) ?_)) | (refine tS ?_; try (first | (refine uZ (by rfl) ?_; try (first | refine yN (by rfl) (by rfl) ?_ | refine yI (by rfl) (by rfl) ?_ | refine yN (yJ _ _) (by rfl) ?_ | refine yI (yJ _ _) (by rfl) ?_ | refine yN (xU _ _ _ _) (by rfl) ?_ | refine yI (xU _ _ _ _) (by rfl) ?_ | refine yN (xT _ _ _) (by rfl) ?_ | refine yI (xT _ _ _) (by rfl) ?_)) | (refine tA (by rfl) ?_; try (first | refine tE (by assumption) (by omega) (by omega) (fun _ _ => ?_) | refine vU (by omega) (by omega) ?_ | refine xQ (Nat.le_of_ble_eq_true (by rfl)) ?_ | refine yS (by rfl) (by rfl) (by rfl) (by omega) ?_)))) | refine vA (by rfl) (by rfl) (by rfl) (by rfl) (Nat.le_of_ble_eq_true (by rfl)) ?_ | (refine vZ (by rfl) (by rfl) ?_; try (first | refine yS (by rfl) (by rfl) (by rfl) (Nat.le_of_ble_eq_true (by rfl)) ?_ | refine yS (by rfl) (by rfl) (by rfl) (by omega) ?_)) | refine tT (by rfl) (by rfl) ?_ | refine sU (by rfl) (by rfl) (by rfl) ?_ | refine bH ?_ | refine uA (by rfl) ?_ | refine pM (by rfl) ?_)) | (refine pS (by rfl) (by rfl) ?_; try (first | (refine xd_q (by rfl) ?_; try (first | refine q_mv (by rfl) ?_ | refine wP (by rfl) ?_ | (refine uQ ?_; try (first | refine uC (by rfl) (by assumption) ?_ | refine vB (by rfl) (by assumption) ?_ | refine vC (by rfl) ?_ | refine xY (by rfl) ?_ | refine xX (by rfl) ?_)) | (refine uS ?_; try (first | refine uD (by rfl) (by rfl) (by assumption) (by omega) (by omega) ?_ | refine wT (by rfl) (by rfl) (by assumption) (by omega) (by omega) ?_ | refine wX (by rfl) (by rfl) (by decide) (by decide) ?_ | refine yG (by rfl) (by rfl) (by decide) (by decide) ?_ | refine wN (by rfl) (by rfl) (by decide) (by decide) ?_ | refine yG (by rfl) (by rfl) (by omega) (by omega) ?_)) | refine q_cm (by rfl) (by rfl) ?_ | refine q_ar (by rfl) (by rfl) (by rfl) ?_ | refine vJ (by rfl) ?_ | (refine uW ?_; try (first | refine wF (by rfl) ?_ | refine wG (by rfl) ?_ | refine vD (by rfl) ?_)) | refine uV (by rfl) (by rfl) ?_ | refine wO (by rfl) ?_ | refine wQ (by rfl) ?_ | refine uF (by rfl) (by rfl) (by first | decide | omega) ?_ | refine uM (by rfl) (by rfl) (by first | decide | omega) ?_ | refine uX (by rfl) (by rfl) ?_ | refine uY (by rfl) (by rfl) (by rfl) ?_ | refine uO (by rfl) ?_ | refine uN (by rfl) ?_ | refine xZ (by rfl) (by rfl) ?_ | refine wA (by rfl) (by rfl) ?_ | refine uL ?_ | refine uR ?_ | refine uU (by rfl) (by rfl) ?_ | refine vI (by rfl) (by rfl) ?_ | refine wC (by rfl) ?_ | refine q_mx (by rfl) (by rfl) ?_ | refine q_mn (by rfl) (by rfl) ?_ | refine uP (by rfl) (by rfl) (by rfl) ?_ | refine uT (by rfl) ?_ | refine vK (by rfl) ?_ | refine vL (by rfl) ?_ | refine wB (by rfl) ?_ | refine wR (by rfl) (by rfl) ?_ | refine wS (by rfl) (by rfl) ?_)) | (refine tS ?_; try (first | (refine uZ (by rfl) ?_; try (first | refine yN (by rfl) (by rfl) ?_ | refine yI (by rfl) (by rfl) ?_ | refine yN (yJ _ _) (by rfl) ?_ | refine yI (yJ _ _) (by rfl) ?_ | refine yN (xU _ _ _ _) (by rfl) ?_ | refine yI (xU _ _ _ _) (by rfl) ?_ | refine yN (xT _ _ _) (by rfl) ?_ | refine yI (xT _ _ _) (by rfl) ?_)) | (refine tA (by rfl) ?_; try (first | refine tE (by assumption) (by omega) (by omega) (fun _ _ => ?_) | refine vU (by omega) (by omega) ?_ | refine xQ (Nat.le_of_ble_eq_true (by rfl)) ?_ | refine yS (by rfl) (by rfl) (by rfl) (by omega) ?_)))) | refine vA (by rfl) (by rfl) (by rfl) (by rfl) (Nat.le_of_ble_eq_true (by rfl)) ?_ | (refine vZ (by rfl) (by rfl) ?_; try (first | refine yS (by rfl) (by rfl) (by rfl) (Nat.le_of_ble_eq_true (by rfl)) ?_ | refine yS (by rfl) (by rfl) (by rfl) (by omega) ?_)) | refine tT (by rfl) (by rfl) ?_ | refine sU (by rfl) (by rfl) (by rfl) ?_ | refine bH ?_ | refine uA (by rfl) ?_ | refine pM (by rfl) ?_)) | (refine d_nil ?_; try (first | refine s_n ?_ | refine s_r ?_ | refine s_e ?_ | refine k_n ?_ | refine k_r ?_ | refine k_e (by rfl) ?_ | refine k_o (by rfl) ?_ | refine l_r ?_ | refine l_e ?_ | refine b_r ?_ | refine b_n ?_)) | refine d_none (by rfl) (by rfl) ?_ | refine d_guard (by rfl) (by rfl) (by rfl) ?_) | (refine g_x ?_; first | (refine x_q (by rfl) ?_; try (first | refine q_mv (by rfl) ?_ | refine wP (by rfl) ?_ | (refine uQ ?_; try (first | refine uC (by rfl) (by assumption) ?_ | refine vB (by rfl) (by assumption) ?_ | refine vC (by rfl) ?_ | refine xY (by rfl) ?_ | refine xX (by rfl) ?_)) | (refine uS ?_; try (first | refine uD (by rfl) (by rfl) (by assumption) (by omega) (by omega) ?_ | refine wT (by rfl) (by rfl) (by assumption) (by omega) (by omega) ?_ | refine wX (by rfl) (by rfl) (by decide) (by decide) ?_ | refine yG (by rfl) (by rfl) (by decide) (by decide) ?_ | refine wN (by rfl) (by rfl) (by decide) (by decide) ?_ | refine yG (by rfl) (by rfl) (by omega) (by omega) ?_)) | refine q_cm (by rfl) (by rfl) ?_ | refine q_ar (by rfl) (by rfl) (by rfl) ?_ | refine vJ (by rfl) ?_ | (refine uW ?_; try (first | refine wF (by rfl) ?_ | refine wG (by rfl) ?_ | refine vD (by rfl) ?_)) | refine uV (by rfl) (by rfl) ?_ | refine wO (by rfl) ?_ | refine wQ (by rfl) ?_ | refine uF (by rfl) (by rfl) (by first | decide | omega) ?_ | refine uM (by rfl) (by rfl) (by first | decide | omega) ?_ | refine uX (by rfl) (by rfl) ?_ | refine uY (by rfl) (by rfl) (by rfl) ?_ | refine uO (by rfl) ?_ | refine uN (by rfl) ?_ | refine xZ (by rfl) (by rfl) ?_ | refine wA (by rfl) (by rfl) ?_ | refine uL ?_ | refine uR ?_ | refine uU (by rfl) (by rfl) ?_ | refine vI (by rfl) (by rfl) ?_ | refine wC (by rfl) ?_ | refine q_mx (by rfl) (by rfl) ?_ | refine q_mn (by rfl) (by rfl) ?_ | refine uP (by rfl) (by rfl) (by rfl) ?_ | refine uT (by rfl) ?_ | refine vK (by rfl) ?_ | refine vL (by rfl) ?_ | refine wB (by rfl) ?_ | refine wR (by rfl) (by rfl) ?_ | refine wS (by rfl) (by rfl) ?_)) | (refine hU ?_; try (first | (refine uZ (by rfl) ?_; try (first | refine yN (by rfl) (by rfl) ?_ | refine yI (by rfl) (by rfl) ?_ | refine yN (yJ _ _) (by rfl) ?_ | refine yI (yJ _ _) (by rfl) ?_ | refine yN (xU _ _ _ _) (by rfl) ?_ | refine yI (xU _ _ _ _) (by rfl) ?_ | refine yN (xT _ _ _) (by rfl) ?_ | refine yI (xT _ _ _) (by rfl) ?_)) | (refine tA (by rfl) ?_; try (first | refine tE (by assumption) (by omega) (by omega) (fun _ _ => ?_) | refine vU (by omega) (by omega) ?_ | refine xQ (Nat.le_of_ble_eq_true (by rfl)) ?_ | refine yS (by rfl) (by rfl) (by rfl) (by omega) ?_)))) | refine tC (by rfl) (by rfl) (by rfl) (by rfl) (Nat.le_of_ble_eq_true (by rfl)) ?_ | (refine qK (by rfl) (by rfl) ?_; try (first | refine yS (by rfl) (by rfl) (by rfl) (Nat.le_of_ble_eq_true (by rfl)) ?_ | refine yS (by rfl) (by rfl) (by rfl) (by omega) ?_)) | refine pN (by rfl) (by rfl) ?_ | refine x_box (by rfl) (by rfl) ?_ | refine pA ?_ | refine x_frzSl (by rfl) ?_ | refine bI ?_ | refine jZ ?_ | refine qY ?_ | refine qZ (by rfl) (by rfl) (by rfl) (by rfl) ?_ | refine sR (by rfl) (by rfl) (by rfl) ?_) | (refine g_q ?_; first | refine q_mv (by rfl) ?_ | refine wP (by rfl) ?_ | (refine uQ ?_; try (first | refine uC (by rfl) (by assumption) ?_ | refine vB (by rfl) (by assumption) ?_ | refine vC (by rfl) ?_ | refine xY (by rfl) ?_ | refine xX (by rfl) ?_)) | (refine uS ?_; try (first | refine uD (by rfl) (by rfl) (by assumption) (by omega) (by omega) ?_ | refine wT (by rfl) (by rfl) (by assumption) (by omega) (by omega) ?_ | refine wX (by rfl) (by rfl) (by decide) (by decide) ?_ | refine yG (by rfl) (by rfl) (by decide) (by decide) ?_ | refine wN (by rfl) (by rfl) (by decide) (by decide) ?_ | refine yG (by rfl) (by rfl) (by omega) (by omega) ?_)) | refine q_cm (by rfl) (by rfl) ?_ | refine q_ar (by rfl) (by rfl) (by rfl) ?_ | refine vJ (by rfl) ?_ | (refine uW ?_; try (first | refine wF (by rfl) ?_ | refine wG (by rfl) ?_ | refine vD (by rfl) ?_)) | refine uV (by rfl) (by rfl) ?_ | refine wO (by rfl) ?_ | refine wQ (by rfl) ?_ | refine uF (by rfl) (by rfl) (by first | decide | omega) ?_ | refine uM (by rfl) (by rfl) (by first | decide | omega) ?_ | refine uX (by rfl) (by rfl) ?_ | refine uY (by rfl) (by rfl) (by rfl) ?_ | refine uO (by rfl) ?_ | refine uN (by rfl) ?_ | refine xZ (by rfl) (by rfl) ?_ | refine wA (by rfl) (by rfl) ?_ | refine uL ?_ | refine uR ?_ | refine uU (by rfl) (by rfl) ?_ | refine vI (by rfl) (by rfl) ?_ | refine wC (by rfl) ?_ | refine q_mx (by rfl) (by rfl) ?_ | refine q_mn (by rfl) (by rfl) ?_ | refine uP (by rfl) (by rfl) (by rfl) ?_ | refine uT (by rfl) ?_ | refine vK (by rfl) ?_ | refine vL (by rfl) ?_ | refine wB (by rfl) ?_ | refine wR (by rfl) (by rfl) ?_ | refine wS (by rfl) (by rfl) ?_) | (refine g_c ?_; first | refine c_t (by rfl) ?_ | refine c_f (by rfl) ?_) | (refine g_k ?_; first | refine k_n ?_ | refine k_r ?_ | refine k_e (by rfl) ?_ | refine k_o (by rfl) ?_) | (refine g_lo ?_; first | refine l_r ?_ | refine l_e ?_) | (refine g_xd ?_; first | (refine xd_q (by rfl) ?_; try (first | refine q_mv (by rfl) ?_ | refine wP (by rfl) ?_ | (refine uQ ?_; try (first | refine uC (by rfl) (by assumption) ?_ | refine vB (by rfl) (by assumption) ?_ | refine vC (by rfl) ?_ | refine xY (by rfl) ?_ | refine xX (by rfl) ?_)) | (refine uS ?_; try (first | refine uD (by rfl) (by rfl) (by assumption) (by omega) (by omega) ?_ | refine wT (by rfl) (by rfl) (by assumption) (by omega) (by omega) ?_ | refine wX (by rfl) (by rfl) (by decide) (by decide) ?_ | refine yG (by rfl) (by rfl) (by decide) (by decide) ?_ | refine wN (by rfl) (by rfl) (by decide) (by decide) ?_ | refine yG (by rfl) (by rfl) (by omega) (by omega) ?_)) | refine q_cm (by rfl) (by rfl) ?_ | refine q_ar (by rfl) (by rfl) (by rfl) ?_ | refine vJ (by rfl) ?_ | (refine uW ?_; try (first | refine wF (by rfl) ?_ | refine wG (by rfl) ?_ | refine vD (by rfl) ?_)) | refine uV (by rfl) (by rfl) ?_ | refine wO (by rfl) ?_ | refine wQ (by rfl) ?_ | refine uF (by rfl) (by rfl) (by first | decide | omega) ?_ | refine uM (by rfl) (by rfl) (by first | decide | omega) ?_ | refine uX (by rfl) (by rfl) ?_ | refine uY (by rfl) (by rfl) (by rfl) ?_ | refine uO (by rfl) ?_ | refine uN (by rfl) ?_ | refine xZ (by rfl) (by rfl) ?_ | refine wA (by rfl) (by rfl) ?_ | refine uL ?_ | refine uR ?_ | refine uU (by rfl) (by rfl) ?_ | refine vI (by rfl) (by rfl) ?_ | refine wC (by rfl) ?_ | refine q_mx (by rfl) (by rfl) ?_ | refine q_mn (by rfl) (by rfl) ?_ | refine uP (by rfl) (by rfl) (by rfl) ?_ | refine uT (by rfl) ?_ | refine vK (by rfl) ?_ | refine vL (by rfl) ?_ | refine wB (by rfl) ?_ | refine wR (by rfl) (by rfl) ?_ | refine wS (by rfl) (by rfl) ?_)) | (refine tS ?_; try (first | (refine uZ (by rfl) ?_; try (first | refine yN (by rfl) (by rfl) ?_ | refine yI (by rfl) (by rfl) ?_ | refine yN (yJ _ _) (by rfl) ?_ | refine yI (yJ _ _) (by rfl) ?_ | refine yN (xU _ _ _ _) (by rfl) ?_ | refine yI (xU _ _ _ _) (by rfl) ?_ | refine yN (xT _ _ _) (by rfl) ?_ | refine yI (xT _ _ _) (by rfl) ?_)) | (refine tA (by rfl) ?_; try (first | refine tE (by assumption) (by omega) (by omega) (fun _ _ => ?_) | refine vU (by omega) (by omega) ?_ | refine xQ (Nat.le_of_ble_eq_true (by rfl)) ?_ | refine yS (by rfl) (by rfl) (by rfl) (by omega) ?_)))) | refine vA (by rfl) (by rfl) (by rfl) (by rfl) (Nat.le_of_ble_eq_true (by rfl)) ?_ | (refine vZ (by rfl) (by rfl) ?_; try (first | refine yS (by rfl) (by rfl) (by rfl) (Nat.le_of_ble_eq_true (by rfl)) ?_ | refine yS (by rfl) (by rfl) (by rfl) (by omega) ?_)) | refine tT (by rfl) (by rfl) ?_ | refine sU (by rfl) (by rfl) (by rfl) ?_ | refine bH ?_ | refine uA (by rfl) ?_ | refine pM (by rfl) ?_) | (refine g_l ?_; first | (refine uZ (by rfl) ?_; try (first | refine yN (by rfl) (by rfl) ?_ | refine yI (by rfl) (by rfl) ?_ | refine yN (yJ _ _) (by rfl) ?_ | refine yI (yJ _ _) (by rfl) ?_ | refine yN (xU _ _ _ _) (by rfl) ?_ | refine yI (xU _ _ _ _) (by rfl) ?_ | refine yN (xT _ _ _) (by rfl) ?_ | refine yI (xT _ _ _) (by rfl) ?_)) | (refine tA (by rfl) ?_; try (first | refine tE (by assumption) (by omega) (by omega) (fun _ _ => ?_) | refine vU (by omega) (by omega) ?_ | refine xQ (Nat.le_of_ble_eq_true (by rfl)) ?_ | refine yS (by rfl) (by rfl) (by rfl) (by omega) ?_))) | (refine g_len ?_; first | refine uC (by rfl) (by assumption) ?_ | refine vB (by rfl) (by assumption) ?_ | refine vC (by rfl) ?_ | refine xY (by rfl) ?_ | refine xX (by rfl) ?_) | (refine g_nil ?_; first | refine wF (by rfl) ?_ | refine wG (by rfl) ?_ | refine vD (by rfl) ?_) | (refine g_iad ?_; first | refine uD (by rfl) (by rfl) (by assumption) (by omega) (by omega) ?_ | refine wT (by rfl) (by rfl) (by assumption) (by omega) (by omega) ?_ | refine wX (by rfl) (by rfl) (by decide) (by decide) ?_ | refine yG (by rfl) (by rfl) (by decide) (by decide) ?_ | refine wN (by rfl) (by rfl) (by decide) (by decide) ?_ | refine yG (by rfl) (by rfl) (by omega) (by omega) ?_) | (refine g_box ?_; first | refine yN (by rfl) (by rfl) ?_ | refine yI (by rfl) (by rfl) ?_ | refine yN (yJ _ _) (by rfl) ?_ | refine yI (yJ _ _) (by rfl) ?_ | refine yN (xU _ _ _ _) (by rfl) ?_ | refine yI (xU _ _ _ _) (by rfl) ?_ | refine yN (xT _ _ _) (by rfl) ?_ | refine yI (xT _ _ _) (by rfl) ?_) | (refine g_cells ?_; first | refine tE (by assumption) (by omega) (by omega) (fun _ _ => ?_) | refine vU (by omega) (by omega) ?_ | refine xQ (Nat.le_of_ble_eq_true (by rfl)) ?_) | (refine g_st ?_; first | refine yS (by rfl) (by rfl) (by rfl) (Nat.le_of_ble_eq_true (by rfl)) ?_) | (refine g_b ?_; first | refine b_r ?_ | refine b_n ?_) | (refine g_r ?_; first | refine r_tmp (by rfl) ?_ | refine r_cell ?_ | refine r_nil ?_))
 exact hgo.out) : A := h ⟨k⟩
def elL (k : Nat) : El (List Rat) := ⟨fun cs l => ∃ c, cs = [c] ∧ Ls (elQ k) c l, 1, fun h => by obtain ⟨c, rfl, _⟩ := h; rfl, fun h => by obtain ⟨c, rfl, h⟩ := h; exact ⟨h.hf, trivial⟩⟩
noncomputable def gO (m : Int) (f : List Pl) (h a : Rat) (i : Nat) (last prev : List Rat) : Option (List Rat) :=
 bif dec (m = 6 ∧ 0 < i) then some (xH (xH last (h * (((3 : Int) : Rat) / ((2 : Int) : Rat))) (xI f last a)) (h * (((-1 : Int) : Rat) / ((2 : Int) : Rat))) (xI f prev (a - h))) else tV m f h a last
noncomputable def tU (m : Int) (f : List Pl) (h t : Rat) (g : Int) (i : Nat) (out : List (List Rat)) : Except Int (List (List Rat)) :=
 match gO m f h (t + h * ((i : Int) : Rat)) i (out.getD i []) (out.getD (i - 1) []) with
 | none => .error 4
 | some y => bif dec (gT (y.map (rdV g))) then .ok (out ++ [y.map (rdV g)]) else .error 3
noncomputable def runV (m : Int) (f : List Pl) (h t : Rat) (g : Int) (x : List Rat) : Nat → Except Int (List (List Rat))
 | 0 => .ok [x]
 | i + 1 => match runV m f h t g x i with
  | .error e => .error e
  | .ok out => tU m f h t g i out
theorem run_err {m : Int} {f : List Pl} {h t : Rat} {g : Int} {x : List Rat} {i n : Nat} {e : Int} (h1 : runV m f h t g x i = .error e) (hn : i ≤ n) : runV m f h t g x n = .error e := by
 induction n with
 | zero =>
  have : i = 0 := by omega
  subst this
  exact h1
 | succ n ih =>
  rcases Nat.lt_or_ge i (n + 1) with h | h
  ·simp only [runV, ih (by omega)]
  ·have : i = n + 1 := by omega
   subst this
   exact h1
def RunK (r : Except Int (List (List Rat))) (u : V) : Prop := (∃ e, r = .error e ∧ e ≠ 0 ∧ u = .tup [.c .nilSl, i64 e]) ∨ (∃ out c, r = .ok out ∧ u = .tup [.c c, i64 0] ∧ Ls (elL 2) c out)
def Told (f : List Pl) (l : List Rat) : Prop := l.length = f.length ∧ gT l
theorem told_cpl {f : List Pl} {l : List Rat} (hf : f.length ≤ 3) (h : Told f l) : CpL 120 l := by
 have h1 : pW (l.map rp) := fun p hp => by
  obtain ⟨q, hq, rfl⟩ := List.mem_map.1 hp
  exact fit_ratS (h.2 q hq)
 have h2 := CpL.rats h1
 have h3 : (l.map rp).map rt = l := by
  rw [List.map_map]
  conv => rhs; rw [← List.map_id l]
  exact List.map_congr_left fun q _ => rt_rp q
 rw [h3, List.length_map] at h2
 exact h2.mono (by have := h.1; omega)
theorem cp_neg {a : Nat} {p : Rat} (h : CpL a [p]) : CpL a [-p] := by
 obtain ⟨D, g1, g2, g3⟩ := h
 refine ⟨D, g1, g2, fun r hr => ?_⟩
 simp at hr
 subst hr
 exact (g3 p (by simp)).neg
theorem cp_sub {a b : Nat} {p q : Rat} (h1 : CpL a [p]) (h2 : CpL b [q]) : CpL (a + b + 1) [p - q] := by
 rw [Rat.sub_eq_add_neg]
 exact bC h1 (cp_neg h2)
theorem c32 : CpL 2 [((3 : Int) : Rat) / ((2 : Int) : Rat)] := cp_frac (a := 3) (b := 2) (n := 2) (by decide) (by decide) (by decide) false
theorem c12 : CpL 2 [((-1 : Int) : Rat) / ((2 : Int) : Rat)] := cp_frac (a := 1) (b := 2) (n := 2) (by decide) (by decide) (by decide) true
theorem ld_L {k : Nat} {c : C} {l : List (List Rat)} {n i : Nat} {K : V → Prop} (hc : Ls (elL k) c l) (hi : i < l.length) (hn : n = i) (h : ∀ d, Ls (elQ k) d l[i] → K (.c d)) : yM (c.ds.drop (n * 1)) false 1 K := by
 subst hn
 obtain ⟨cs, r, ⟨d, rfl, h1⟩, h2⟩ := hc.els.get hi
 have h2 : c.ds.drop (n * 1) = [d] ++ r := h2
 rw [h2]
 exact h d h1
theorem Out.isSl {α : Type} {E : El α} {el : TypeId} {m : Nat} {H : Hp} {c : C} {l : List α} (h : Out E el m H c l) (h0 : 0 < l.length) : ∃ b co, c = .sl b 0 l.length co E.s := by
 cases h with
 | nil => simp at h0
 | @sl b n co cells ds _ hm hb hn hc hE =>
  subst hn
  exact ⟨b, co, rfl⟩
theorem Out.extS {α : Type} {E : El α} {el : TypeId} {m : Nat} {H S : Hp} {c : C} {l : List α} (h : Out E el m H c l) : Out E el m (H ++ S) c l := by
 cases h with
 | nil => exact .nil
 | sl hm hb hn hc h => exact .sl hm (by rw [List.getElem?_append_left (lt_of_getElem? hb)]; exact hb) hn hc h
theorem ld_outL {k : Nat} {el : TypeId} {m n i b off : Nat} {co : Option Nat} {H : Hp} {l : List (List Rat)} {K : V → Prop} (ho : Out (elL k) el m H (.sl b off n co 1) l) (hi : i < l.length) {o : Nat} (hof : o = off + i * 1) (h : ∀ d, Ls (elQ k) d l[i] → K (.c d)) : yW H[b]? false 1 o K := by
 subst hof
 cases ho with
 | @sl _ _ _ cells ds _ hm hb hn hc hE =>
  obtain ⟨cs, r, ⟨d, rfl, h1⟩, h2⟩ := hE.get hi
  refine yN (c := d) hb ?_ (h d h1)
  simp only
  have e : ds[i * 1]? = some d := by
   have := congrArg (·[0]?) h2
   simpa [List.getElem?_drop, elL] using this
  rw [← hc, List.getElem?_take] at e
  split at e
  ·simpa using e
  ·cases e
theorem x_callG {P : Program} {e : Env} {H : Hp} {K : V → Hp → Prop} {f : AO} {args : List AO} {g : FuncId} {us : List V} {cs : List C} (h : f.ev e = some (.c (.fn g cs))) (h2 : evs e args = some us) (k : semH P g (us ++ cs.map .c) H K) : xopF P e H (.call f args) K := by
 cases cs with
 | nil =>
  rw [List.map_nil, List.append_nil] at k
  exact pN h h2 k
 | cons c cs => exact x_callc h h2 k
theorem mStep_len {m : Int} {f : List Pl} {h t : Rat} {x y : List Rat} (hl : f.length = x.length) (hy : tV m f h t x = some y) : y.length = x.length := by
 have r : ∀ z s, (xI f z s).length = x.length := fun z s => by rw [vV, hl]
 have sol : ∀ {n : Nat} {M : Mx} {z : List Rat}, bB n M = some z → z.length = n := by
  intro n M z hz
  unfold bB at hz
  cases hg : tZ n M n with
  | none => rw [hg] at hz; cases hz
  | some R =>
   rw [hg] at hz
   simp at hz
   subst hz
   simp
 unfold tV at hy
 cases h0 : dec (m = 0) <;> rw [h0] at hy
 case true =>
  cases hy
  exact wU (r _ _)
 cases h1 : dec (m = 1 ∨ m = 6) <;> rw [h1] at hy
 case true =>
  cases hy
  refine wU ?_
  rw [wU] <;> simp [r]
 cases h2 : dec (m = 2) <;> rw [h2] at hy
 case true =>
  cases hy
  exact wU (r _ _)
 cases h3 : dec (m = 3) <;> rw [h3] at hy
 case true =>
  cases hy
  refine wU ?_
  have k1 : (k1V f h t x).length = x.length := r _ _
  have k2 : (k2V f h t x).length = x.length := r _ _
  have k3 : (k3V f h t x).length = x.length := r _ _
  have k4 : (k4V f h t x).length = x.length := r _ _
  have q1 : (xH (k1V f h t x) ((2 : Int) : Rat) (k2V f h t x)).length = x.length := by rw [wU (by rw [k1, k2]), k1]
  have q2 : (xH (xH (k1V f h t x) ((2 : Int) : Rat) (k2V f h t x)) ((2 : Int) : Rat) (k3V f h t x)).length = x.length := by rw [wU (by rw [q1, k3]), q1]
  rw [sumV, wU (by rw [q2, k4]), q2]
 cases h4 : dec (m = 4) <;> rw [h4] at hy
 case true => exact sol hy
 have := sol hy
 rw [this]
 exact wU (r _ _)
attribute [local irreducible] yA semH semC qLen qNil qIad qSlc qIdx yW yM xC appX appI slcX awpF yO xJ xopF xR qval lval seqQ xN wJ wI xW cnd arith IntKind.wrap
theorem step_run {cf cx : C} {ch ct : List C} {f : List Pl} {x : List Rat} {h t : Rat} {m g : Int} {n : Nat} (hc : Ls elM cf f) (hf : SysOk (f.length + 1) f) (hx : Ls (elQ 2) cx x) (hT : Told f x) (hh : IQ 8 ch h) (bh : CpL 42 [h]) (ht : IQ 8 ct t) (bt : CpL 40 [t]) (m0 : 0 ≤ m) (m6 : m ≤ 6) (hg : g < 4294967296) (hn : n ≤ 60) (hi : ImpOk m) (ha : m = 4 ∨ m = 5 → AffS f) :
  semC Try.prog n_step_run [i64 m, .agg (cf :: ch), .agg ct, .c cx, i64 g, i64 n] (RunK (runV m f h t g x n)) := by
 refine yD ok_step_run rfl (show HFVs [i64 m, .agg (cf :: ch), .agg ct, .c cx, i64 g, i64 n] from ⟨trivial, ⟨hc.hf, hh.hf⟩, ht.hf, hx.hf, trivial, trivial, trivial⟩) ?_
 have hf3 := hf.len
 obtain ⟨a0, a1, a2, a3, a4, a5, rfl⟩ := id hh.six
 obtain ⟨b0, b1, b2, b3, b4, b5, rfl⟩ := id ht.six
 refine go5 ?_
 first | refine yE (step_method m0 m6 hi) (fun u hu => ?_) | refine yB (step_method m0 m6 hi) (fun u hu => ?_)
 obtain ⟨gf, caps, rfl, hcap, hdo⟩ := hu
 refine go5 ?_
 simp only [sH, sA, ratC, sQ, sP, List.set_cons_zero, List.set_cons_succ, List.nil_append, List.cons_append, List.append_nil, List.replicate_succ, List.replicate_zero, List.length_cons, List.length_nil, splice, List.take_succ_cons, List.take_zero, List.drop_succ_cons, List.drop_zero, List.take_nil, List.drop_nil, Nat.zero_add, Nat.reduceAdd, Nat.reduceMul, Int.reduceToNat, wH, List.getElem?_cons_succ, List.getElem?_cons_zero]
 obtain ⟨F, hF⟩ : ∃ F : Hp, F = [.live ⟨[cf, a0, a1, a2, a3, a4, a5], vN, .rw⟩, .live ⟨[b0, b1, b2, b3, b4, b5], xD, .rw⟩] := ⟨_, rfl⟩
 refine yT (fun w vs H => ∃ (i : Nat) (o : C) (R : Hp) (out : List (List Rat)), vs = [i64 m, i64 g, .c (.ptr 0 0), .c (.ptr 1 0), .c o, .c (.fn gf caps), i64 n, i64 i] ∧ H = [.live ⟨[cf, a0, a1, a2, a3, a4, a5], vN, .rw⟩, .live ⟨[b0, b1, b2, b3, b4, b5], xD, .rw⟩] ++ R ∧ w = n - i ∧ i ≤ n ∧ runV m f h t g x i = .ok out ∧ out.length = i + 1 ∧ (∀ l ∈ out, Told f l) ∧ Out (elL 2) qI 2 H o out) (by rfl) ⟨0, _, [.live ⟨[cx], qI, .rw⟩], [x], rfl, rfl, rfl, by omega, rfl, rfl, by simpa using hT, .sl (cells := [cx]) (ds := [cx]) (by decide) rfl rfl rfl (.one ⟨cx, rfl, hx⟩)⟩ ?_
 rintro w vs H ⟨i, o, R, out, rfl, rfl, rfl, i1, i2, i3, i4, i5⟩
 obtain ⟨b, co, rfl⟩ := i5.isSl (by omega)
 refine go13 ?_
 cases hi : yA Cm.lss (i : Int) (n : Int)
 case false =>
  simp [yA] at hi
  have ei : i = n := by omega
  subst ei
  refine go13 ?_
  obtain ⟨d, f1, l1⟩ := i5.fz (p := (· ≠ .bor)) (by simp)
  exact ⟨_, .tup (.cons (.c f1) (.cons (.c (.hf trivial)) .nil)), .inr ⟨out, d, i2, rfl, l1⟩⟩
 simp [yA] at hi
 have hlast := i4 _ (List.getElem_mem (show i < out.length by omega))
 have hgl : out.getD i [] = out[i]'(by omega) := by simp [List.getD, i3]
 refine go13 ?_
 first | refine yE (qC (g := (i : Int)) (by omega)) (fun u hu => ?_) | refine yB (qC (g := (i : Int)) (by omega)) (fun u hu => ?_)
 obtain ⟨r1, rfl, g1⟩ := hu
 refine go13 ?_
 first | refine yE (uH hh g1 (by decide)) (fun u hu => ?_) | refine yB (uH hh g1 (by decide)) (fun u hu => ?_)
 obtain ⟨r2, rfl, g2⟩ := hu
 refine go13 ?_
 first | refine yE (tM ht g2 (by decide)) (fun u hu => ?_) | refine yB (tM ht g2 (by decide)) (fun u hu => ?_)
 obtain ⟨r3, rfl, g3⟩ := hu
 have bi : CpL 6 [((i : Int) : Rat)] := pQ (by omega)
 have ba : CpL 90 [t + h * ((i : Int) : Rat)] := (bC bt (pE bh bi)).mono (by decide)
 obtain ⟨c0, c1, c2, c3, c4, c5, rfl⟩ := id g3.six
 refine go13 ?_
 refine ld_outL i5.extS (i := i) (by omega) (by omega) (fun cl hcl => ?_)
 have bl := told_cpl hf3 hlast
 have g3 := g3.up (show _ ≤ 4194304 by decide)
 have hin : qT cf cl [a0, a1, a2, a3, a4, a5] [c0, c1, c2, c3, c4, c5] f (out[i]'(by omega)) h (t + h * ((i : Int) : Rat)) := ⟨hc, sE hf (by rw [hlast.1]), hlast.1.symm, hh.up (by decide), hcl.up (by decide), g3, bl, ba, bh.mono (by decide)⟩
 refine go13 ?_
 cases c6 : yA Cm.eql m 6
 case false =>
  simp [yA] at c6
  have hnx : gO m f h (t + h * ((i : Int) : Rat)) i (out.getD i []) (out.getD (i - 1) []) = tV m f h (t + h * ((i : Int) : Rat)) (out[i]'(by omega)) := by
   unfold gO
   rw [yL.2 (by omega), hgl]
   rfl
  refine go13 ?_
  refine x_callG (by rfl) (by rfl) (yB (hdo hin ha) (fun u hu => ?_))
  rcases hu with ⟨y, cy, hy, rfl, ly⟩ | ⟨hy, rfl⟩
  case inr =>
   have he : runV m f h t g x (i + 1) = .error 4 := by
    simp only [runV, i2, tU, hnx, hy]
   refine go13 ?_
   exact ⟨_, .tup (.cons (.c (.hf trivial)) (.cons (.c (.hf trivial)) .nil)), .inl ⟨4, run_err he (by omega), by decide, rfl⟩⟩
  have hny : y.length = f.length := by rw [mStep_len hin.hl hy, hlast.1]
  rw [hy] at hnx
  refine go13 ?_
  first | refine yE (qL ly (by omega) hg) (fun u hu => ?_) | refine yB (qL ly (by omega) hg) (fun u hu => ?_)
  rcases hu with ⟨hfit, cz, rfl, lz⟩ | ⟨hfit, rfl⟩
  case inr =>
   have he : runV m f h t g x (i + 1) = .error 3 := by
    simp only [runV, i2, tU, hnx]
    rw [yL.2 hfit]
    rfl
   refine go13 ?_
   exact ⟨_, .tup (.cons (.c (.hf trivial)) (.cons (.c (.hf trivial)) .nil)), .inl ⟨3, run_err he (by omega), by decide, rfl⟩⟩
  have hr : runV m f h t g x (i + 1) = .ok (out ++ [y.map (rdV g)]) := by
   simp only [runV, i2, tU, hnx]
   rw [yH.2 hfit]
   rfl
  refine go13 ?_
  refine app_imm (bytes := 24) (E := elL 2) (F := [.live ⟨[cf, a0, a1, a2, a3, a4, a5], vN, .rw⟩, .live ⟨[b0, b1, b2, b3, b4, b5], xD, .rw⟩]) (a := y.map (rdV g)) (List.append_assoc _ _ _) (by rw [← List.append_assoc]; exact i5.extS) (by rfl) (by rfl) rfl ⟨cz, rfl, lz⟩ (by omega) (fun R2 o2 q2 => ?_)
  refine go13 ?_
  rw [xO i (by omega)]
  refine l_n (by rfl) (n' := n - (i + 1)) (by omega) ⟨i + 1, _, _, _, rfl, rfl, rfl, by omega, hr, by simp; omega, fun l hl => ?_, q2⟩
  rcases List.mem_append.1 hl with hl | hl
  ·exact i4 l hl
  ·simp only [List.mem_singleton] at hl
   subst hl
   exact ⟨by rw [List.length_map, hny], hfit⟩
 simp [yA] at c6
 refine go13 ?_
 cases c7 : yA Cm.gtr (i : Int) 0
 case false =>
  simp [yA] at c7
  have hnx : gO m f h (t + h * ((i : Int) : Rat)) i (out.getD i []) (out.getD (i - 1) []) = tV m f h (t + h * ((i : Int) : Rat)) (out[i]'(by omega)) := by
   unfold gO
   rw [yL.2 (by omega), hgl]
   rfl
  refine go13 ?_
  refine x_callG (by rfl) (by rfl) (yB (hdo hin ha) (fun u hu => ?_))
  rcases hu with ⟨y, cy, hy, rfl, ly⟩ | ⟨hy, rfl⟩
  case inr =>
   have he : runV m f h t g x (i + 1) = .error 4 := by
    simp only [runV, i2, tU, hnx, hy]
   refine go13 ?_
   exact ⟨_, .tup (.cons (.c (.hf trivial)) (.cons (.c (.hf trivial)) .nil)), .inl ⟨4, run_err he (by omega), by decide, rfl⟩⟩
  have hny : y.length = f.length := by rw [mStep_len hin.hl hy, hlast.1]
  rw [hy] at hnx
  refine go13 ?_
  first | refine yE (qL ly (by omega) hg) (fun u hu => ?_) | refine yB (qL ly (by omega) hg) (fun u hu => ?_)
  rcases hu with ⟨hfit, cz, rfl, lz⟩ | ⟨hfit, rfl⟩
  case inr =>
   have he : runV m f h t g x (i + 1) = .error 3 := by
    simp only [runV, i2, tU, hnx]
    rw [yL.2 hfit]
    rfl
   refine go13 ?_
   exact ⟨_, .tup (.cons (.c (.hf trivial)) (.cons (.c (.hf trivial)) .nil)), .inl ⟨3, run_err he (by omega), by decide, rfl⟩⟩
  have hr : runV m f h t g x (i + 1) = .ok (out ++ [y.map (rdV g)]) := by
   simp only [runV, i2, tU, hnx]
   rw [yH.2 hfit]
   rfl
  refine go13 ?_
  refine app_imm (bytes := 24) (E := elL 2) (F := [.live ⟨[cf, a0, a1, a2, a3, a4, a5], vN, .rw⟩, .live ⟨[b0, b1, b2, b3, b4, b5], xD, .rw⟩]) (a := y.map (rdV g)) (List.append_assoc _ _ _) (by rw [← List.append_assoc]; exact i5.extS) (by rfl) (by rfl) rfl ⟨cz, rfl, lz⟩ (by omega) (fun R2 o2 q2 => ?_)
  refine go13 ?_
  rw [xO i (by omega)]
  refine l_n (by rfl) (n' := n - (i + 1)) (by omega) ⟨i + 1, _, _, _, rfl, rfl, rfl, by omega, hr, by simp; omega, fun l hl => ?_, q2⟩
  rcases List.mem_append.1 hl with hl | hl
  ·exact i4 l hl
  ·simp only [List.mem_singleton] at hl
   subst hl
   exact ⟨by rw [List.length_map, hny], hfit⟩
 simp [yA] at c7
 refine go13 ?_
 rw [pY i (by omega) (by omega)]
 refine go13 ?_
 refine ld_outL i5.extS (i := i - 1) (by omega) (by omega) (fun cp hcp => ?_)
 have hprev := i4 _ (List.getElem_mem (show i - 1 < out.length by omega))
 have bp := told_cpl hf3 hprev
 have hgp : out.getD (i - 1) [] = out[i - 1]'(by omega) := by
  have : i - 1 < out.length := by omega
  simp [List.getD, this]
 have bm : CpL 140 [t + h * ((i : Int) : Rat) - h] := (cp_sub ba bh).mono (by decide)
 have hnx : gO m f h (t + h * ((i : Int) : Rat)) i (out.getD i []) (out.getD (i - 1) []) = some (xH (xH (out[i]'(by omega)) (h * (((3 : Int) : Rat) / ((2 : Int) : Rat))) (xI f (out[i]'(by omega)) (t + h * ((i : Int) : Rat)))) (h * (((-1 : Int) : Rat) / ((2 : Int) : Rat))) (xI f (out[i - 1]'(by omega)) (t + h * ((i : Int) : Rat) - h))) := by
  unfold gO
  rw [yH.2 ⟨c6, by omega⟩, hgl, hgp]
  rfl
 have r1 : CpL 9720 (xI f (out[i]'(by omega)) (t + h * ((i : Int) : Rat))) := (tK hin.hf bl ba).mono (by decide)
 have n1 : (xI f (out[i]'(by omega)) (t + h * ((i : Int) : Rat))).length = (out[i]'(by omega)).length := by rw [vV, hlast.1]
 have r2 : CpL 11000 (xI f (out[i - 1]'(by omega)) (t + h * ((i : Int) : Rat) - h)) := (tK (sE hf (show _ = (out[i - 1]'(by omega)).length + 1 by rw [hprev.1])) bp bm).mono (by decide)
 have n2 : (xI f (out[i - 1]'(by omega)) (t + h * ((i : Int) : Rat) - h)).length = (out[i]'(by omega)).length := by rw [vV, hlast.1]
 have x1 : CpL 10000 (xH (out[i]'(by omega)) (h * (((3 : Int) : Rat) / ((2 : Int) : Rat))) (xI f (out[i]'(by omega)) (t + h * ((i : Int) : Rat)))) := (tX bl (pE bh c32) r1).mono (by decide)
 have m1 : (xH (out[i]'(by omega)) (h * (((3 : Int) : Rat) / ((2 : Int) : Rat))) (xI f (out[i]'(by omega)) (t + h * ((i : Int) : Rat)))).length = (out[i]'(by omega)).length := wU n1
 refine go13 ?_
 first | refine yE (vW hin hin.hx rfl hin.ht bl ba (by decide)) (fun u hu => ?_) | refine yB (vW hin hin.hx rfl hin.ht bl ba (by decide)) (fun u hu => ?_)
 obtain ⟨s1, rfl, l1⟩ := hu
 refine go13 ?_
 first | refine yE (q_Sub2 g3 hh (by decide)) (fun u hu => ?_) | refine yB (q_Sub2 g3 hh (by decide)) (fun u hu => ?_)
 obtain ⟨s2, rfl, l2⟩ := hu
 have l2 := l2.tightS (bm.bd (k := 4194304) (by decide) (by simp))
 refine go13 ?_
 first | refine yE (vW hin (hcp.up (by decide)) (by rw [hprev.1, hlast.1]) l2 bp bm (by decide)) (fun u hu => ?_) | refine yB (vW hin (hcp.up (by decide)) (by rw [hprev.1, hlast.1]) l2 bp bm (by decide)) (fun u hu => ?_)
 obtain ⟨s3, rfl, l3⟩ := hu
 refine go13 ?_
 first | refine yE (q_Frac (a := 3) (b := 2) (by decide) (by decide) (by decide)) (fun u hu => ?_) | refine yB (q_Frac (a := 3) (b := 2) (by decide) (by decide) (by decide)) (fun u hu => ?_)
 obtain ⟨s4, rfl, l4⟩ := hu
 refine go13 ?_
 first | refine yE (uH hh l4 (by decide)) (fun u hu => ?_) | refine yB (uH hh l4 (by decide)) (fun u hu => ?_)
 obtain ⟨s5, rfl, l5⟩ := hu
 refine go13 ?_
 first | refine yE (wK (x3 := hin.x3) hin.hx bl (pC l5 (by decide)) (pE bh c32) l1 n1 r1 (by decide)) (fun u hu => ?_) | refine yB (wK (x3 := hin.x3) hin.hx bl (pC l5 (by decide)) (pE bh c32) l1 n1 r1 (by decide)) (fun u hu => ?_)
 obtain ⟨s6, rfl, l6⟩ := hu
 refine go13 ?_
 first | refine yE (q_Frac (a := -1) (b := 2) (by decide) (by decide) (by decide)) (fun u hu => ?_) | refine yB (q_Frac (a := -1) (b := 2) (by decide) (by decide) (by decide)) (fun u hu => ?_)
 obtain ⟨s7, rfl, l7⟩ := hu
 refine go13 ?_
 first | refine yE (uH hh l7 (by decide)) (fun u hu => ?_) | refine yB (uH hh l7 (by decide)) (fun u hu => ?_)
 obtain ⟨s8, rfl, l8⟩ := hu
 refine go13 ?_
 first | refine yE (wK (x3 := by rw [m1]; exact hin.x3) l6 x1 (pC l8 (by decide)) (pE bh c12) l3 (by rw [n2, m1]) r2 (by decide)) (fun u hu => ?_) | refine yB (wK (x3 := by rw [m1]; exact hin.x3) l6 x1 (pC l8 (by decide)) (pE bh c12) l3 (by rw [n2, m1]) r2 (by decide)) (fun u hu => ?_)
 obtain ⟨s9, rfl, ly⟩ := hu
 generalize hyy : xH (xH (out[i]'(by omega)) (h * (((3 : Int) : Rat) / ((2 : Int) : Rat))) (xI f (out[i]'(by omega)) (t + h * ((i : Int) : Rat)))) (h * (((-1 : Int) : Rat) / ((2 : Int) : Rat))) (xI f (out[i - 1]'(by omega)) (t + h * ((i : Int) : Rat) - h)) = y at hnx ly
 have hny : y.length = f.length := by rw [← hyy, wU (by rw [n2, m1]), m1, hlast.1]
 refine go13 ?_
 first | refine yE (qL ly (by omega) hg) (fun u hu => ?_) | refine yB (qL ly (by omega) hg) (fun u hu => ?_)
 rcases hu with ⟨hfit, cz, rfl, lz⟩ | ⟨hfit, rfl⟩
 case inr =>
  have he : runV m f h t g x (i + 1) = .error 3 := by
   simp only [runV, i2, tU, hnx]
   rw [yL.2 hfit]
   rfl
  refine go13 ?_
  exact ⟨_, .tup (.cons (.c (.hf trivial)) (.cons (.c (.hf trivial)) .nil)), .inl ⟨3, run_err he (by omega), by decide, rfl⟩⟩
 have hr : runV m f h t g x (i + 1) = .ok (out ++ [y.map (rdV g)]) := by
  simp only [runV, i2, tU, hnx]
  rw [yH.2 hfit]
  rfl
 refine go13 ?_
 refine app_imm (bytes := 24) (E := elL 2) (F := [.live ⟨[cf, a0, a1, a2, a3, a4, a5], vN, .rw⟩, .live ⟨[b0, b1, b2, b3, b4, b5], xD, .rw⟩]) (a := y.map (rdV g)) (List.append_assoc _ _ _) (by rw [← List.append_assoc]; exact i5.extS) (by rfl) (by rfl) rfl ⟨cz, rfl, lz⟩ (by omega) (fun R2 o2 q2 => ?_)
 refine go13 ?_
 rw [xO i (by omega)]
 refine l_n (by rfl) (n' := n - (i + 1)) (by omega) ⟨i + 1, _, _, _, rfl, rfl, rfl, by omega, hr, by simp; omega, fun l hl => ?_, q2⟩
 rcases List.mem_append.1 hl with hl | hl
 ·exact i4 l hl
 ·simp only [List.mem_singleton] at hl
  subst hl
  exact ⟨by rw [List.length_map, hny], hfit⟩
end Go.Proofs.Ytokckcnfojjpjaa

set_option linter.unusedVariables false
set_option linter.unusedSimpArgs false
namespace Go.Proofs.Ytokckcnfojjpjaa
open Go.RowKit
set_option maxRecDepth 20000
def elLR : El (List R2) := ⟨fun cs l => ∃ c, cs = [c] ∧ Ls elP c l ∧ l.length < 1048576, 1, fun h => by obtain ⟨c, rfl, _⟩ := h; rfl, fun h => by obtain ⟨c, rfl, h, _⟩ := h; exact ⟨h.hf, trivial⟩⟩
def RunRK (m : Int) (f : List Pl) (t : R2) (x : List R2) (h : R2) (g n : Int) (u : V) : Prop :=
 (RunOk m f t x h g n ∧ ∃ e, runV m f (rt h) (rt t) g (x.map rt) n.toNat = .error e ∧ e ≠ 0 ∧ u = .tup [.c .nilSl, i64 e]) ∨
 (RunOk m f t x h g n ∧ ∃ out c, runV m f (rt h) (rt t) g (x.map rt) n.toNat = .ok out ∧ (∀ l ∈ out, Told f l) ∧ out.length = n.toNat + 1 ∧ u = .tup [.c c, i64 0] ∧ Ls elLR c (out.map fun l => l.map rp)) ∨
 (¬ RunOk m f t x h g n ∧ ∃ e, e ≠ 0 ∧ u = .tup [.c .nilSl, i64 e] ∧ (jY f → e = qR m f t x h g n))
theorem run_told {m : Int} {f : List Pl} {h t : Rat} {g : Int} {x : List Rat} (hT : Told f x) : ∀ {n : Nat} {out : List (List Rat)}, runV m f h t g x n = .ok out → out.length = n + 1 ∧ ∀ l ∈ out, Told f l
 | 0, out, h1 => by
  cases h1
  exact ⟨rfl, by simpa using hT⟩
 | n + 1, out, h1 => by
  simp only [runV] at h1
  cases h2 : runV m f h t g x n with
  | error e => rw [h2] at h1; cases h1
  | ok o =>
   rw [h2] at h1
   obtain ⟨l1, l2⟩ := run_told hT h2
   simp only [tU] at h1
   have hgl : o.getD n [] = o[n]'(by omega) := by simp [List.getD, l1]
   cases h3 : gO m f h (t + h * ((n : Int) : Rat)) n (o.getD n []) (o.getD (n - 1) []) with
   | none => rw [h3] at h1; cases h1
   | some y =>
    rw [h3] at h1
    simp only at h1
    cases h4 : dec (gT (y.map (rdV g)))
    ·rw [h4] at h1; cases h1
    ·rw [h4] at h1
     simp only [cond_true, Except.ok.injEq] at h1
     subst h1
     have hfit := yH.1 h4
     refine ⟨by simp; omega, fun l hl => ?_⟩
     rcases List.mem_append.1 hl with hl | hl
     ·exact l2 l hl
     ·simp only [List.mem_singleton] at hl
      subst hl
      refine ⟨?_, hfit⟩
      have hy : y.length = (o[n]'(by omega)).length := by
       have hlast := l2 _ (List.getElem_mem (show n < o.length by omega))
       rw [hgl] at h3
       unfold gO at h3
       cases h5 : dec (m = 6 ∧ 0 < n) <;> rw [h5] at h3
       ·exact mStep_len hlast.1.symm h3
       ·cases h3
        rw [wU, wU]
        ·rw [vV, hlast.1]
        ·rw [vV, wU (by rw [vV, hlast.1]), hlast.1]
      rw [List.length_map, hy]
      exact (l2 _ (List.getElem_mem (show n < o.length by omega))).1
theorem told_in {f : List Pl} {x : List R2} (hv : pW x) (hl : x.length = f.length) : Told f (x.map rt) := by
 refine ⟨by simpa using hl, fun q hq => ?_⟩
 obtain ⟨p, hp, rfl⟩ := List.mem_map.1 hq
 have := hv p hp
 rw [this.rp]
 exact this.fit
theorem outs_told {f : List Pl} {l : List Rat} (h : Told f l) : outsR l = (l.map rp, true) := by
 unfold outsR
 rw [yH.2 (show ∀ q ∈ l, fitR (rp q) = true from h.2)]
 rfl
theorem num_two {p : R2} (h : vF p.1 p.2) : CpL 40 [rt p] := CpL.one h
theorem ld_LR {c : C} {l : List (List R2)} {n i : Nat} {K : V → Prop} (hc : Ls elLR c l) (hi : i < l.length) (hn : n = i) (h : ∀ d, Ls elP d l[i] → K (.c d)) : yM (c.ds.drop (n * 1)) false 1 K := by
 subst hn
 obtain ⟨cs, r, ⟨d, rfl, h1, _⟩, h2⟩ := hc.els.get hi
 have h2 : c.ds.drop (n * 1) = [d] ++ r := h2
 rw [h2]
 exact h d h1
theorem run_first {m : Int} {f : List Pl} {h t : Rat} {g : Int} {x : List Rat} : ∀ {n : Nat} {out : List (List Rat)}, runV m f h t g x n = .ok out → ∃ r, out = x :: r
 | 0, out, h1 => by
  cases h1
  exact ⟨[], rfl⟩
 | n + 1, out, h1 => by
  simp only [runV] at h1
  cases h2 : runV m f h t g x n with
  | error e => rw [h2] at h1; cases h1
  | ok o =>
   rw [h2] at h1
   obtain ⟨r, rfl⟩ := run_first h2
   simp only [tU] at h1
   split at h1
   ·cases h1
   ·rename_i y hy
    cases h4 : dec (gT (y.map (rdV g)))
    ·rw [h4] at h1; cases h1
    ·rw [h4] at h1
     simp only [cond_true, Except.ok.injEq] at h1
     subst h1
     exact ⟨_, rfl⟩
attribute [local irreducible] yA semH semC qLen qNil qIad qSlc qIdx yW yM xC appX appI slcX awpF yO xJ xopF xR qval lval seqQ xN wJ wI xW cnd arith IntKind.wrap
theorem jQ {cf cx : C} {f : List Pl} {x : List R2} (m : Int) (t h : R2) (g n : Int) (hc : Ls elM cf f) (hf : f.length < uJ) (hx : Ls elP cx x) (hxl : x.length < uJ) (hi : ImpOk m) : semC Try.prog n_step_Run [i64 m, .c cf, .agg (ratC t), .c cx, .agg (ratC h), i64 g, i64 n] (RunRK m f t x h g n) := by
 refine yD ok_step_Run rfl (show HFVs [i64 m, .c cf, .agg (ratC t), .c cx, .agg (ratC h), i64 g, i64 n] from ⟨trivial, hc.hf, gH _, hx.hf, gH _, trivial, trivial, trivial⟩) ?_
 refine go13 ?_
 first | refine yE (step_known m t h g n hc hf hx hxl) (fun u hu => ?_) | refine yB (step_known m t h g n hc hf hx hxl) (fun u hu => ?_)
 obtain ⟨e, rfl, k1, k2⟩ := hu
 refine go13 ?_
 rw [gP]
 cases h1 : dec (e ≠ 0)
 case true =>
  have h1 := yH.1 h1
  refine go13 ?_
  refine ⟨_, .tup (.cons (.c (.hf trivial)) (.cons (.c (.hf trivial)) .nil)), .inr (.inr ⟨fun hk => ?_, e, h1, rfl, k1⟩)⟩
  have hv := val_sys hk.sys
  have hS : jY f := fun p hp t ht => by
   have := ((hv.1.poly p hp).term t ht).len
   have := hv.1.len
   omega
  have e2 := known_ok (m := m) (f := f) (t := t) (x := x) (h := h) (g := g) (n := n) hk.sys ⟨hk.ht, hk.hx, hk.hh⟩ (by have := hk.m0; have := hk.m6; have := hk.hp; have := hk.g0; have := hk.gm; have := hk.n0; have := hk.nm; omega) hk.len (fun h => h.2 (hk.aff h.1))
  rw [k1 hS, e2.1] at h1
  exact h1 rfl
 have h1 : e = 0 := Classical.byContradiction (yL.1 h1)
 have hk := k2 h1
 have hsys := val_sys hk.sys
 have hf3 := hsys.1.len
 have hxl3 := hk.len
 have hT := told_in hk.hx hk.len
 obtain ⟨n', rfl⟩ := Int.eq_ofNat_of_zero_le hk.n0
 have hn60 := hk.nm
 have hgm := hk.gm
 refine go13 ?_
 first | refine yE (q_Of hk.hh) (fun u hu => ?_) | refine yB (q_Of hk.hh) (fun u hu => ?_)
 obtain ⟨r1, rfl, g1⟩ := hu
 obtain ⟨a0, a1, a2, a3, a4, a5, rfl⟩ := id g1.six
 refine go13 ?_
 first | refine yE (q_Of hk.ht) (fun u hu => ?_) | refine yB (q_Of hk.ht) (fun u hu => ?_)
 obtain ⟨r2, rfl, g2⟩ := hu
 refine go13 ?_
 first | refine yE (num_In hx hk.hx (by omega)) (fun u hu => ?_) | refine yB (num_In hx hk.hx (by omega)) (fun u hu => ?_)
 obtain ⟨r3, rfl, g3⟩ := hu
 refine go13 ?_
 first | refine yE (step_run (n := n') hc hsys.1 g3 hT (g1.up (by decide)) ((num_two hk.hh).mono (by decide)) (g2.up (by decide)) (num_two hk.ht) hk.m0 hk.m6 (by omega) (by omega) hi hk.aff) (fun u hu => ?_) | refine yB (step_run (n := n') hc hsys.1 g3 hT (g1.up (by decide)) ((num_two hk.hh).mono (by decide)) (g2.up (by decide)) (num_two hk.ht) hk.m0 hk.m6 (by omega) (by omega) hi hk.aff) (fun u hu => ?_)
 rcases hu with ⟨e2, hr, he2, rfl⟩ | ⟨out, cl, hr, rfl, hl⟩
 case inl =>
  refine go13 ?_
  rw [gP]
  rw [yH.2 he2]
  refine go13 ?_
  exact ⟨_, .tup (.cons (.c (.hf trivial)) (.cons (.c (.hf trivial)) .nil)), .inl ⟨hk, e2, hr, he2, rfl⟩⟩
 obtain ⟨o1, o2⟩ := run_told hT hr
 refine go13 ?_
 rw [show yA Cm.neq 0 0 = false by simp [yA]]
 refine go13 ?_
 refine yT (fun w vs H => ∃ (i : Nat) (o : C) (R : Hp), vs = [.c o, .c cl, i64 out.length, i64 i] ∧ H = [.live ⟨ratC t, tQ, .rw⟩, .live ⟨ratC h, tQ, .rw⟩] ++ R ∧ w = out.length - i ∧ i ≤ out.length ∧ Out elLR T_sl_api_Rat 2 H o ((out.take i).map fun l => l.map rp)) (by rfl) ⟨0, _, [], rfl, rfl, rfl, by omega, .nil⟩ ?_
 rintro w vs H ⟨i, o, R, rfl, rfl, rfl, i1, i2⟩
 refine go13 ?_
 cases hi : yA Cm.lss (i : Int) (out.length : Int)
 case false =>
  simp [yA] at hi
  rw [uE (by omega)] at i2
  refine go13 ?_
  obtain ⟨d, f1, l1⟩ := i2.fz (p := (· ≠ .bor)) (by simp)
  exact ⟨_, .tup (.cons (.c f1) (.cons (.c (.hf trivial)) .nil)), .inr (.inl ⟨hk, out, d, hr, o2, o1, rfl, l1⟩)⟩
 simp [yA] at hi
 have htl := o2 _ (vH hi)
 refine go13 ?_
 refine ld_L hl (i := i) hi (by omega) (fun d hd => ?_)
 refine go13 ?_
 first | refine yE (num_Outs hd (by have := htl.1; omega)) (fun u hu => ?_) | refine yB (num_Outs hd (by have := htl.1; omega)) (fun u hu => ?_)
 obtain ⟨c5, l5, rfl⟩ := hu
 rw [outs_told htl] at l5 ⊢
 refine go13 ?_
 refine app_imm (bytes := 24) (E := elLR) (F := [.live ⟨ratC t, tQ, .rw⟩, .live ⟨ratC h, tQ, .rw⟩]) (R := R) (a := out[i].map rp) rfl i2 (by rfl) (by rfl) rfl ⟨c5, rfl, l5, by rw [List.length_map]; have := htl.1; omega⟩ (by simp only [List.length_map, List.length_take]; omega) (fun R2 o2' q2 => ?_)
 refine go13 ?_
 rw [xO i (by omega)]
 refine l_n (by rfl) (n' := out.length - (i + 1)) (by omega) ⟨i + 1, _, _, rfl, rfl, rfl, by omega, ?_⟩
 rw [wM hi, List.map_append]
 exact q2
def StepRK (m : Int) (f : List Pl) (t : R2) (x : List R2) (h : R2) (g : Int) (u : V) : Prop :=
 (RunOk m f t x h g 1 ∧ ∃ e, runV m f (rt h) (rt t) g (x.map rt) 1 = .error e ∧ e ≠ 0 ∧ u = .tup [.c .nilSl, i64 e]) ∨
 (RunOk m f t x h g 1 ∧ ∃ y c, runV m f (rt h) (rt t) g (x.map rt) 1 = .ok [x.map rt, y] ∧ Told f y ∧ u = .tup [.c c, i64 0] ∧ Ls elP c (y.map rp)) ∨
 (¬ RunOk m f t x h g 1 ∧ ∃ e, e ≠ 0 ∧ u = .tup [.c .nilSl, i64 e] ∧ (jY f → e = qR m f t x h g 1))
theorem step_Step {cf cx : C} {f : List Pl} {x : List R2} (m : Int) (t h : R2) (g : Int) (hc : Ls elM cf f) (hf : f.length < uJ) (hx : Ls elP cx x) (hxl : x.length < uJ) (hi : ImpOk m) : semC Try.prog n_step_Step [i64 m, .c cf, .agg (ratC t), .c cx, .agg (ratC h), i64 g] (StepRK m f t x h g) := by
 refine yD ok_step_Step rfl (show HFVs [i64 m, .c cf, .agg (ratC t), .c cx, .agg (ratC h), i64 g] from ⟨trivial, hc.hf, gH _, hx.hf, gH _, trivial, trivial⟩) ?_
 refine go13 ?_
 first | refine yE (jQ m t h g 1 hc hf hx hxl hi) (fun u hu => ?_) | refine yB (jQ m t h g 1 hc hf hx hxl hi) (fun u hu => ?_)
 rcases hu with ⟨hk, e, hr, he, rfl⟩ | ⟨hk, out, c, hr, ho, hl, rfl, lc⟩ | ⟨hk, e, he, rfl, h1⟩
 ·refine go13 ?_
  rw [gP, yH.2 he]
  refine go13 ?_
  exact ⟨_, .tup (.cons (.c (.hf trivial)) (.cons (.c (.hf trivial)) .nil)), .inl ⟨hk, e, hr, he, rfl⟩⟩
 ·have hl2 : out.length = 2 := hl
  have hr : runV m f (rt h) (rt t) g (x.map rt) 1 = .ok out := hr
  obtain ⟨r, rfl⟩ := run_first hr
  obtain ⟨y, rfl⟩ : ∃ y, r = [y] := by
   match r, hl2 with
   | [y], _ => exact ⟨y, rfl⟩
  obtain ⟨L, hL⟩ : ∃ L : List (List R2), L = [x.map rt, y].map fun l => l.map rp := ⟨_, rfl⟩
  rw [← hL] at lc
  have hLl : L.length = 2 := by rw [hL]; rfl
  refine go13 ?_
  rw [show yA Cm.neq 0 0 = false by simp [yA]]
  refine go13 ?_
  refine ld_LR lc (i := 1) (by omega) (by decide) (fun d hd => ?_)
  have hy : L[1]'(by omega) = y.map rp := by simp [hL]
  rw [hy] at hd
  refine go13 ?_
  exact ⟨_, .tup (.cons (.c (.hf hd.hf)) (.cons (.c (.hf trivial)) .nil)), .inr (.inl ⟨hk, y, d, hr, ho _ (by simp), rfl, hd⟩)⟩
 ·refine go13 ?_
  rw [gP, yH.2 he]
  refine go13 ?_
  exact ⟨_, .tup (.cons (.c (.hf trivial)) (.cons (.c (.hf trivial)) .nil)), .inr (.inr ⟨hk, e, he, rfl, h1⟩)⟩
end Go.Proofs.Ytokckcnfojjpjaa

set_option linter.unusedVariables false
set_option linter.unusedSimpArgs false
namespace Go.Proofs.Ytokckcnfojjpjaa
open Go.RowKit
set_option maxRecDepth 20000
theorem more_of {m : Int} {f : List Pl} {h t : Rat} {g : Int} {i : Nat} {out r : List (List Rat)} (h1 : tU m f h t g i out = .ok r) : ∃ y, gO m f h (t + h * ((i : Int) : Rat)) i (out.getD i []) (out.getD (i - 1) []) = some y ∧ gT (y.map (rdV g)) ∧ r = out ++ [y.map (rdV g)] := by
 unfold tU at h1
 cases hz : gO m f h (t + h * ((i : Int) : Rat)) i (out.getD i []) (out.getD (i - 1) []) with
 | none => rw [hz] at h1; cases h1
 | some z =>
  rw [hz] at h1
  simp only at h1
  cases hd : dec (gT (z.map (rdV g)))
  ·rw [hd] at h1; cases h1
  ·rw [hd] at h1
   simp only [cond_true, Except.ok.injEq] at h1
   exact ⟨z, rfl, yH.1 hd, h1.symm⟩
theorem run_succ {m : Int} {f : List Pl} {h t : Rat} {g : Int} {x : List Rat} {n : Nat} {out : List (List Rat)} (h1 : runV m f h t g x (n + 1) = .ok out) : ∃ out', runV m f h t g x n = .ok out' ∧ tU m f h t g n out' = .ok out := by
 unfold runV at h1
 cases hr : runV m f h t g x n with
 | error e => rw [hr] at h1; cases h1
 | ok o => rw [hr] at h1; exact ⟨o, rfl, h1⟩
theorem run_len {m : Int} {f : List Pl} {h t : Rat} {g : Int} {x : List Rat} : ∀ {n : Nat} {out : List (List Rat)}, runV m f h t g x n = .ok out → out.length = n + 1
 | 0, out, h1 => by cases h1; rfl
 | n + 1, out, h1 => by
  obtain ⟨o, h2, h3⟩ := run_succ h1
  obtain ⟨y, _, _, rfl⟩ := more_of h3
  simp [run_len h2]
theorem run_take {m : Int} {f : List Pl} {h t : Rat} {g : Int} {x : List Rat} {i : Nat} : ∀ {n : Nat} {out : List (List Rat)}, runV m f h t g x n = .ok out → i ≤ n → runV m f h t g x i = .ok (out.take (i + 1))
 | 0, out, h1, hi => by
  obtain rfl : i = 0 := by omega
  have := run_len h1
  rw [List.take_of_length_le (by omega)]
  exact h1
 | n + 1, out, h1, hi => by
  rcases Nat.lt_or_ge n i with h2 | h2
  ·obtain rfl : i = n + 1 := by omega
   have := run_len h1
   rw [List.take_of_length_le (by omega)]
   exact h1
  ·obtain ⟨o, h3, h4⟩ := run_succ h1
   obtain ⟨y, _, _, rfl⟩ := more_of h4
   have := run_len h3
   rw [List.take_append_of_le_length (by omega)]
   exact run_take h3 h2
theorem run_cut {m : Int} {f : List Pl} {h t : Rat} {g : Int} {x : List Rat} {c : Nat} (hm : m ≠ 6) : ∀ {k : Nat} {out : List (List Rat)}, runV m f h t g x (c + k) = .ok out → runV m f h (t + h * ((c : Int) : Rat)) g (out.getD c []) k = .ok (out.drop c)
 | 0, out, h1 => by
  have hl := run_len h1
  show Except.ok [out.getD c []] = _
  rw [List.drop_eq_getElem_cons (by omega), List.drop_of_length_le (by omega)]
  simp [List.getD, show c < out.length by omega]
 | k + 1, out, h1 => by
  obtain ⟨o, h3, h4⟩ := run_succ (n := c + k) h1
  obtain ⟨y, h5, h6, rfl⟩ := more_of h4
  have hl := run_len h3
  have ih := run_cut hm h3
  have e1 : (o ++ [y.map (rdV g)]).getD c [] = o.getD c [] := by simp [List.getD, List.getElem?_append_left (show c < o.length by omega)]
  have e2 : (o ++ [y.map (rdV g)]).drop c = o.drop c ++ [y.map (rdV g)] := List.drop_append_of_le_length (by omega)
  rw [e1, e2]
  have e3 : (o.drop c).getD k [] = o.getD (c + k) [] := by simp [List.getD, List.getElem?_drop]
  have e4 : (t + h * ((c : Int) : Rat)) + h * ((k : Int) : Rat) = t + h * (((c + k : Nat) : Int) : Rat) := by
   push_cast
   grind
  have hn : gO m f h (t + h * (((c + k : Nat) : Int) : Rat)) k (o.getD (c + k) []) ((o.drop c).getD (k - 1) []) = some y := by
   rw [← h5]
   unfold gO
   rw [yL.2 (fun h => hm h.1), yL.2 (fun h => hm h.1)]
   rfl
  unfold runV
  rw [ih]
  show tU m f h (t + h * ((c : Int) : Rat)) g k (o.drop c) = _
  unfold tU
  rw [e3, e4, hn]
  simp only
  rw [yH.2 h6]
  rfl
end Go.Proofs.Ytokckcnfojjpjaa

set_option linter.unusedVariables false
set_option linter.unusedSimpArgs false
namespace Go.Proofs.Ytokckcnfojjpjaa
open Go.RowKit
set_option maxRecDepth 20000
def rowQ (bx : Nat → Nat) (co : Nat → Option Nat) (w i : Nat) : C := .sl (bx i) 0 w (co i) 6
def updQ (A : Mx) (i j : Nat) (a : Rat) : Mx := fun i' j' => if i' = i ∧ j' = j then a else A i' j'
structure Mt (K o : Nat) (bx : Nat → Nat) (co : Nat → Option Nat) (ds : Nat → List C) (L : Nat) (H : Hp) (m w : Nat) (M : Mx) : Prop where
 T : H[o]? = some (.live ⟨(List.range m).map (rowQ bx co w), qI, .rw⟩)
 oL : o < L
 pos : ∀ i, i < m → bx i ≠ o ∧ bx i < L
 row : ∀ i, i < m → H[bx i]? = some (.live ⟨ds i, xD, .rw⟩)
 len : ∀ i, i < m → (ds i).length = w * 6
 at_ : ∀ i j, i < m → j < w → IQ K (((ds i).drop (j * 6)).take 6) (M i j)
 inj : ∀ i k, i < m → k < m → bx i = bx k → i = k
section
variable {K o : Nat} {bx : Nat → Nat} {co : Nat → Option Nat} {ds : Nat → List C} {L : Nat} {H : Hp} {m w : Nat} {M : Mx}
theorem Mt.congr {M' : Mx} (h : Mt K o bx co ds L H m w M) (hv : ∀ i j, i < m → j < w → M i j = M' i j) : Mt K o bx co ds L H m w M' :=
 ⟨h.T, h.oL, h.pos, h.row, h.len, fun i j hi hj => by rw [← hv i j hi hj]; exact h.at_ i j hi hj, h.inj⟩
theorem Mt.grow {X : Hp} (h : Mt K o bx co ds L H m w M) : Mt K o bx co ds L (H ++ X) m w M :=
 ⟨by rw [List.getElem?_append_left (lt_of_getElem? h.T)]; exact h.T, h.oL, h.pos, fun i hi => by rw [List.getElem?_append_left (lt_of_getElem? (h.row i hi))]; exact h.row i hi, h.len, h.at_, h.inj⟩
theorem Mt.other {p : Nat} {s : Slot} (h : Mt K o bx co ds L H m w M) (hp : L ≤ p) : Mt K o bx co ds L (H.set p s) m w M :=
 ⟨by rw [List.getElem?_set_ne (by have := h.oL; omega)]; exact h.T, h.oL, h.pos, fun i hi => by rw [List.getElem?_set_ne (by have := h.pos i hi; omega)]; exact h.row i hi, h.len, h.at_, h.inj⟩
theorem splice_otherQ {cells cs : List C} {i j : Nat} (h : j * 6 + 6 ≤ cells.length) (hl : cs.length = 6) (hij : i ≠ j) : ((splice cells (j * 6) cs).drop (i * 6)).take 6 = (cells.drop (i * 6)).take 6 := by
 unfold splice
 apply List.ext_getElem?
 intro n
 simp only [List.getElem?_take, List.getElem?_drop]
 split
 ·rename_i hn
  rcases Nat.lt_or_ge i j with h1 | h1
  ·rw [List.append_assoc, List.getElem?_append_left (by simp; omega), List.getElem?_take, if_pos (by omega)]
  ·rw [List.getElem?_append_right (by simp; omega), List.getElem?_drop]
   congr 1
   simp
   omega
 ·rfl
theorem Mt.put {i j : Nat} {a : Rat} {cs : List C} (h : Mt K o bx co ds L H m w M) (hi : i < m) (hj : j < w) (hc : IQ K cs a) :
  Mt K o bx co (fun i' => if i' = i then splice (ds i) (j * 6) cs else ds i') L (H.set (bx i) (.live ⟨splice (ds i) (j * 6) cs, xD, .rw⟩)) m w (updQ M i j a) := by
 have hlt := lt_of_getElem? (h.row i hi)
 have hcl : cs.length = 6 := (elQ K).len (show (elQ K).p cs a from hc)
 have hle : j * 6 + 6 ≤ (ds i).length := by
  rw [h.len i hi]
  omega
 refine ⟨?_, h.oL, h.pos, fun i' hi' => ?_, fun i' hi' => ?_, fun i' j' hi' hj' => ?_, h.inj⟩
 ·rw [List.getElem?_set_ne (h.pos i hi).1]
  exact h.T
 ·by_cases e : i' = i
  ·subst e
   rw [List.getElem?_set_self hlt, if_pos rfl]
  ·rw [List.getElem?_set_ne (fun x => e (h.inj i' i hi' hi x.symm)), if_neg e]
   exact h.row i' hi'
 ·by_cases e : i' = i
  ·subst e
   rw [if_pos rfl, jB (by rw [hcl]; exact hle)]
   exact h.len i' hi'
  ·rw [if_neg e]
   exact h.len i' hi'
 ·unfold updQ
  by_cases e : i' = i
  ·subst e
   rw [if_pos rfl]
   by_cases e2 : j' = j
   ·subst e2
    rw [if_pos ⟨rfl, rfl⟩, get_splice (by omega) hcl]
    exact hc
   ·rw [if_neg (fun x => e2 x.2), splice_otherQ hle hcl e2]
    exact h.at_ i' j' hi' hj'
  ·rw [if_neg e, if_neg (fun x => e x.1)]
   exact h.at_ i' j' hi' hj'
def sigQ (r k i : Nat) : Nat := if i = r then k else if i = k then r else i
theorem sigQ_lt {r k i m : Nat} (hr : r < m) (hk : k < m) (hi : i < m) : sigQ r k i < m := by
 unfold sigQ
 split
 ·exact hk
 ·split
  ·exact hr
  ·exact hi
theorem sigQ_inj {r k i l : Nat} (h : sigQ r k i = sigQ r k l) : i = l := by
 unfold sigQ at h
 split at h <;> split at h <;> (try split at h) <;> (try split at h) <;> omega
def gM {α : Type} (f : Nat → α) (r k : Nat) : Nat → α := fun i => if i = r then f k else if i = k then f r else f i
theorem swapQ_sig {α : Type} (f : Nat → α) (r k i : Nat) : gM f r k i = f (sigQ r k i) := by
 unfold gM sigQ
 split
 ·rfl
 ·split <;> rfl
theorem Mt.swap {r k : Nat} (h : Mt K o bx co ds L H m w M) (hr : r < m) (hk : k < m) :
  Mt K o (gM bx r k) (gM co r k) (gM ds r k) L (H.set o (.live ⟨splice (splice ((List.range m).map (rowQ bx co w)) r [rowQ bx co w k]) k [rowQ bx co w r], qI, .rw⟩)) m w (pG M r k) := by
 have hlt := lt_of_getElem? h.T
 have sw : ∀ {α : Type} (f : Nat → α) (p : α → Prop) (i : Nat), i < m → (∀ i, i < m → p (f i)) → p (gM f r k i) := by
  intro α f p i hi hp
  unfold gM
  split
  ·exact hp k hk
  ·split
   ·exact hp r hr
   ·exact hp i hi
 have hpos : ∀ i, i < m → gM bx r k i ≠ o ∧ gM bx r k i < L := fun i hi => sw bx (fun b => b ≠ o ∧ b < L) i hi h.pos
 refine ⟨?_, h.oL, hpos, fun i hi => ?_, fun i hi => sw ds (fun d => d.length = w * 6) i hi h.len, fun i j hi hj => ?_, fun i l hi hl he => ?_⟩
 ·rw [List.getElem?_set_self hlt]
  congr 3
  have e1 : ∀ (cells : List C) (i : Nat) (c : C), i < cells.length → splice cells i [c] = cells.set i c := by
   intro cells i c hi
   unfold splice
   rw [List.set_eq_take_append_cons_drop, if_pos hi]
   simp
  rw [e1 _ r _ (by simp; omega), e1 _ k _ (by simp; omega)]
  apply List.ext_getElem
  ·simp
  ·intro i h1 h2
   simp only [List.getElem_map, List.getElem_range, List.getElem_set]
   unfold rowQ gM
   by_cases e : k = i
   ·subst e
    by_cases e2 : k = r
    ·subst e2
     simp
    ·simp [e2]
   ·by_cases e2 : r = i
    ·subst e2
     simp [e]
    ·simp [e, e2, Ne.symm e, Ne.symm e2, show ¬ i = r from fun x => e2 x.symm, show ¬ i = k from fun x => e x.symm]
 ·rw [List.getElem?_set_ne (fun x => (hpos i hi).1 x.symm)]
  unfold gM
  split
  ·exact h.row k hk
  ·split
   ·exact h.row r hr
   ·exact h.row i hi
 ·unfold gM pG
  by_cases c1 : i = r
  ·rw [if_pos c1, if_pos c1]
   exact h.at_ k j hk hj
  ·rw [if_neg c1, if_neg c1]
   by_cases c2 : i = k
   ·rw [if_pos c2, if_pos c2]
    exact h.at_ r j hr hj
   ·rw [if_neg c2, if_neg c2]
    exact h.at_ i j hi hj
 ·rw [swapQ_sig, swapQ_sig] at he
  exact sigQ_inj (h.inj _ _ (sigQ_lt hr hk hi) (sigQ_lt hr hk hl) he)
theorem Mt.ldT {off i : Nat} {Q : V → Prop} (h : Mt K o bx co ds L H m w M) (hi : i < m) (ho : off = i) (k : Q (.c (rowQ bx co w i))) : yW H[o]? false 1 off Q := by
 subst ho
 refine yN h.T ?_ k
 simp [hi]
theorem Mt.ldE {off i j : Nat} {Q : V → Prop} (h : Mt K o bx co ds L H m w M) (hi : i < m) (hj : j < w) (ho : off = j * 6) (k : ∀ cs, IQ K cs (M i j) → Q (.agg cs)) : yW H[bx i]? true 6 off Q := by
 subst ho
 have hl := h.len i hi
 refine yI (h.row i hi) (Nat.ble_eq_true_of_le (by simp only; omega)) (k _ (h.at_ i j hi hj))
theorem Mt.st {off i j : Nat} {cs : List C} {a : Rat} {ds' : Option (List C)} {Q : Nat → Slot → Prop} (h : Mt K o bx co ds L H m w M) (hi : i < m) (hj : j < w) (ho : off = j * 6) (hd : ds' = some cs) (hc : IQ K cs a) (k : Q (bx i) (.live ⟨splice (ds i) (j * 6) cs, xD, .rw⟩)) : xC H[bx i]? (bx i) 6 off ds' Q := by
 subst ho
 have hl := h.len i hi
 have hcl : cs.length = 6 := (elQ K).len (show (elQ K).p cs a from hc)
 exact yS (h.row i hi) hd (by rw [hcl]; rfl) (by omega) k
end
theorem piv_uniq {M : Mx} {n k p q : Nat} (h1 : IsPiv M n k p) (h2 : IsPiv M n k q) : p = q := by
 rcases Nat.lt_trichotomy p q with h | h | h
 ·exact absurd (h2.2.2.2 p h1.1 h) h1.2.2.1
 ·exact h
 ·exact absurd (h1.2.2.2 q h2.1 h) h2.2.2.1
theorem stage_some {M : Mx} {n k p : Nat} (h : IsPiv M n k p) : stageV n k M = some (gX (pG M k p) k) := by
 unfold stageV
 rw [yH.2 ⟨p, h⟩]
 have := Classical.epsilon_spec (p := fun p => IsPiv M n k p) ⟨p, h⟩
 rw [piv_uniq this h]
 rfl
theorem stage_none {M : Mx} {n k : Nat} (h : ∀ i, k ≤ i → i < n → M i k = 0) : stageV n k M = none := by
 unfold stageV
 rw [yL.2 (fun ⟨p, h1, h2, h3, _⟩ => h3 (h p h1 h2))]
 rfl
theorem gauss_none {n : Nat} {M : Mx} {k l : Nat} (h : tZ n M k = none) (hl : k ≤ l) : tZ n M l = none := by
 induction l with
 | zero =>
  have : k = 0 := by omega
  subst this
  exact h
 | succ l ih =>
  rcases Nat.lt_or_ge k (l + 1) with h1 | h1
  ·simp only [tZ, ih (by omega), Option.bind_none]
  ·have : k = l + 1 := by omega
   subst this
   exact h
theorem elim_row {M : Mx} {k j : Nat} : gX M k k j = M k j := by
 unfold gX
 rw [yH.2 (.inl rfl)]
 rfl
theorem elim_zero {M : Mx} {k i j : Nat} (h : M i k = 0) : gX M k i j = M i j := by
 unfold gX
 rw [yH.2 (.inr (.inl h))]
 rfl
theorem elim_left {M : Mx} {k i j : Nat} (h : j < k) : gX M k i j = M i j := by
 unfold gX
 rw [yH.2 (.inr (.inr h))]
 rfl
theorem elim_else {M : Mx} {k i j : Nat} (h1 : i ≠ k) (h2 : M i k ≠ 0) (h3 : k ≤ j) : gX M k i j = M i j - M i k / M k k * M k j := by
 unfold gX
 rw [yL.2 (by rintro (h | h | h); exact h1 h; exact h2 h; omega)]
 rfl
def GB (K n : Nat) (M : Mx) : Prop := ∀ k R, k ≤ n → tZ n M k = some R → ∀ i j, i < n → j ≤ n → Bd K (rp (R i j))
end Go.Proofs.Ytokckcnfojjpjaa

set_option linter.unusedVariables false
set_option linter.unusedSimpArgs false
namespace Go.Proofs.Ytokckcnfojjpjaa
open Go.RowKit
set_option maxRecDepth 20000
def GaussR (K n : Nat) (M : Mx) (v : V) (H : Hp) : Prop := (bB n M = none ∧ v = .tup [.c .nilSl, .c (.bool false)]) ∨ (∃ y b cells, bB n M = some y ∧ v = .tup [.c (.sl b 0 n (some n) 6), .c (.bool true)] ∧ H[b]? = some (.live ⟨cells, xD, .rw⟩) ∧ Els (elQ K) cells y)
theorem solve_none {n : Nat} {M : Mx} (h : tZ n M n = none) : bB n M = none := by
 unfold bB
 rw [h]
 rfl
theorem solve_some {n : Nat} {M R : Mx} (h : tZ n M n = some R) : bB n M = some ((List.range n).map fun i => R i n / R i i) := by
 unfold bB
 rw [h]
 rfl
theorem stage_inv {M E : Mx} {n k : Nat} (h : stageV n k M = some E) : ∃ p, IsPiv M n k p ∧ E = gX (pG M k p) k := by
 by_cases hp : ∃ p, IsPiv M n k p
 ·obtain ⟨p, hp⟩ := hp
  rw [stage_some hp] at h
  cases h
  exact ⟨p, hp, rfl⟩
 ·unfold stageV at h
  rw [yL.2 hp] at h
  cases h
theorem gauss_piv {n : Nat} {M : Mx} : ∀ {k : Nat} {R : Mx}, tZ n M k = some R → ∀ i, i < k → R i i ≠ 0
 | 0, R, _, i, hi => by omega
 | k + 1, R, h, i, hi => by
  simp only [tZ] at h
  cases h1 : tZ n M k with
  | none => rw [h1] at h; cases h
  | some S =>
   rw [h1, Option.bind_some] at h
   obtain ⟨p, hp, rfl⟩ := stage_inv h
   rcases Nat.lt_or_ge i k with h2 | h2
   ·rw [elim_left h2]
    have : pG S k p i = S i := by
     unfold pG
     rw [if_neg (by omega), if_neg (by have := hp.1; omega)]
    rw [this]
    exact gauss_piv h1 i h2
   ·have : i = k := by omega
    subst this
    rw [elim_row]
    have : pG S i p i = S p := by unfold pG; rw [if_pos rfl]
    rw [this]
    exact hp.2.2.1
def doneR (M E : Mx) (i : Nat) : Mx := fun i' j' => if i' < i then E i' j' else M i' j'
def partR (M E : Mx) (i j : Nat) : Mx := fun i' j' => if i' < i ∨ (i' = i ∧ j' < j) then E i' j' else M i' j'
def lowT (n : Nat) : Option Nat → Prop
 | none => True
 | some b => b < n
def lowL (n : Nat) : List (Nat × Option Nat) → Prop
 | [] => True
 | p :: r => lowT n p.2 ∧ lowL n r
theorem logOk_low {inc : List Nat} {n : Nat} {log : List (Nat × Option Nat)} (h : lowL n log) : sY inc (some n) log = true := by
 cases inc with
 | nil => rfl
 | cons i r =>
  simp only [sY]
  rw [List.all_eq_true]
  intro p hp
  have h2 : ∀ {log : List (Nat × Option Nat)}, lowL n log → ∀ p ∈ log, lowT n p.2 := by
   intro log
   induction log with
   | nil => intro _ p hp; cases hp
   | cons a l ih =>
    intro h p hp
    rcases List.mem_cons.1 hp with rfl | hp
    ·exact h.1
    ·exact ih h.2 p hp
  have h3 := h2 h p hp
  have h4 : same? p.2 (some n) = false := by
   cases hc : p.2 with
   | none => rfl
   | some b =>
    rw [hc] at h3
    have h3 : b < n := h3
    simp only [same?]
    cases hb : Nat.beq b n with
    | false => rfl
    | true =>
     have := Nat.eq_of_beq_eq_true hb
     omega
  rw [h4]
  simp
attribute [local irreducible] yA semH semC qLen qNil qIad qSlc qIdx yW yM xC appX appI slcX awpF yO xJ xopF xR qval lval seqQ xN wJ wI xW cnd arith IntKind.wrap
theorem step_gauss {o n : Nat} {bx : Nat → Nat} {co : Nat → Option Nat} {ds : Nat → List C} {H0 : Hp} {M : Mx} {K' : V → Hp → Prop} (hM : Mt 2097152 o bx co ds H0.length H0 n (n + 1) M) (hn : n < 1048576) (hB : GB 2097152 n M) (hk : ∀ v H, GaussR 4194304 n M v H → K' v H) : semH Try.prog n_step_gauss [.c (.sl o 0 n (some n) 1)] H0 K' := by
 refine qM ok_step_gauss rfl ?_
 obtain ⟨L, hL⟩ : ∃ L, L = H0.length := ⟨_, rfl⟩
 rw [← hL] at hM
 refine go13 ?_
 refine yT (fun w vs H => ∃ (k : Nat) (bx : Nat → Nat) (co : Nat → Option Nat) (ds : Nat → List C) (R : Mx), vs = [.c (.sl o 0 n (some n) 1), i64 n, i64 n, i64 k] ∧ w = n - k ∧ k ≤ n ∧ tZ n M k = some R ∧ L ≤ H.length ∧ Mt 2097152 o bx co ds L H n (n + 1) R) (by rfl) ⟨0, bx, co, ds, M, rfl, rfl, by omega, rfl, by omega, hM⟩ ?_
 clear hM bx co ds
 rintro w vs H ⟨k, bx, co, ds, R, rfl, rfl, k1, k2, k3, hM⟩
 refine go13 ?_
 cases hkn : yA Cm.lss (k : Int) (n : Int)
 case false =>
  simp [yA] at hkn
  have ek : k = n := by omega
  subst ek
  refine go13 ?_
  refine vO (by rfl) (by rfl) ⟨by omega, by omega, by omega, by omega⟩ ?_
  refine go13 ?_
  have hpv := gauss_piv k2
  have hyl : ((List.range k).map fun i => R i k / R i i).length = k := by simp
  have hMg := hM.grow (X := [.live ⟨(List.replicate ((k : Int).toNat) zeroQ).flatten, xD, .rw⟩])
  refine yT (fun w vs H' => ∃ (i : Nat) (cells : List C), vs = [.c (.sl o 0 k (some k) 1), i64 k, .c (.sl H.length 0 k (some k) 6), i64 k, i64 i] ∧ H' = H ++ [.live ⟨cells, xD, .rw⟩] ∧ w = k - i ∧ i ≤ k ∧ Fill (elQ 4194304) zeroQ k cells (((List.range k).map fun i => R i k / R i i).take i)) (by rfl) ⟨0, _, rfl, rfl, rfl, by omega, .zero rfl⟩ ?_
  rintro w vs H' ⟨i, cells, rfl, rfl, rfl, i1, i2⟩
  have hcl : cells.length = k * 6 := i2.len
  have htl : (((List.range k).map fun i => R i k / R i i).take i).length = i := by rw [List.length_take, hyl]; omega
  have hG := hM.grow (X := [.live ⟨cells, xD, .rw⟩])
  refine go13 ?_
  cases hi : yA Cm.lss (i : Int) (k : Int)
  case false =>
   simp [yA] at hi
   have ei : i = k := by omega
   subst ei
   rw [uE (by omega)] at i2
   refine go13 ?_
   exact hk _ _ (.inr ⟨_, _, cells, solve_some k2, rfl, yJ _ _, i2.done hyl⟩)
  simp [yA] at hi
  refine go13 ?_
  refine hG.ldT (i := i) hi (by omega) ?_
  refine go13 ?_
  refine hG.ldE (i := i) (j := k) hi (by omega) (by omega) (fun c1 hc1 => ?_)
  refine go13 ?_
  refine hG.ldT (i := i) hi (by omega) ?_
  refine go13 ?_
  refine hG.ldE (i := i) (j := i) hi (by omega) (by omega) (fun c2 hc2 => ?_)
  refine go13 ?_
  first | refine yE (q_Div2 hc1 hc2 (by decide) (hpv i hi)) (fun u hu => ?_) | refine yB (q_Div2 hc1 hc2 (by decide) (hpv i hi)) (fun u hu => ?_)
  obtain ⟨c3, rfl, hc3⟩ := hu
  have hc3 : IQ 4194304 c3 (R i k / R i i) := hc3
  obtain ⟨_, _, _, _, _, _, rfl⟩ := id hc3.six
  refine go13 ?_
  refine yS (yJ _ _) (by rfl) (by rfl) (by omega) ?_
  rw [bM]
  refine go13 ?_
  rw [xO i (by omega)]
  have h4 := i2.put (cs := _) (a := _) (by rw [htl]; exact hi) hc3
  rw [htl] at h4
  refine l_n (by rfl) (n' := k - (i + 1)) (by omega) ⟨i + 1, _, rfl, by rw [Nat.zero_add, Int.toNat_natCast], rfl, by omega, ?_⟩
  rw [wM (by rw [hyl]; exact hi), List.getElem_map, List.getElem_range]
  exact h4
 simp [yA] at hkn
 refine go13 ?_
 refine yT (fun w vs H' => ∃ (p : Nat), vs = [.c (.sl o 0 n (some n) 1), i64 n, i64 k, i64 p, i64 n, i64 k] ∧ H' = H ∧ w = n - p ∧ k ≤ p ∧ p ≤ n ∧ ∀ i, k ≤ i → i < p → R i k = 0) (by rfl) ⟨k, rfl, rfl, rfl, by omega, by omega, fun i h1 h2 => by omega⟩ ?_
 rintro w vs H' ⟨p, rfl, rfl, rfl, p1, p2, p3⟩
 refine go13 ?_
 cases hp : yA Cm.lss (p : Int) (n : Int)
 case false =>
  simp [yA] at hp
  have ep : p = n := by omega
  subst ep
  have hnone := gauss_none (show tZ p M (k + 1) = none by simp only [tZ, k2, Option.bind_some]; exact stage_none p3) (show k + 1 ≤ p by omega)
  refine go13 ?_
  rw [show yA Cm.eql (p : Int) (p : Int) = true by simp [yA]]
  refine go13 ?_
  exact hk _ _ (.inl ⟨solve_none hnone, rfl⟩)
 simp [yA] at hp
 refine go13 ?_
 refine hM.ldT (i := p) hp (by omega) ?_
 refine go13 ?_
 refine hM.ldE (i := p) (j := k) hp (by omega) (by omega) (fun cs hcs => ?_)
 refine go13 ?_
 first | refine yE (gF hcs) (fun u hu => ?_) | refine yB (gF hcs) (fun u hu => ?_)
 obtain ⟨z, rfl, hz⟩ := hu
 cases z
 case true =>
  refine go13 ?_
  rw [xO p (by omega)]
  refine l_n (by rfl) (n' := n - (p + 1)) (by omega) ⟨p + 1, rfl, rfl, rfl, by omega, by omega, fun i h1 h2 => ?_⟩
  rcases Nat.lt_or_ge i p with h | h
  ·exact p3 i h1 h
  ·have : i = p := by omega
   subst this
   exact hz.1 rfl
 have hpiv : IsPiv R n k p := ⟨p1, hp, (fun h => by cases hz.2 h), p3⟩
 refine go13 ?_
 rw [show yA Cm.eql (p : Int) (n : Int) = false by simp [yA]; omega]
 refine go13 ?_
 refine hM.ldT (i := p) hp (by omega) ?_
 refine go13 ?_
 refine hM.ldT (i := k) (by omega) (by omega) ?_
 refine go13 ?_
 refine yS hM.T (by rfl) (by rfl) (by simp; omega) ?_
 refine go13 ?_
 refine yS (List.getElem?_set_self (lt_of_getElem? hM.T)) (by rfl) (by rfl) (by rw [jB (by simp; omega)]; simp; omega) ?_
 have hsw := hM.swap (r := k) (k := p) (by omega) hp
 rw [List.set_set, show 0 + (k : Int).toNat * 1 = k by omega, show 0 + (p : Int).toNat * 1 = p by omega]
 have hE : tZ n M (k + 1) = some (gX (pG R k p) k) := by
  simp only [tZ, k2, Option.bind_some]
  exact stage_some hpiv
 have hEB := hB (k + 1) _ (by omega) hE
 have hS0 : pG R k p k k ≠ 0 := by
  have : pG R k p k = R p := by unfold pG; rw [if_pos rfl]
  rw [this]
  exact hpiv.2.2.1
 generalize pG R k p = S at hsw hE hEB hS0
 generalize gM bx k p = bx at hsw
 generalize gM co k p = co at hsw
 generalize gM ds k p = ds at hsw
 obtain ⟨E, hEe⟩ : ∃ E, E = gX S k := ⟨_, rfl⟩
 rw [← hEe] at hE hEB
 refine go13 ?_
 refine yT (fun w vs H => ∃ (i : Nat) (ds : Nat → List C), vs = [.c (.sl o 0 n (some n) 1), i64 n, i64 k, i64 n, i64 k, i64 n, i64 i] ∧ w = n - i ∧ i ≤ n ∧ L ≤ H.length ∧ Mt 2097152 o bx co ds L H n (n + 1) (doneR S E i)) (by rfl) ⟨0, ds, rfl, rfl, by omega, by simp; omega, hsw.congr (fun i j _ _ => by unfold doneR; rw [if_neg (by omega)])⟩ ?_
 clear hsw hM p3 k3 ds
 rintro w vs H ⟨i, ds, rfl, rfl, i1, i2, hM⟩
 refine go13 ?_
 cases hi : yA Cm.lss (i : Int) (n : Int)
 case false =>
  simp [yA] at hi
  have ei : i = n := by omega
  subst ei
  refine go13 ?_
  rw [xO k (by omega)]
  exact l_n (by rfl) (n' := i - (k + 1)) (by omega) ⟨k + 1, bx, co, ds, E, rfl, rfl, by omega, hE, i2, hM.congr (fun i' j _ _ => by unfold doneR; rw [if_pos (by omega)])⟩
 simp [yA] at hi
 have skip : (∀ j, E i j = S i j) → Mt 2097152 o bx co ds L H n (n + 1) (doneR S E (i + 1)) := fun h => hM.congr (fun i' j _ _ => by
  unfold doneR
  by_cases e : i' < i
  ·rw [if_pos e, if_pos (by omega)]
  ·rw [if_neg e]
   by_cases e2 : i' < i + 1
   ·have : i' = i := by omega
    subst this
    rw [if_pos e2, h j]
   ·rw [if_neg e2])
 refine go13 ?_
 cases hik : yA Cm.eql (i : Int) (k : Int)
 case true =>
  simp [yA] at hik
  have hik : i = k := by omega
  refine go13 ?_
  rw [xO i (by omega)]
  exact l_n (by rfl) (n' := n - (i + 1)) (by omega) ⟨i + 1, ds, rfl, rfl, by omega, i2, skip (fun j => by rw [hEe, hik]; exact elim_row)⟩
 simp [yA] at hik
 have hik : i ≠ k := by omega
 have rowi : ∀ j, doneR S E i i j = S i j := fun j => by unfold doneR; rw [if_neg (by omega)]
 have rowk : ∀ i0 j, doneR S E i0 k j = S k j := fun i0 j => by
  unfold doneR
  split
  ·rw [hEe]; exact elim_row
  ·rfl
 refine go13 ?_
 refine hM.ldT (i := i) hi (by omega) ?_
 refine go13 ?_
 refine hM.ldE (i := i) (j := k) hi (by omega) (by omega) (fun cs hcs => ?_)
 rw [rowi] at hcs
 refine go13 ?_
 first | refine yE (gF hcs) (fun u hu => ?_) | refine yB (gF hcs) (fun u hu => ?_)
 obtain ⟨z, rfl, hz⟩ := hu
 cases z
 case true =>
  refine go13 ?_
  rw [xO i (by omega)]
  exact l_n (by rfl) (n' := n - (i + 1)) (by omega) ⟨i + 1, ds, rfl, rfl, by omega, i2, skip (fun j => by rw [hEe]; exact elim_zero (hz.1 rfl))⟩
 have hz0 : S i k ≠ 0 := fun h => by cases hz.2 h
 refine go13 ?_
 have hG := hM.grow (X := List.replicate (0 + 1) .unb)
 refine hG.ldT (i := i) hi (by omega) ?_
 refine go13 ?_
 refine hG.ldE (i := i) (j := k) hi (by omega) (by omega) (fun c1 hc1 => ?_)
 rw [rowi] at hc1
 refine go13 ?_
 refine hG.ldT (i := k) (by omega) (by omega) ?_
 refine go13 ?_
 refine hG.ldE (i := k) (j := k) (by omega) (by omega) (by omega) (fun c2 hc2 => ?_)
 rw [rowk] at hc2
 refine go13 ?_
 have ho' : o < H.length := by have := hM.oL; omega
 have hbi' : bx i < H.length := by have := (hM.pos i hi).2; omega
 have hbk' : bx k < H.length := by have := (hM.pos k (by omega)).2; omega
 refine pS (T := some H.length) (by rfl) (logOk_low (n := H.length) ⟨hbk', trivial, trivial, ho', trivial, trivial, trivial, hbi', trivial, trivial, ho', trivial, trivial, trivial, trivial⟩) ?_
 refine bH ?_
 refine go13 ?_
 first | refine yE (q_Div2 hc1 hc2 (by decide) hS0) (fun u hu => ?_) | refine yB (q_Div2 hc1 hc2 (by decide) hS0) (fun u hu => ?_)
 obtain ⟨c3, rfl, hc3⟩ := hu
 obtain ⟨e0, e1, e2, e3, e4, e5, rfl⟩ := id hc3.six
 clear hG hc1 hc2 hcs
 refine go13 ?_
 simp only [sH, sA, ratC, sQ, sP, List.set_cons_zero, List.set_cons_succ, List.nil_append, List.cons_append, List.append_nil, List.replicate_succ, List.replicate_zero, List.length_cons, List.length_nil, splice, List.take_succ_cons, List.take_zero, List.drop_succ_cons, List.drop_zero, List.take_nil, List.drop_nil, Nat.zero_add, Nat.reduceAdd, Nat.reduceMul, Int.reduceToNat, wH, List.getElem?_cons_succ, List.getElem?_cons_zero]
 have hG := hM.grow (X := [.live ⟨[e0, e1, e2, e3, e4, e5], xD, .rw⟩])
 refine yT (fun w vs H' => ∃ (j : Nat) (ds : Nat → List C), vs = [.c (.sl o 0 n (some n) 1), i64 n, i64 k, i64 i, .c (.ptr H.length 0), i64 j, i64 n, i64 k, i64 n, i64 i] ∧ w = n + 1 - j ∧ k ≤ j ∧ j ≤ n + 1 ∧ L ≤ H'.length ∧ H'[H.length]? = some (.live ⟨[e0, e1, e2, e3, e4, e5], xD, .rw⟩) ∧ Mt 2097152 o bx co ds L H' n (n + 1) (partR S E i j)) (by rfl) ⟨k, ds, rfl, rfl, by omega, by omega, by simp; omega, yJ _ _, hG.congr (fun i' j' _ _ => by
  unfold doneR partR
  by_cases e : i' < i
  ·rw [if_pos e, if_pos (.inl e)]
  ·rw [if_neg e]
   by_cases e2 : i' = i ∧ j' < k
   ·rw [if_pos (.inr e2), hEe, elim_left e2.2]
   ·rw [if_neg (by rintro (h | h); exact e h; exact e2 h)])⟩ ?_
 clear hG hM skip rowi rowk ds
 rintro w vs H' ⟨j, ds, rfl, rfl, j1, j2, j3, j4, hM⟩
 refine go13 ?_
 cases hj : yA Cm.leq (j : Int) (n : Int)
 case false =>
  simp [yA] at hj
  have ej : j = n + 1 := by omega
  subst ej
  refine go13 ?_
  rw [xO i (by omega)]
  exact l_n (by rfl) (n' := n - (i + 1)) (by omega) ⟨i + 1, ds, rfl, rfl, by omega, j3, hM.congr (fun i' j' _ hj' => by
   unfold doneR partR
   by_cases e : i' < i + 1
   ·rw [if_pos e, if_pos (by omega)]
   ·rw [if_neg e, if_neg (by omega)])⟩
 simp [yA] at hj
 have pi : partR S E i j i j = S i j := by unfold partR; rw [if_neg (by omega)]
 have pk : partR S E i j k j = S k j := by
  unfold partR
  split
  ·rw [hEe]; exact elim_row
  ·rfl
 have hcH : H.length < H'.length := lt_of_getElem? j4
 refine go13 ?_
 refine hM.ldT (i := i) hi (by omega) ?_
 refine go13 ?_
 refine hM.ldT (i := i) hi (by omega) ?_
 refine go13 ?_
 refine hM.ldE (i := i) (j := j) hi (by omega) (by omega) (fun d1 hd1 => ?_)
 rw [pi] at hd1
 refine go13 ?_
 refine yI j4 (by rfl) ?_
 refine go13 ?_
 refine hM.ldT (i := k) (by omega) (by omega) ?_
 refine go13 ?_
 refine hM.ldE (i := k) (j := j) (by omega) (by omega) (by omega) (fun d2 hd2 => ?_)
 rw [pk] at hd2
 refine go13 ?_
 first | refine yE (uH hc3 hd2 (by decide)) (fun u hu => ?_) | refine yB (uH hc3 hd2 (by decide)) (fun u hu => ?_)
 obtain ⟨d3, rfl, hd3⟩ := hu
 refine go13 ?_
 first | refine yE (q_Sub2 hd1 hd3 (by decide)) (fun u hu => ?_) | refine yB (q_Sub2 hd1 hd3 (by decide)) (fun u hu => ?_)
 obtain ⟨d4, rfl, hd4⟩ := hu
 have hnew : S i j - S i k / S k k * S k j = E i j := by rw [hEe]; exact (elim_else hik hz0 j1).symm
 rw [hnew] at hd4
 have hd4 := hd4.tightS (hEB i j hi (by omega))
 obtain ⟨_, _, _, _, _, _, rfl⟩ := id hd4.six
 refine go13 ?_
 refine hM.st (i := i) (j := j) hi (by omega) (by omega) (by rfl) hd4 ?_
 have hP := hM.put (i := i) (j := j) hi (by omega) hd4
 have hbi := (hM.pos i hi).2
 refine go13 ?_
 rw [xO j (by omega)]
 refine l_n (by rfl) (n' := n + 1 - (j + 1)) (by omega) ⟨j + 1, _, rfl, rfl, by omega, by omega, by simp; omega, ?_, hP.congr (fun i' j' _ _ => ?_)⟩
 ·rw [List.getElem?_set_ne (by omega)]
  exact j4
 ·unfold updQ partR
  by_cases e : i' = i ∧ j' = j
  ·rw [if_pos e, if_pos (by omega), e.1, e.2]
  ·rw [if_neg e]
   by_cases e2 : i' < i ∨ i' = i ∧ j' < j
   ·rw [if_pos e2, if_pos (by omega)]
   ·rw [if_neg e2, if_neg (by omega)]
end Go.Proofs.Ytokckcnfojjpjaa

set_option linter.unusedVariables false
set_option linter.unusedSimpArgs false
namespace Go.Proofs.Ytokckcnfojjpjaa
open Go.RowKit
set_option maxRecDepth 20000
structure MtP (K o : Nat) (bx : Nat → Nat) (ds : Nat → List C) (H : Hp) (r m w : Nat) (P : Nat → Nat → Prop) (M : Mx) : Prop where
 T : H[o]? = some (.live ⟨(List.range r).map (rowQ bx (fun _ => some w) w) ++ List.replicate (m - r) .nilSl, qI, .rw⟩)
 le : r ≤ m
 ne : ∀ i, i < r → bx i ≠ o
 row : ∀ i, i < r → H[bx i]? = some (.live ⟨ds i, xD, .rw⟩)
 len : ∀ i, i < r → (ds i).length = w * 6
 at_ : ∀ i j, i < r → j < w → P i j → IQ K (((ds i).drop (j * 6)).take 6) (M i j)
 inj : ∀ i k, i < r → k < r → bx i = bx k → i = k
section
variable {K o : Nat} {bx : Nat → Nat} {ds : Nat → List C} {H : Hp} {r m w : Nat} {P : Nat → Nat → Prop} {M : Mx}
theorem MtP.start (h : H[o]? = some (.live ⟨List.replicate m .nilSl, qI, .rw⟩)) : MtP K o bx ds H 0 m w P M :=
 ⟨by simpa using h, by omega, fun i h => by omega, fun i h => by omega, fun i h => by omega, fun i j h => by omega, fun i k h => by omega⟩
theorem MtP.grow {X : Hp} (h : MtP K o bx ds H r m w P M) : MtP K o bx ds (H ++ X) r m w P M :=
 ⟨by rw [List.getElem?_append_left (lt_of_getElem? h.T)]; exact h.T, h.le, h.ne, fun i hi => by rw [List.getElem?_append_left (lt_of_getElem? (h.row i hi))]; exact h.row i hi, h.len, h.at_, h.inj⟩
theorem MtP.weak {Q : Nat → Nat → Prop} (h : MtP K o bx ds H r m w P M) (hq : ∀ i j, i < r → j < w → Q i j → P i j) : MtP K o bx ds H r m w Q M :=
 ⟨h.T, h.le, h.ne, h.row, h.len, fun i j hi hj q => h.at_ i j hi hj (hq i j hi hj q), h.inj⟩
theorem MtP.other {p : Nat} {s : Slot} (h : MtP K o bx ds H r m w P M) (hp : p ≠ o) (hb : ∀ i, i < r → p ≠ bx i) : MtP K o bx ds (H.set p s) r m w P M :=
 ⟨by rw [List.getElem?_set_ne hp]; exact h.T, h.le, h.ne, fun i hi => by rw [List.getElem?_set_ne (hb i hi)]; exact h.row i hi, h.len, h.at_, h.inj⟩
theorem splice_at {cells : List C} {i : Nat} {c : C} (hi : i < cells.length) : splice cells i [c] = cells.set i c := by
 unfold splice
 rw [List.set_eq_take_append_cons_drop, if_pos hi]
 simp
theorem MtP.next {b : Nat} {cells : List C} (h : MtP K o bx ds H r m w P M) (hr : r < m) (hb : H[b]? = some (.live ⟨cells, xD, .rw⟩)) (hbn : ∀ i, i < r → bx i ≠ b) (hbo : b ≠ o) (hl : cells.length = w * 6) (hP : ∀ j, ¬ P r j) :
  MtP K o (fun i => if i = r then b else bx i) (fun i => if i = r then cells else ds i) (H.set o (.live ⟨splice ((List.range r).map (rowQ bx (fun _ => some w) w) ++ List.replicate (m - r) .nilSl) r [.sl b 0 w (some w) 6], qI, .rw⟩)) (r + 1) m w P M := by
 have hlt := lt_of_getElem? h.T
 refine ⟨?_, hr, fun i hi => ?_, fun i hi => ?_, fun i hi => ?_, fun i j hi hj p => ?_, fun i k hi hk he => ?_⟩
 ·rw [List.getElem?_set_self hlt]
  congr 3
  rw [splice_at (by simp; omega)]
  apply List.ext_getElem
  ·simp
   omega
  ·intro i h1 h2
   simp only [List.length_set, List.length_append, List.length_map, List.length_range, List.length_replicate] at h1
   rw [List.getElem_set]
   by_cases e : r = i
   ·subst e
    rw [if_pos rfl, List.getElem_append_left (by simp)]
    simp [rowQ]
   ·rw [if_neg e]
    by_cases e2 : i < r
    ·rw [List.getElem_append_left (by simpa using e2), List.getElem_append_left (by simp; omega)]
     simp [rowQ, Ne.symm e]
    ·rw [List.getElem_append_right (by simp; omega), List.getElem_append_right (by simp; omega)]
     simp
 ·by_cases e : i = r
  ·rw [if_pos e]; exact hbo
  ·rw [if_neg e]; exact h.ne i (by omega)
 ·by_cases e : i = r
  ·rw [if_pos e, if_pos e, List.getElem?_set_ne (Ne.symm hbo)]; exact hb
  ·rw [if_neg e, if_neg e, List.getElem?_set_ne (Ne.symm (h.ne i (by omega)))]; exact h.row i (by omega)
 ·by_cases e : i = r
  ·rw [if_pos e]; exact hl
  ·rw [if_neg e]; exact h.len i (by omega)
 ·by_cases e : i = r
  ·subst e; exact absurd p (hP j)
  ·rw [if_neg e]; exact h.at_ i j (by omega) hj p
 ·by_cases e : i = r <;> by_cases e2 : k = r
  ·omega
  ·rw [if_pos e, if_neg e2] at he
   exact absurd he.symm (hbn k (by omega))
  ·rw [if_neg e, if_pos e2] at he
   exact absurd he (hbn i (by omega))
  ·rw [if_neg e, if_neg e2] at he
   exact h.inj i k (by omega) (by omega) he
theorem MtP.put {i j : Nat} {cs : List C} (h : MtP K o bx ds H r m w P M) (hi : i < r) (hj : j < w) (hc : IQ K cs (M i j)) :
  MtP K o bx (fun i' => if i' = i then splice (ds i) (j * 6) cs else ds i') (H.set (bx i) (.live ⟨splice (ds i) (j * 6) cs, xD, .rw⟩)) r m w (fun i' j' => P i' j' ∨ (i' = i ∧ j' = j)) M := by
 have hlt := lt_of_getElem? (h.row i hi)
 have hcl : cs.length = 6 := (elQ K).len (show (elQ K).p cs (M i j) from hc)
 have hle : j * 6 + 6 ≤ (ds i).length := by
  rw [h.len i hi]
  omega
 refine ⟨?_, h.le, h.ne, fun i' hi' => ?_, fun i' hi' => ?_, fun i' j' hi' hj' p => ?_, h.inj⟩
 ·rw [List.getElem?_set_ne (h.ne i hi)]
  exact h.T
 ·by_cases e : i' = i
  ·subst e
   rw [List.getElem?_set_self hlt, if_pos rfl]
  ·rw [List.getElem?_set_ne (fun x => e (h.inj i' i hi' hi x.symm)), if_neg e]
   exact h.row i' hi'
 ·by_cases e : i' = i
  ·subst e
   rw [if_pos rfl, jB (by rw [hcl]; exact hle)]
   exact h.len i' hi'
  ·rw [if_neg e]
   exact h.len i' hi'
 ·by_cases e : i' = i
  ·subst e
   rw [if_pos rfl]
   by_cases e2 : j' = j
   ·subst e2
    rw [get_splice (by omega) hcl]
    exact hc
   ·rw [splice_otherQ hle hcl e2]
    exact h.at_ i' j' hi' hj' (p.resolve_right fun x => e2 x.2)
  ·rw [if_neg e]
   exact h.at_ i' j' hi' hj' (p.resolve_right fun x => e x.1)
theorem MtP.ldT {off i : Nat} {Q : V → Prop} (h : MtP K o bx ds H r m w P M) (hi : i < r) (ho : off = i) (k : Q (.c (.sl (bx i) 0 w (some w) 6))) : yW H[o]? false 1 off Q := by
 subst ho
 refine yN h.T ?_ k
 simp only
 rw [List.getElem?_append_left (by simpa using hi)]
 simp [hi, rowQ]
theorem MtP.st {off i j : Nat} {cs : List C} {ds' : Option (List C)} {Q : Nat → Slot → Prop} (h : MtP K o bx ds H r m w P M) (hi : i < r) (hj : j < w) (ho : off = j * 6) (hd : ds' = some cs) (hl : cs.length = 6) (k : Q (bx i) (.live ⟨splice (ds i) (j * 6) cs, xD, .rw⟩)) : xC H[bx i]? (bx i) 6 off ds' Q := by
 subst ho
 have hl2 := h.len i hi
 exact yS (h.row i hi) hd (by rw [hl]; rfl) (by omega) k
theorem MtP.full (h : MtP K o bx ds H m m w P M) (hp : ∀ i j, i < m → j < w → P i j) : Mt K o bx (fun _ => some w) ds H.length H m w M :=
 ⟨by simpa using h.T, lt_of_getElem? h.T, fun i hi => ⟨h.ne i hi, lt_of_getElem? (h.row i hi)⟩, h.row, h.len, fun i j hi hj => h.at_ i j hi hj (hp i j hi hj), h.inj⟩
end
theorem bS_sub {k m : Nat} {a b : Rat} (h1 : Bd k (rp a)) (h2 : Bd m (rp b)) : Bd (k + m + 1) (rp (a - b)) :=
 bd_divS (dd_ne a b) (rat_sub a b) ((h1.n.mulT h2.d).add2 ((h2.n.neg.mulT h1.d).up (show m + k ≤ k + m by omega)) (Nat.le_refl _)) ((h1.d.mulT h2.d).up (by omega))
theorem bS_mul {k m : Nat} {a b : Rat} (h1 : Bd k (rp a)) (h2 : Bd m (rp b)) : Bd (k + m) (rp (a * b)) :=
 bd_divS (dd_ne a b) (rat_mul a b) (h1.n.mulT h2.n) (h1.d.mulT h2.d)
theorem bS_div {k m : Nat} {a b : Rat} (h1 : Bd k (rp a)) (h2 : Bd m (rp b)) (h0 : b ≠ 0) : Bd (k + m) (rp (a / b)) :=
 bd_divS (Int.mul_ne_zero (Int.ne_of_gt (pO a)) (num_ne h0)) (rat_div a b h0) (h1.n.mulT h2.d) (h1.d.mulT h2.n)
def EB (k n : Nat) (M : Mx) : Prop := ∀ i j, i < n → j ≤ n → Bd k (rp (M i j))
theorem stage_EB {k n l : Nat} {M E : Mx} (h : EB k n M) (hs : stageV n l M = some E) : EB (4 * k + 1) n E := by
 obtain ⟨p, hp, rfl⟩ := stage_inv hs
 have hln : l < n := by have := hp.1; have := hp.2.1; omega
 have hsw : EB k n (pG M l p) := fun i j hi hj => by
  unfold pG
  split
  ·exact h p j hp.2.1 hj
  ·split
   ·exact h l j hln hj
   ·exact h i j hi hj
 have hpv : pG M l p l l ≠ 0 := by
  have : pG M l p l = M p := by unfold pG; rw [if_pos rfl]
  rw [this]
  exact hp.2.2.1
 intro i j hi hj
 unfold gX
 cases hd : dec (i = l ∨ pG M l p i l = 0 ∨ j < l)
 ·have := bS_sub (hsw i j hi hj) (bS_mul (bS_div (hsw i l hi (by omega)) (hsw l l hln (by omega)) hpv) (hsw l j hln hj))
  exact this.to (by omega)
 ·exact (hsw i j hi hj).to (by omega)
theorem gauss_EB {k n : Nat} {M : Mx} (h : EB k n M) : ∀ {l : Nat} {E : Mx}, tZ n M l = some E → EB (4 ^ l * (k + 1) - 1) n E
 | 0, E, hg => by
  cases hg
  exact fun i j hi hj => (h i j hi hj).to (by omega)
 | l + 1, E, hg => by
  simp only [tZ] at hg
  cases h1 : tZ n M l with
  | none => rw [h1] at hg; cases hg
  | some S =>
   rw [h1, Option.bind_some] at hg
   have h2 := stage_EB (gauss_EB h h1) hg
   intro i j hi hj
   have h3 : 1 ≤ 4 ^ l * (k + 1) := Nat.mul_pos (Nat.pow_pos (by decide)) (by omega)
   refine (h2 i j hi hj).to ?_
   rw [Nat.pow_succ, Nat.mul_comm (4 ^ l) 4, Nat.mul_assoc]
   omega
theorem gb_of {k n : Nat} {M : Mx} (h : EB k n M) (hn : n ≤ 3) (hk : 64 * (k + 1) ≤ 2097152) : GB 2097152 n M := fun l R hl hg i j hi hj => by
 have h1 : 4 ^ l ≤ 64 := by
  have : l ≤ 3 := by omega
  calc 4 ^ l ≤ 4 ^ 3 := Nat.pow_le_pow_right (by decide) this
   _ = 64 := rfl
 have h2 : 4 ^ l * (k + 1) ≤ 64 * (k + 1) := Nat.mul_le_mul_right _ h1
 exact (gauss_EB h hg i j hi hj).to (by omega)
def vX (n : Nat) : List Rat := List.replicate n 0
theorem cp_zeros (n : Nat) : CpL 0 (vX n) := ⟨1, by decide, by decide, fun q hq => by
 have := (List.mem_replicate.1 hq).2
 subst this
 exact Cap.zero⟩
theorem cp_unit (n k : Nat) : CpL 0 (qQ n k) := ⟨1, by decide, by decide, fun q hq => by
 unfold qQ at hq
 rcases List.mem_or_eq_of_mem_set hq with h | h
 ·have := (List.mem_replicate.1 h).2
  subst this
  exact Cap.zero
 ·subst h
  exact Cap.one⟩
theorem unit_len (n k : Nat) : (qQ n k).length = n := by simp [qQ]
end Go.Proofs.Ytokckcnfojjpjaa

set_option linter.unusedVariables false
set_option linter.unusedSimpArgs false
namespace Go.Proofs.Ytokckcnfojjpjaa
open Go.RowKit
set_option maxRecDepth 20000
section
variable {α : Type} {E : El α}
theorem app_xs {F R : Hp} {el : TypeId} {es bytes : Nat} {s x : Option V} {K : V → Hp → Prop} {c d : C} {xs : List C} {out l : List α} {H : Hp} (hH : H = F ++ R) (ho : Out E el F.length (F ++ R) c out) (hs : s = some (.c c)) (hx : x = some (.c d)) (hxs : sM (F ++ R) E.s d = some xs) (hm : slLen d = some l.length) (hxl : xs.length = l.length * E.s) (hxe : Els E xs l) (he : E.s = es) (hl : (out.length + l.length) * bytes ≤ 140737488355328 ∧ out.length + l.length ≤ 140737488355328)
  (k : ∀ R' c', Out E el F.length (F ++ R') c' (out ++ l) → K (.c c') (F ++ R')) : appX H el es bytes s x K := by
 subst hH hs hx he
 cases ho with
 | nil =>
  simp only [appX, hxs, hm]
  refine xG (by simp [hxl]) ?_
  rcases Nat.eq_zero_or_pos l.length with h0 | h0
  ·have : l = [] := List.eq_nil_of_length_eq_zero h0
   subst this
   exact jX rfl (k _ _ .nil)
  ·refine jH (by cases hL : l.length; omega; rfl) (xG (by simp only [List.length_nil, Nat.zero_add] at hl; simp only [Bool.and_eq_true, yH]; exact hl) ?_)
   have := k (R ++ [.live ⟨xs, el, .rw⟩]) (.sl (F ++ R).length 0 l.length none E.s) (.sl (cells := xs) (ds := xs) (by simp) (by rw [← List.append_assoc]; exact yJ _ _) rfl (by simp only [List.nil_append]; exact List.take_of_length_le (by omega)) hxe)
   rw [← List.append_assoc] at this
   exact this
 | @sl b n co' cells ds l' hm' hb hn hc h =>
  subst hn
  have hdl : (cells.take (out.length * E.s)).length = out.length * E.s := by rw [hc]; exact h.len
  have hle : out.length * E.s ≤ cells.length := by
   rw [List.length_take] at hdl
   omega
  have hlt := lt_of_getElem? hb
  refine app_sl (cs := cells) (xs := xs) (m := l.length) rfl rfl hxs hm hxl hb hle hl.1 hl.2 ?_
  have e : (F ++ R).set b .dead = F ++ R.set (b - F.length) .dead := List.set_append_right _ _ hm'
  have e' : (F ++ R).length = (F ++ R.set (b - F.length) .dead).length := by simp
  rw [e, e', List.append_assoc]
  refine k _ _ (.sl (cells := cells.take (out.length * E.s) ++ xs) (ds := ds ++ xs) (by simp) (by rw [← List.append_assoc]; exact yJ _ _) (by simp) ?_ (h.append hxe))
  rw [hc]
  exact List.take_of_length_le (by rw [List.length_append, List.length_append, h.len, hxl, Nat.add_mul]; exact Nat.le_refl _)
end
theorem Out.stS {k : Nat} {el : TypeId} {m b n i off : Nat} {co : Option Nat} {H : Hp} {l : List Rat} {a : Rat} {cs : List C} {ds' : Option (List C)} {Q : Nat → Slot → Prop} (h : Out (elQ k) el m H (.sl b 0 n co 6) l) (hi : i < l.length) (hoff : off = i * 6) (hd : ds' = some cs) (hc : IQ k cs a)
  (q : ∀ cells, m ≤ b → b < H.length → Out (elQ k) el m (H.set b (.live ⟨cells, el, .rw⟩)) (.sl b 0 n co 6) (l.set i a) → Q b (.live ⟨cells, el, .rw⟩)) : xC H[b]? b 6 off ds' Q := by
 subst hoff
 cases h with
 | @sl _ _ _ cells ds _ hm hb hn hcd hE =>
  have hcl : cs.length = 6 := (elQ k).len (show (elQ k).p cs a from hc)
  have hdl := hE.len
  have hle : l.length * 6 ≤ cells.length := by
   have := congrArg List.length hcd
   rw [List.length_take, hdl] at this
   have e6 : (elQ k).s = 6 := rfl
   rw [e6] at this
   omega
  have hlt := lt_of_getElem? hb
  refine yS hb hd (by rw [hcl]; rfl) (by omega) (q _ hm hlt ?_)
  refine .sl hm (List.getElem?_set_self hlt) (by simp [hn]) ?_ (hE.set hi hc)
  rw [List.length_set, ← hcd]
  have e6 : (elQ k).s = 6 := rfl
  rw [e6]
  have hi6 : i * 6 + 6 ≤ l.length * 6 := by omega
  unfold splice
  have e1 : (cells.take (i * 6) ++ cs).length = i * 6 + 6 := by simp; omega
  rw [List.take_append, List.take_of_length_le (by omega), e1, List.take_take, Nat.min_eq_left (by omega), List.drop_take, hcl]
theorem close_one {H : Hp} {b : Nat} {cells : List C} {el : TypeId} (hb : H[b]? = some (.live ⟨cells, el, .rw⟩)) : wH H [b] = H.set b (.live ⟨cells, el, .ro⟩) := by
 simp only [wH, hb]
theorem Out.closeOne {α : Type} {E : El α} {el : TypeId} {m b off n es : Nat} {co : Option Nat} {H : Hp} {l : List α} (h : Out E el m H (.sl b off n co es) l) : ∃ cells d, wH H [b] = H.set b (.live ⟨cells, el, .ro⟩) ∧ Fz (· = .ro) (wH H [b]) (.sl b off n co es) d ∧ Ls E d l := by
 cases h with
 | @sl _ _ _ cells ds _ hm hb hn hc h =>
  subst hn
  refine ⟨cells, _, close_one hb, .sl (bx := ⟨cells, el, .ro⟩) (by rw [close_one hb]; exact List.getElem?_set_self (lt_of_getElem? hb)) rfl (by simp) ?_, .imm h⟩
  simp only [List.drop_zero]
  rw [hc]
  exact .hf h.hf
structure HI (H : Hp) (s a t z : Slot) : Prop where
 s : H[0]? = some s
 a : H[1]? = some a
 t : H[2]? = some t
 z : H[3]? = some z
theorem HI.grow {H X : Hp} {s a t z : Slot} (h : HI H s a t z) : HI (H ++ X) s a t z :=
 ⟨by rw [List.getElem?_append_left (lt_of_getElem? h.s)]; exact h.s, by rw [List.getElem?_append_left (lt_of_getElem? h.a)]; exact h.a, by rw [List.getElem?_append_left (lt_of_getElem? h.t)]; exact h.t, by rw [List.getElem?_append_left (lt_of_getElem? h.z)]; exact h.z⟩
theorem HI.set {H : Hp} {s a t z : Slot} {p : Nat} {x : Slot} (h : HI H s a t z) (hp : 3 < p) : HI (H.set p x) s a t z :=
 ⟨by rw [List.getElem?_set_ne (by omega)]; exact h.s, by rw [List.getElem?_set_ne (by omega)]; exact h.a, by rw [List.getElem?_set_ne (by omega)]; exact h.t, by rw [List.getElem?_set_ne (by omega)]; exact h.z⟩
theorem imp_last {f : List Pl} {x : List Rat} {a t : Rat} {i : Nat} (hi : i < x.length) (hb : (xI f (vX x.length) t).length = x.length) : impM f x a t i x.length = x[i] + a * (xI f (vX x.length) t)[i]'(by omega) := by
 unfold impM
 rw [if_neg (by omega)]
 have e1 : x.getD i 0 = x[i] := by simp [List.getD, hi]
 have e2 : (xI f (List.replicate x.length 0) t).getD i 0 = (xI f (vX x.length) t)[i]'(by omega) := by
  show (xI f (vX x.length) t).getD i 0 = _
  simp [List.getD, show i < (xI f (vX x.length) t).length by omega]
 rw [e1, e2]
theorem imp_col {f : List Pl} {x : List Rat} {a t : Rat} {i k : Nat} (hi : i < x.length) (hk : k < x.length) (hb : (xI f (vX x.length) t).length = x.length) (hc : (xI f (qQ x.length k) t).length = x.length) :
  impM f x a t i k = if i = k then -(a * ((xI f (qQ x.length k) t)[i]'(by omega) - (xI f (vX x.length) t)[i]'(by omega))) + 1 else -(a * ((xI f (qQ x.length k) t)[i]'(by omega) - (xI f (vX x.length) t)[i]'(by omega))) := by
 unfold impM
 rw [if_pos hk]
 have e1 : (xI f (qQ x.length k) t).getD i 0 = (xI f (qQ x.length k) t)[i]'(by omega) := by simp [List.getD, show i < (xI f (qQ x.length k) t).length by omega]
 have e2 : (xI f (List.replicate x.length 0) t).getD i 0 = (xI f (vX x.length) t)[i]'(by omega) := by
  show (xI f (vX x.length) t).getD i 0 = _
  simp [List.getD, show i < (xI f (vX x.length) t).length by omega]
 rw [e1, e2]
theorem cp_mem {n : Nat} {l : List Rat} {q : Rat} (h : CpL n l) (hq : q ∈ l) : CpL n [q] := h.sub (fun r hr => by simp at hr; subst hr; exact hq)
theorem cp_bd {n k : Nat} {q : Rat} (h : CpL n [q]) (hk : n + n < 32 * k) : Bd k (rp q) := h.bd hk (by simp)
theorem imp_bd {f : List Pl} {x : List Rat} {a t : Rat} (hf : SysOk (x.length + 1) f) (hl : f.length = x.length) (bx : CpL 10500 x) (bA : CpL 46 [a]) (bT : CpL 140 [t]) : EB 2400 x.length (impM f x a t) := by
 intro i j hi hj
 have hb : (xI f (vX x.length) t).length = x.length := by rw [vV, hl]
 have cb : CpL 9000 (xI f (vX x.length) t) := (tK (sE hf (show _ = (vX x.length).length + 1 by simp [vX])) (cp_zeros _) bT).mono (by decide)
 rcases Nat.lt_or_ge j x.length with h | h
 ·have hc : (xI f (qQ x.length j) t).length = x.length := by rw [vV, hl]
  have cc : CpL 9000 (xI f (qQ x.length j) t) := (tK (sE hf (show _ = (qQ x.length j).length + 1 by rw [unit_len])) (cp_unit _ _) bT).mono (by decide)
  rw [imp_col hi h hb hc]
  have c1 := cp_neg (pE bA (cp_sub (cp_mem cc (List.getElem_mem (show i < _ by omega))) (cp_mem cb (List.getElem_mem (show i < _ by omega)))))
  split
  ·exact cp_bd (bC c1 (pQ (z := 1) (n := 1) (by decide))) (by decide)
  ·exact cp_bd c1 (by decide)
 ·have : j = x.length := by omega
  subst this
  rw [imp_last hi hb]
  exact cp_bd (bC (cp_mem bx (List.getElem_mem hi)) (pE bA (cp_mem cb (List.getElem_mem (show i < _ by omega))))) (by decide)
attribute [local irreducible] yA semH semC qLen qNil qIad qSlc qIdx yW yM xC appX appI slcX awpF yO xJ xopF xR qval lval seqQ xN wJ wI xW cnd arith IntKind.wrap
theorem slices_CloneB {k b n : Nat} {co : Option Nat} {kd : BK} {cells : List C} {l : List Rat} {H : Hp} {K : V → Hp → Prop} (hb : H[b]? = some (.live ⟨cells, xD, kd⟩)) (hE : Els (elQ k) cells l) (hn : n = l.length) (hl : l.length < 1048576) (h : ∀ R' c', Out (elQ k) xD H.length (H ++ R') c' l → K (.c c') (H ++ R')) : semH Try.prog n_slices_Clone_sl_num_Q_num_Q [.c (.sl b 0 n co 6)] H K := by
 refine qM ok_slices_Clone_sl_num_Q_num_Q rfl ?_
 have hlen := hE.len
 refine go2 ?_
 refine app_xs (F := H) (R := [.live ⟨[], xD, .rw⟩]) (c := .sl H.length 0 0 (some 0) 6) (out := []) (E := elQ k) (xs := cells) rfl (.sl (cells := []) (ds := []) (Nat.le_refl _) (yJ _ _) rfl rfl .nil) (by rfl) (by rfl) ?_ (by rw [hn]; rfl) hlen hE rfl (by simp; omega) (fun R' c' q => ?_)
 ·simp only [sM]
  rw [List.getElem?_append_left (lt_of_getElem? hb), hb]
  simp only [List.drop_zero]
  rw [List.take_of_length_le (by rw [hlen, hn]; exact Nat.le_refl _)]
 ·refine go2 ?_
  exact h R' c' q
theorem jL {cf cx : C} {ch ca ct : List C} {f : List Pl} {x : List Rat} {h a t : Rat} (hc : Ls elM cf f) (hf : SysOk (x.length + 1) f) (hl : f.length = x.length) (hh : IQ 4194304 ch h) (hx : Ls (elQ 4194304) cx x) (ha : IQ 4194304 ca a) (ht : IQ 4194304 ct t) (bx : CpL 10500 x) (bA : CpL 46 [a]) (bT : CpL 140 [t]) :
  semC Try.prog n_step_system_implicit [.agg (cf :: ch), .c cx, .agg ca, .agg ct] (OneK (pK f x a t)) := by
 refine yD ok_step_system_implicit rfl (show HFVs [.agg (cf :: ch), .c cx, .agg ca, .agg ct] from ⟨⟨hc.hf, hh.hf⟩, hx.hf, ha.hf, ht.hf, trivial⟩) ?_
 have h3 : x.length ≤ 3 := by rw [← hl]; exact hf.len
 obtain ⟨a0, a1, a2, a3, a4, a5, rfl⟩ := id hh.six
 obtain ⟨b0, b1, b2, b3, b4, b5, rfl⟩ := id ha.six
 obtain ⟨d0, d1, d2, d3, d4, d5, rfl⟩ := id ht.six
 have hzl : (vX x.length).length = x.length := by simp [vX]
 refine go13 ?_
 refine vO (by rfl) (by rfl) ⟨by omega, by omega, by omega, by omega⟩ ?_
 refine go13 ?_
 simp only [sH, sA, ratC, sQ, sP, List.set_cons_zero, List.set_cons_succ, List.nil_append, List.cons_append, List.append_nil, List.replicate_succ, List.replicate_zero, List.length_cons, List.length_nil, splice, List.take_succ_cons, List.take_zero, List.drop_succ_cons, List.drop_zero, List.take_nil, List.drop_nil, Nat.zero_add, Nat.reduceAdd, Nat.reduceMul, Int.reduceToNat, wH, List.getElem?_cons_succ, List.getElem?_cons_zero]
 refine yT (fun w vs H => ∃ (i : Nat) (cells : List C), vs = [.c cx, .c (.ptr 0 0), .c (.ptr 1 0), .c (.ptr 2 0), i64 x.length, .c (.sl 3 0 x.length (some x.length) 6), i64 x.length, i64 i] ∧ H = [.live ⟨[cf, a0, a1, a2, a3, a4, a5], vN, .rw⟩, .live ⟨[b0, b1, b2, b3, b4, b5], xD, .rw⟩, .live ⟨[d0, d1, d2, d3, d4, d5], xD, .rw⟩, .live ⟨cells, xD, .rw⟩] ∧ w = x.length - i ∧ i ≤ x.length ∧ Fill (elQ 4194304) zeroQ x.length cells ((vX x.length).take i)) (by rfl) ⟨0, _, rfl, rfl, rfl, by omega, .zero rfl⟩ ?_
 rintro w vs H ⟨i, cells, rfl, rfl, rfl, i1, i2⟩
 have hcl : cells.length = x.length * 6 := i2.len
 have htl : ((vX x.length).take i).length = i := by rw [List.length_take, hzl]; omega
 refine go13 ?_
 cases hi : yA Cm.lss (i : Int) (x.length : Int)
 case true =>
  simp [yA] at hi
  refine go13 ?_
  first | refine yE (qC (g := 0) (by decide)) (fun u hu => ?_) | refine yB (qC (g := 0) (by decide)) (fun u hu => ?_)
  obtain ⟨es, rfl, g0⟩ := hu
  have g0 : IQ 4194304 es 0 := g0.up (by decide)
  obtain ⟨_, _, _, _, _, _, rfl⟩ := id g0.six
  refine go13 ?_
  rw [xO i (by omega)]
  have h4 := i2.put (cs := _) (a := (0 : Rat)) (by rw [htl]; exact hi) g0
  rw [htl] at h4
  refine l_n (by rfl) (n' := x.length - (i + 1)) (by omega) ⟨i + 1, _, rfl, by rw [Nat.zero_add, Int.toNat_natCast]; rfl, rfl, by omega, ?_⟩
  rw [wM (by rw [hzl]; exact hi), show (vX x.length)[i]'(by omega) = 0 by simp [vX]]
  exact h4
 simp [yA] at hi
 have ei : i = x.length := by omega
 subst ei
 rw [uE (by omega)] at i2
 have hz := i2.done hzl
 have lz : Ls (elQ 4194304) (.imm x.length cells) (vX x.length) := by
  have := Ls.imm hz
  rwa [hzl] at this
 clear i1 i2 htl
 refine go13 ?_
 refine yU [3] (.cons (.agg (.hf ⟨hc.hf, hh.hf⟩)) (.cons (.c (.sl (bx := ⟨cells, xD, .ro⟩) (ds := cells) (by rfl) rfl (by simp) ?_)) (.cons (.agg (.hf ht.hf)) .nil))) (step_rate hc (sE hf (show _ = (vX x.length).length + 1 by rw [hzl])) hh lz ht (by omega) ((cp_zeros _).append bT) (by decide)) (fun u hu => ?_)
 ·simp only [List.drop_zero]
  rw [List.take_of_length_le (by omega)]
  exact .hf hz.hf
 obtain ⟨cb, rfl, lb⟩ := hu
 have lb : Ls (elQ 4194304) cb (xI f (vX x.length) t) := lb
 have hbl : (xI f (vX x.length) t).length = x.length := by rw [vV, hl]
 refine go13 ?_
 simp only [sH, sA, ratC, sQ, sP, List.set_cons_zero, List.set_cons_succ, List.nil_append, List.cons_append, List.append_nil, List.replicate_succ, List.replicate_zero, List.length_cons, List.length_nil, splice, List.take_succ_cons, List.take_zero, List.drop_succ_cons, List.drop_zero, List.take_nil, List.drop_nil, Nat.zero_add, Nat.reduceAdd, Nat.reduceMul, Int.reduceToNat, wH, List.getElem?_cons_succ, List.getElem?_cons_zero]
 refine vO (by rfl) (by rfl) ⟨by omega, by omega, by omega, by omega⟩ ?_
 refine go13 ?_
 simp only [sH, sA, ratC, sQ, sP, List.set_cons_zero, List.set_cons_succ, List.nil_append, List.cons_append, List.append_nil, List.replicate_succ, List.replicate_zero, List.length_cons, List.length_nil, splice, List.take_succ_cons, List.take_zero, List.drop_succ_cons, List.drop_zero, List.take_nil, List.drop_nil, Nat.zero_add, Nat.reduceAdd, Nat.reduceMul, Int.reduceToNat, wH, List.getElem?_cons_succ, List.getElem?_cons_zero]
 have hEB := imp_bd hf hl bx bA bT
 have cbB : ∀ i (h : i < x.length), CpL 9000 [(xI f (vX x.length) t)[i]'(by omega)] := fun i h => cp_mem ((tK (sE hf (show _ = (vX x.length).length + 1 by rw [hzl])) (cp_zeros _) bT).mono (by decide)) (List.getElem_mem (by omega))
 obtain ⟨M, hM⟩ : ∃ M, M = impM f x a t := ⟨_, rfl⟩
 rw [← hM] at hEB
 have h7 : (List.replicate ((x.length : Int).toNat) [C.nilSl]).flatten = List.replicate x.length C.nilSl := by
  rw [Int.toNat_natCast]
  induction x.length with
  | zero => rfl
  | succ n ih => rw [List.replicate_succ, List.flatten_cons, ih]; rfl
 rw [h7]
 refine yT (fun w vs H => ∃ (i : Nat) (bx : Nat → Nat) (ds : Nat → List C), vs = [.c cx, .c (.ptr 0 0), .c (.ptr 1 0), .c (.ptr 2 0), i64 x.length, .c (.sl 3 0 x.length (some x.length) 6), .c cb, .c (.sl 4 0 x.length (some x.length) 1), i64 x.length, i64 i] ∧ w = x.length - i ∧ i ≤ x.length ∧ HI H (.live ⟨[cf, a0, a1, a2, a3, a4, a5], vN, .rw⟩) (.live ⟨[b0, b1, b2, b3, b4, b5], xD, .rw⟩) (.live ⟨[d0, d1, d2, d3, d4, d5], xD, .rw⟩) (.live ⟨cells, xD, .ro⟩) ∧ (∀ l, l < i → 4 < bx l) ∧ MtP 2097152 4 bx ds H i x.length (x.length + 1) (fun i' j' => i' < i ∧ j' = x.length) M) (by rfl) ⟨0, fun _ => 0, fun _ => [], rfl, rfl, by omega, ⟨rfl, rfl, rfl, rfl⟩, fun l h => by omega, .start rfl⟩ ?_
 rintro w vs H ⟨i, bx', ds, rfl, rfl, i1, hI, i2, hP⟩
 refine go13 ?_
 cases hi : yA Cm.lss (i : Int) (x.length : Int)
 case true =>
  simp [yA] at hi
  have hpl := lt_of_getElem? hP.T
  refine go13 ?_
  rw [xO x.length (by omega)]
  refine vO (by rfl) (by rfl) ⟨by omega, by omega, by omega, by omega⟩ ?_
  refine go13 ?_
  have hG := hP.grow (X := [.live ⟨(List.replicate ((x.length + 1 : Nat) : Int).toNat zeroQ).flatten, xD, .rw⟩])
  refine yS hG.T (by rfl) (by rfl) (by simp; omega) ?_
  have hN := hG.next (b := H.length) hi (yJ _ _) (fun l hl => by have := lt_of_getElem? (hP.row l hl); omega) (by omega) (by simp [zeroQ]) (fun j h => by omega)
  have hIN := (hI.grow (X := [.live ⟨(List.replicate ((x.length + 1 : Nat) : Int).toNat zeroQ).flatten, xD, .rw⟩])).set (p := 4) (x := .live ⟨splice ((List.range i).map (rowQ bx' (fun _ => some (x.length + 1)) (x.length + 1)) ++ List.replicate (x.length - i) .nilSl) i [.sl H.length 0 (x.length + 1) (some (x.length + 1)) 6], qI, .rw⟩) (by omega)
  rw [show 0 + (i : Int).toNat * 1 = i by omega]
  have hge : ∀ l, l < i + 1 → 4 < (fun l => if l = i then H.length else bx' l) l := fun l hl => by
   simp only
   split
   ·omega
   ·exact i2 l (by omega)
  generalize (fun l => if l = i then H.length else bx' l) = bx2 at hN hge
  generalize (fun l => if l = i then (List.replicate ((x.length + 1 : Nat) : Int).toNat zeroQ).flatten else ds l) = ds2 at hN
  refine go13 ?_
  refine hN.ldT (i := i) (by omega) (by omega) ?_
  refine go13 ?_
  refine qE hx (i := i) hi (by omega) rfl (fun e1 he1 => ?_)
  refine go13 ?_
  refine yI hIN.a (by rfl) ?_
  refine go13 ?_
  refine qE lb (i := i) (by omega) (by omega) rfl (fun e2 he2 => ?_)
  refine go13 ?_
  first | refine yE (uH ha he2 (by decide)) (fun u hu => ?_) | refine yB (uH ha he2 (by decide)) (fun u hu => ?_)
  obtain ⟨e3, rfl, he3⟩ := hu
  refine go13 ?_
  first | refine yE (tM he1 he3 (by decide)) (fun u hu => ?_) | refine yB (tM he1 he3 (by decide)) (fun u hu => ?_)
  obtain ⟨e4, rfl, he4⟩ := hu
  have hval : x[i] + a * (xI f (vX x.length) t)[i]'(by omega) = M i x.length := by rw [hM]; exact (imp_last hi hbl).symm
  rw [hval] at he4
  have he4 := he4.tightS ((hEB i x.length hi (Nat.le_refl _)).to (show 2400 ≤ 2097152 by decide))
  obtain ⟨_, _, _, _, _, _, rfl⟩ := id he4.six
  refine go13 ?_
  refine hN.st (i := i) (j := x.length) (by omega) (by omega) (by omega) (by rfl) (by rfl) ?_
  have hP2 := hN.put (i := i) (j := x.length) (by omega) (by omega) he4
  have hb4 := hge i (by omega)
  refine go13 ?_
  rw [xO i (by omega)]
  exact l_n (by rfl) (n' := x.length - (i + 1)) (by omega) ⟨i + 1, bx2, _, rfl, rfl, by omega, hIN.set (by omega), hge, hP2.weak (fun i' j' h1 h2 h3 => by
   rcases Nat.lt_or_ge i' i with h | h
   ·exact .inl ⟨h, h3.2⟩
   ·exact .inr ⟨by omega, h3.2⟩)⟩
 simp [yA] at hi
 have ei : i = x.length := by omega
 subst ei
 refine go13 ?_
 refine yT (fun w vs H => ∃ (k : Nat) (bx : Nat → Nat) (ds : Nat → List C), vs = [.c (.ptr 0 0), .c (.ptr 1 0), .c (.ptr 2 0), i64 x.length, .c (.sl 3 0 x.length (some x.length) 6), .c cb, .c (.sl 4 0 x.length (some x.length) 1), i64 x.length, i64 k] ∧ w = x.length - k ∧ k ≤ x.length ∧ HI H (.live ⟨[cf, a0, a1, a2, a3, a4, a5], vN, .rw⟩) (.live ⟨[b0, b1, b2, b3, b4, b5], xD, .rw⟩) (.live ⟨[d0, d1, d2, d3, d4, d5], xD, .rw⟩) (.live ⟨cells, xD, .ro⟩) ∧ (∀ l, l < x.length → 4 < bx l) ∧ MtP 2097152 4 bx ds H x.length x.length (x.length + 1) (fun i' j' => j' = x.length ∨ j' < k) M) (by rfl) ⟨0, bx', ds, rfl, rfl, by omega, hI, i2, hP.weak (fun i' j' h1 h2 h3 => ⟨h1, by omega⟩)⟩ ?_
 clear hP i2 hI i1 bx' ds
 rintro w vs H ⟨k, bx', ds, rfl, rfl, k1, hI, k2, hP⟩
 refine go13 ?_
 cases hk : yA Cm.lss (k : Int) (x.length : Int)
 case false =>
  simp [yA] at hk
  have ek : k = x.length := by omega
  subst ek
  have hF := hP.full (fun i' j' h1 h2 => by omega)
  refine go13 ?_
  refine step_gauss hF (by omega) (gb_of hEB h3 (by decide)) (fun v H' hg => ?_)
  rcases hg with ⟨hs, rfl⟩ | ⟨y, b, yc, hs, rfl, hb, hE⟩
  ·refine go13 ?_
   exact ⟨_, .tup (.cons (.c (.hf trivial)) (.cons (.c (.hf trivial)) .nil)), .inr ⟨by unfold pK; rw [← hM]; exact hs, rfl⟩⟩
  ·have hyl : y.length = x.length := by
    unfold bB at hs
    cases hg2 : tZ x.length M x.length with
    | none => rw [hg2] at hs; cases hs
    | some R =>
     rw [hg2] at hs
     simp at hs
     subst hs
     simp
   have hlen := hE.len
   have ly := Ls.imm hE
   rw [hyl] at ly
   refine go13 ?_
   exact ⟨_, .tup (.cons (.c (fz_sl (bx := ⟨yc, xD, .rw⟩) (ds := yc) hb (by simp) (by simp) (by rw [List.drop_zero, List.take_of_length_le (by simp only; rw [hlen, hyl]; exact Nat.le_refl _)]) hE.hf)) (.cons (.c (.hf trivial)) .nil)), .inl ⟨y, _, by unfold pK; rw [← hM]; exact hs, rfl, ly⟩⟩
 simp [yA] at hk
 have hpl := lt_of_getElem? hP.T
 refine go13 ?_
 refine slices_CloneB hI.z hz hzl.symm (by omega) (fun R c q => ?_)
 obtain ⟨b, co, rfl⟩ := q.isSl (by omega)
 rw [hzl] at q ⊢
 refine go13 ?_
 first | refine yE (qC (g := 1) (by decide)) (fun u hu => ?_) | refine yB (qC (g := 1) (by decide)) (fun u hu => ?_)
 obtain ⟨e1, rfl, g1⟩ := hu
 have g1 : IQ 4194304 e1 1 := g1.up (by decide)
 obtain ⟨_, _, _, _, _, _, rfl⟩ := id g1.six
 refine go13 ?_
 refine q.stS (i := k) (by omega) (by omega) (by rfl) g1 (fun cl q1 q2 q3 => ?_)
 refine go13 ?_
 have hI1 := (hI.grow (X := R)).set (p := b) (x := .live ⟨cl, xD, .rw⟩) (by omega)
 refine yI hI1.s (by rfl) ?_
 refine go13 ?_
 refine yI hI1.t (by rfl) ?_
 refine go13 ?_
 obtain ⟨cl2, dd, w1, w2, w3⟩ := q3.closeOne
 have w3 : Ls (elQ 4194304) dd (qQ x.length k) := w3
 have ccp : CpL 9000 (xI f (qQ x.length k) t) := (tK (sE hf (show _ = (qQ x.length k).length + 1 by rw [unit_len])) (cp_unit _ _) bT).mono (by decide)
 refine yU [b] (.cons (.agg (.hf ⟨hc.hf, hh.hf⟩)) (.cons (.c w2) (.cons (.agg (.hf ht.hf)) .nil))) (step_rate hc (sE hf (show _ = (qQ x.length k).length + 1 by rw [unit_len])) hh w3 ht (by rw [unit_len]; omega) ((cp_unit _ _).append bT) (by decide)) (fun u hu => ?_)
 obtain ⟨cc, rfl, lc⟩ := hu
 have lc : Ls (elQ 4194304) cc (xI f (qQ x.length k) t) := lc
 have hcl2 : (xI f (qQ x.length k) t).length = x.length := by rw [vV, hl]
 rw [w1, List.set_set]
 have hI2 := (hI.grow (X := R)).set (p := b) (x := .live ⟨cl2, xD, .ro⟩) (by omega)
 have hP2 := (hP.grow (X := R)).other (p := b) (s := .live ⟨cl2, xD, .ro⟩) (by omega) (fun l hl => by have := lt_of_getElem? (hP.row l hl); omega)
 refine go13 ?_
 refine yT (fun w vs H => ∃ (i : Nat) (bx : Nat → Nat) (ds : Nat → List C), vs = [.c (.ptr 0 0), .c (.ptr 1 0), .c (.ptr 2 0), i64 x.length, .c (.sl 3 0 x.length (some x.length) 6), .c cb, .c (.sl 4 0 x.length (some x.length) 1), i64 k, .c cc, i64 x.length, i64 k, i64 x.length, i64 i] ∧ w = x.length - i ∧ i ≤ x.length ∧ HI H (.live ⟨[cf, a0, a1, a2, a3, a4, a5], vN, .rw⟩) (.live ⟨[b0, b1, b2, b3, b4, b5], xD, .rw⟩) (.live ⟨[d0, d1, d2, d3, d4, d5], xD, .rw⟩) (.live ⟨cells, xD, .ro⟩) ∧ (∀ l, l < x.length → 4 < bx l) ∧ MtP 2097152 4 bx ds H x.length x.length (x.length + 1) (fun i' j' => j' = x.length ∨ j' < k ∨ (j' = k ∧ i' < i)) M) (by rfl) ⟨0, bx', ds, rfl, rfl, by omega, hI2, k2, hP2.weak (fun i' j' h1 h2 h3 => by omega)⟩ ?_
 clear hP2 hI2 hI1 hP hI k2 bx' ds q q1 q2 q3 w1 w2 hpl
 rintro w vs H ⟨i, bx', ds, rfl, rfl, i1, hI, i2, hP⟩
 refine go13 ?_
 cases hi : yA Cm.lss (i : Int) (x.length : Int)
 case false =>
  simp [yA] at hi
  refine go13 ?_
  rw [xO k (by omega)]
  exact l_n (by rfl) (n' := x.length - (k + 1)) (by omega) ⟨k + 1, bx', ds, rfl, rfl, by omega, hI, i2, hP.weak (fun i' j' h1 h2 h3 => by omega)⟩
 simp [yA] at hi
 have hpl := lt_of_getElem? hP.T
 have hIg := hI.grow (X := List.replicate (0 + 1) .unb)
 refine go13 ?_
 refine yI hIg.a (by rfl) ?_
 refine go13 ?_
 refine qE lc (i := i) (by omega) (by omega) rfl (fun e1 he1 => ?_)
 refine go13 ?_
 refine qE lb (i := i) (by omega) (by omega) rfl (fun e2 he2 => ?_)
 refine go13 ?_
 refine pS (T := some H.length) (by rfl) (logOk_low (n := H.length) ⟨trivial, trivial, trivial, trivial, trivial, trivial, trivial, trivial, show 1 < H.length by omega, trivial⟩) ?_
 refine bH ?_
 refine go13 ?_
 first | refine yE (q_Sub2 he1 he2 (by decide)) (fun u hu => ?_) | refine yB (q_Sub2 he1 he2 (by decide)) (fun u hu => ?_)
 obtain ⟨e3, rfl, he3⟩ := hu
 refine go13 ?_
 first | refine yE (uH ha he3 (by decide)) (fun u hu => ?_) | refine yB (uH ha he3 (by decide)) (fun u hu => ?_)
 obtain ⟨e4, rfl, he4⟩ := hu
 refine go13 ?_
 first | refine yE (q_Neg he4 (by decide)) (fun u hu => ?_) | refine yB (q_Neg he4 (by decide)) (fun u hu => ?_)
 obtain ⟨e5, rfl, he5⟩ := hu
 obtain ⟨u0, u1, u2, u3, u4, u5, rfl⟩ := id he5.six
 have hbd := (hEB i k hi (by omega)).to (show 2400 ≤ 2097152 by decide)
 have hcol := imp_col (a := a) (t := t) hi hk hbl hcl2
 rw [← hM] at hcol
 refine go13 ?_
 simp only [sH, sA, ratC, sQ, sP, List.set_cons_zero, List.set_cons_succ, List.nil_append, List.cons_append, List.append_nil, List.replicate_succ, List.replicate_zero, List.length_cons, List.length_nil, splice, List.take_succ_cons, List.take_zero, List.drop_succ_cons, List.drop_zero, List.take_nil, List.drop_nil, Nat.zero_add, Nat.reduceAdd, Nat.reduceMul, Int.reduceToNat, wH, List.getElem?_cons_succ, List.getElem?_cons_zero]
 cases hik : yA Cm.eql (i : Int) (k : Int)
 case true =>
  simp [yA] at hik
  have hik : i = k := by omega
  rw [if_pos hik] at hcol
  refine go13 ?_
  first | refine yE (qC (g := 1) (by decide)) (fun u hu => ?_) | refine yB (qC (g := 1) (by decide)) (fun u hu => ?_)
  obtain ⟨e6, rfl, he6⟩ := hu
  refine go13 ?_
  first | refine yE (tM he5 he6 (by decide)) (fun u hu => ?_) | refine yB (tM he5 he6 (by decide)) (fun u hu => ?_)
  obtain ⟨e7, rfl, he7⟩ := hu
  have hv : -(a * ((xI f (qQ x.length k) t)[i]'(by omega) - (xI f (vX x.length) t)[i]'(by omega))) + ((1 : Int) : Rat) = M i k := by rw [hcol]; rfl
  rw [hv] at he7
  have he7 := he7.tightS hbd
  obtain ⟨v0, v1, v2, v3, v4, v5, rfl⟩ := id he7.six
  refine go13 ?_
  simp only [sH, sA, ratC, sQ, sP, List.set_cons_zero, List.set_cons_succ, List.nil_append, List.cons_append, List.append_nil, List.replicate_succ, List.replicate_zero, List.length_cons, List.length_nil, splice, List.take_succ_cons, List.take_zero, List.drop_succ_cons, List.drop_zero, List.take_nil, List.drop_nil, Nat.zero_add, Nat.reduceAdd, Nat.reduceMul, Int.reduceToNat, wH, List.getElem?_cons_succ, List.getElem?_cons_zero]
  have hPg := hP.grow (X := [.live ⟨[v0, v1, v2, v3, v4, v5], xD, .rw⟩])
  have hIg2 := hI.grow (X := [.live ⟨[v0, v1, v2, v3, v4, v5], xD, .rw⟩])
  refine hPg.ldT (i := i) hi (by omega) ?_
  refine go13 ?_
  refine hPg.st (i := i) (j := k) hi (by omega) (by omega) (by rfl) (by rfl) ?_
  have hP3 := hPg.put (i := i) (j := k) hi (by omega) he7
  have hb4 := i2 i hi
  refine go13 ?_
  rw [xO i (by omega)]
  exact l_n (by rfl) (n' := x.length - (i + 1)) (by omega) ⟨i + 1, bx', _, rfl, rfl, by omega, hIg2.set (by omega), i2, hP3.weak (fun i' j' h1 h2 h3 => by omega)⟩
 simp [yA] at hik
 have hik : i ≠ k := by omega
 rw [if_neg hik] at hcol
 rw [← hcol] at he5
 have he7 := he5.tightS hbd
 obtain ⟨v0, v1, v2, v3, v4, v5, hvv⟩ : ∃ v0 v1 v2 v3 v4 v5, [u0, u1, u2, u3, u4, u5] = [v0, v1, v2, v3, v4, v5] := ⟨_, _, _, _, _, _, rfl⟩
 rw [hvv] at he7 ⊢
 refine go13 ?_
 have hPg := hP.grow (X := [.live ⟨[v0, v1, v2, v3, v4, v5], xD, .rw⟩])
 have hIg2 := hI.grow (X := [.live ⟨[v0, v1, v2, v3, v4, v5], xD, .rw⟩])
 refine hPg.ldT (i := i) hi (by omega) ?_
 refine go13 ?_
 refine hPg.st (i := i) (j := k) hi (by omega) (by omega) (by rfl) (by rfl) ?_
 have hP3 := hPg.put (i := i) (j := k) hi (by omega) he7
 have hb4 := i2 i hi
 refine go13 ?_
 rw [xO i (by omega)]
 exact l_n (by rfl) (n' := x.length - (i + 1)) (by omega) ⟨i + 1, bx', _, rfl, rfl, by omega, hIg2.set (by omega), i2, hP3.weak (fun i' j' h1 h2 h3 => by omega)⟩
end Go.Proofs.Ytokckcnfojjpjaa

set_option linter.unusedVariables false
set_option linter.unusedSimpArgs false
namespace Go.Proofs.Ytokckcnfojjpjaa
open Go.RowKit
set_option maxRecDepth 20000
attribute [local irreducible] yA semH semC qLen qNil qIad qSlc qIdx yW yM xC appX appI slcX awpF yO xJ xopF xR qval lval seqQ xN wJ wI xW cnd arith IntKind.wrap
section
variable {cf cx : C} {ch ct : List C} {f : List Pl} {x : List Rat} {h t : Rat}
theorem step_imp5 (hi : qT cf cx ch ct f x h t) : semC Try.prog n_step_method_5 [.agg (cf :: ch), .c cx, .agg ct] (OneK (pK f x h (t + h))) := by
 refine yD ok_step_method_5 rfl hi.hfv ?_
 have h3 := hi.x3
 obtain ⟨a0, a1, a2, a3, a4, a5, rfl⟩ := id hi.hh.six
 obtain ⟨b0, b1, b2, b3, b4, b5, rfl⟩ := id hi.ht.six
 have ct' : CpL 140 [t + h] := (bC hi.bt hi.bh).mono (by decide)
 refine go11 ?_
 first | refine yE (tM hi.ht hi.hh (by decide)) (fun u hu => ?_) | refine yB (tM hi.ht hi.hh (by decide)) (fun u hu => ?_)
 obtain ⟨r3, rfl, g3⟩ := hu
 have g3 := g3.tightS (ct'.bd (k := 4194304) (by decide) (by simp))
 refine go11 ?_
 first | refine yE (jL hi.hc hi.hf hi.hl hi.hh hi.hx hi.hh g3 (hi.bx.mono (by decide)) (hi.bh.mono (by decide)) ct') (fun u hu => ?_) | refine yB (jL hi.hc hi.hf hi.hl hi.hh hi.hx hi.hh g3 (hi.bx.mono (by decide)) (hi.bh.mono (by decide)) ct') (fun u hu => ?_)
 rcases hu with ⟨y, cy, hy, rfl, ly⟩ | ⟨hy, rfl⟩
 ·refine go11 ?_
  rw [hy]
  exact OneK.fz ly
 ·refine go11 ?_
  rw [hy]
  exact ⟨_, .tup (.cons (.c (.hf trivial)) (.cons (.c (.hf trivial)) .nil)), .inr ⟨rfl, rfl⟩⟩
theorem step_imp6 {hs : List C} (hi : qT cf cx ch ct f x h t) (hhs : IQ 1 hs tB) : semC Try.prog n_step_method_6 [.agg (cf :: ch), .c cx, .agg ct, .c (.ipt hs)] (OneK (bJ f h t x)) := by
 refine yD ok_step_method_6 rfl (show HFVs [.agg (cf :: ch), .c cx, .agg ct, .c (.ipt hs)] from ⟨⟨hi.hc.hf, hi.hh.hf⟩, hi.hx.hf, hi.ht.hf, hhs.hf, trivial⟩) ?_
 have h3 := hi.x3
 obtain ⟨a0, a1, a2, a3, a4, a5, rfl⟩ := id hi.hh.six
 obtain ⟨b0, b1, b2, b3, b4, b5, rfl⟩ := id hi.ht.six
 obtain ⟨d0, d1, d2, d3, d4, d5, rfl⟩ := id hhs.six
 have bh2 := pE hi.bh half_cp
 have c1 : CpL 9720 (xI f x t) := (tK hi.hf hi.bx hi.bt).mono (by decide)
 have n1 : (xI f x t).length = x.length := by rw [vV, hi.hl]
 have c2 : CpL 10500 (xH x (h * tB) (xI f x t)) := (tX hi.bx bh2 c1).mono (by decide)
 have n2 : (xH x (h * tB) (xI f x t)).length = x.length := wU n1
 have ct' : CpL 140 [t + h] := (bC hi.bt hi.bh).mono (by decide)
 refine go11 ?_
 first | refine yE (uH hi.hh hhs (by decide)) (fun u hu => ?_) | refine yB (uH hi.hh hhs (by decide)) (fun u hu => ?_)
 obtain ⟨r5, rfl, g5⟩ := hu
 have g5 := g5.tightS (bh2.bd (k := 4194304) (by decide) (by simp))
 obtain ⟨e0, e1, e2, e3, e4, e5, rfl⟩ := id g5.six
 refine go11 ?_
 first | refine yE (vW hi hi.hx rfl hi.ht hi.bx hi.bt (by decide)) (fun u hu => ?_) | refine yB (vW hi hi.hx rfl hi.ht hi.bx hi.bt (by decide)) (fun u hu => ?_)
 obtain ⟨r1, rfl, l1⟩ := hu
 refine go11 ?_
 first | refine yE (wK (x3 := h3) hi.hx hi.bx g5 bh2 l1 n1 c1 (by decide)) (fun u hu => ?_) | refine yB (wK (x3 := h3) hi.hx hi.bx g5 bh2 l1 n1 c1 (by decide)) (fun u hu => ?_)
 obtain ⟨r2, rfl, l2⟩ := hu
 refine go11 ?_
 first | refine yE (tM hi.ht hi.hh (by decide)) (fun u hu => ?_) | refine yB (tM hi.ht hi.hh (by decide)) (fun u hu => ?_)
 obtain ⟨r3, rfl, g3⟩ := hu
 have g3 := g3.tightS (ct'.bd (k := 4194304) (by decide) (by simp))
 refine go11 ?_
 first | refine yE (jL hi.hc (sE hi.hf (show _ = (xH x (h * tB) (xI f x t)).length + 1 by rw [n2])) (by rw [n2, hi.hl]) hi.hh l2 g5 g3 c2 bh2 ct') (fun u hu => ?_) | refine yB (jL hi.hc (sE hi.hf (show _ = (xH x (h * tB) (xI f x t)).length + 1 by rw [n2])) (by rw [n2, hi.hl]) hi.hh l2 g5 g3 c2 bh2 ct') (fun u hu => ?_)
 rcases hu with ⟨y, cy, hy, rfl, ly⟩ | ⟨hy, rfl⟩
 ·refine go11 ?_
  rw [show bJ f h t x = some y from hy]
  exact OneK.fz ly
 ·refine go11 ?_
  rw [show bJ f h t x = none from hy]
  exact ⟨_, .tup (.cons (.c (.hf trivial)) (.cons (.c (.hf trivial)) .nil)), .inr ⟨rfl, rfl⟩⟩
end
theorem imp_all (m : Int) : ImpOk m := fun hi _ hhs => ⟨fun _ => step_imp5 hi, fun _ => step_imp6 hi hhs⟩
end Go.Proofs.Ytokckcnfojjpjaa

set_option linter.unusedVariables false
set_option linter.unusedSimpArgs false
namespace Go.Proofs.Ytokckcnfojjpjaa
open Go.RowKit
set_option maxRecDepth 20000
def TrueK (u : V) : Prop := u = .c (.bool true)
theorem TrueK.fz {H : Hp} : ∃ d, FzV H (.c (.bool true)) d ∧ TrueK d := ⟨_, .c (.hf trivial), rfl⟩
def kF : List Pl := [[((1, 1), [1, 0])]]
theorem k_run : classicV kF (rt (1, 1)) (rt (0, 1) + rt (1, 1) * (((0 : Nat) : Int) : Rat)) [rt (24, 1)] = [65] := by decide +kernel
theorem k_val : valS kF = 0 := by
 refine sys_ok (by decide) ?_ ?_
 ·rintro ⟨p, hp, h⟩
  simp [kF] at hp
  subst hp
  rcases h with h | ⟨t, ht, h⟩
  ·simp at h
  ·simp at ht
   subst ht
   rcases h with h | ⟨_, h⟩ <;> simp [sumP] at h
 ·rintro ⟨p, hp, i, hi, h⟩
  simp [kF] at hp
  subst hp
  simp at hi
  subst hi
  rcases h with h | ⟨h, _⟩
  ·rcases h with h | h | h | ⟨k, hk, h⟩
   ·simp [kF] at h
   ·exact h (show vF 1 1 from ⟨by decide, by decide, by decide, by decide, by decide⟩)
   ·simp at h
   ·simp at hk
    rcases hk with rfl | rfl <;> simp at h
  ·omega
theorem k_ok : RunOk 3 kF (0, 1) [(24, 1)] (1, 1) 0 1 := ⟨k_val, ⟨by decide, by decide, by decide, by decide, by decide⟩, fun p hp => by simp at hp; subst hp; exact ⟨by decide, by decide, by decide, by decide, by decide⟩, ⟨by decide, by decide, by decide, by decide, by decide⟩, by decide, by decide, by decide, by decide, by decide, by decide, by decide, by decide, by rintro (h | h) <;> cases h⟩
theorem k_runV : runV 3 kF (rt (1, 1)) (rt (0, 1)) 0 [rt (24, 1)] 1 = .ok [[rt (24, 1)], [65]] := by
 have h1 : gO 3 kF (rt (1, 1)) (rt (0, 1) + rt (1, 1) * (((0 : Nat) : Int) : Rat)) 0 [rt (24, 1)] [rt (24, 1)] = some [65] := by
  unfold gO
  rw [yL.2 (by omega)]
  simp only [cond_false]
  rw [one_3, k_run]
 have h2 : rdV 0 65 = 65 := rd_none (by decide)
 have h3 : gT ([65].map (rdV 0)) := by
  intro q hq
  simp only [List.map_cons, List.map_nil, List.mem_singleton] at hq
  subst hq
  rw [h2]
  unfold fitR
  exact yH.2 (by decide +kernel)
 show tU 3 kF (rt (1, 1)) (rt (0, 1)) 0 0 [[rt (24, 1)]] = _
 unfold tU
 simp only [List.getD_cons_zero, Nat.zero_sub]
 rw [h1]
 simp only
 rw [yH.2 h3]
 simp [h2]
theorem imp3 {m : Int} (h : m ≠ 4) (h2 : m ≠ 5) : ImpOk m := fun _ _ _ => ⟨fun e => absurd e h, fun e => absurd e h2⟩
theorem k_elM : Ls elM (.imm 1 [.imm 1 [iC 1, iC 1, .imm 2 [iC 1, iC 0]]]) kF := by
 have h1 : Ls elI (.imm 2 [iC 1, iC 0]) [1, 0] := .imm (.cons (E := elI) (a := 1) (cs := [iC 1]) ⟨rfl, by decide, by decide⟩ (.one (E := elI) (a := 0) ⟨rfl, by decide, by decide⟩))
 have h2 : Ls elT (.imm 1 [iC 1, iC 1, .imm 2 [iC 1, iC 0]]) [((1, 1), [1, 0])] := .imm (.one (E := elT) (a := ((1, 1), [1, 0])) ⟨_, rfl, h1, by decide⟩)
 exact .imm (.one (E := elM) (a := [((1, 1), [1, 0])]) ⟨_, rfl, h2, by decide⟩)
theorem k_x : Ls elP (.imm 1 [iC 24, iC 1]) [(24, 1)] := .imm (.one (E := elP) (a := (24, 1)) rfl)
attribute [local irreducible] yA semH semC qLen qNil qIad qSlc qIdx yW yM xC appX appI slcX awpF yO xJ xopF xR qval lval seqQ xN wJ wI xW cnd arith IntKind.wrap
theorem vQ : semC Try.prog n_law19_known [] TrueK := by
 refine yD ok_law19_known rfl (show HFVs [] from trivial) ?_
 refine go13 ?_
 simp only [sH, sA, ratC, sQ, sP, List.set_cons_zero, List.set_cons_succ, List.nil_append, List.cons_append, List.append_nil, List.replicate_succ, List.replicate_zero, List.length_cons, List.length_nil, splice, List.take_succ_cons, List.take_zero, List.drop_succ_cons, List.drop_zero, List.take_nil, List.drop_nil, Nat.zero_add, Nat.reduceAdd, Nat.reduceMul, Int.reduceToNat, wH, List.getElem?_cons_succ, List.getElem?_cons_zero]
 first | refine yE (step_Step 3 (0, 1) (1, 1) 0 k_elM (by decide) k_x (by decide) (imp3 (by decide) (by decide))) (fun u hu => ?_) | refine yB (step_Step 3 (0, 1) (1, 1) 0 k_elM (by decide) k_x (by decide) (imp3 (by decide) (by decide))) (fun u hu => ?_)
 rcases hu with ⟨_, e, hr, _⟩ | ⟨_, y, c, hr, hT, rfl, hc⟩ | ⟨hn, _⟩
 ·have hr : runV 3 kF (rt (1, 1)) (rt (0, 1)) 0 [rt (24, 1)] 1 = .error e := hr
  rw [k_runV] at hr
  cases hr
 ·have hr : runV 3 kF (rt (1, 1)) (rt (0, 1)) 0 [rt (24, 1)] 1 = .ok [[rt (24, 1)], y] := hr
  rw [k_runV] at hr
  simp only [Except.ok.injEq, List.cons.injEq, and_true, true_and] at hr
  subst hr
  obtain ⟨L, hL⟩ : ∃ L : List R2, L = [65].map rp := ⟨_, rfl⟩
  rw [← hL] at hc
  have hl : L = [(65, 1)] := by rw [hL]; decide +kernel
  have hLl : L.length = 1 := by rw [hl]; rfl
  refine go13 ?_
  rw [show yA Cm.eql (L.length : Int) 1 = true by rw [hLl]; simp [yA]]
  refine go13 ?_
  refine qE hc (i := 0) (by omega) (by decide) rfl (fun cs hcs => ?_)
  have h0 : L[0]'(by omega) = (65, 1) := by simp [hl]
  rw [h0] at hcs
  obtain rfl := (show cs = ratC (65, 1) from hcs)
  refine go13 ?_
  rw [show yA Cm.eql 0 0 = true by simp [yA]]
  exact TrueK.fz
 ·exact absurd k_ok hn
end Go.Proofs.Ytokckcnfojjpjaa

set_option linter.unusedVariables false
set_option linter.unusedSimpArgs false
namespace Go.Proofs.Ytokckcnfojjpjaa
open Go.RowKit
set_option maxRecDepth 20000
def fr (a b : Int) : Rat := (a : Rat) / (b : Rat)
def oneQ : Rat := ((1 : Int) : Rat)
def growP (m : Int) : List Rat × List Rat :=
 if m = 0 then ([oneQ, oneQ], [oneQ]) else if m = 1 ∨ m = 2 then ([oneQ, oneQ, fr 1 2], [oneQ]) else
  if m = 3 then ([oneQ, oneQ, fr 1 2, fr 1 6, fr 1 24], [oneQ]) else if m = 4 then ([oneQ], [oneQ, ((-1 : Int) : Rat)]) else ([oneQ, fr 1 2], [oneQ, fr (-1) 2])
def GroK (E : El Rat) (m : Int) (u : V) : Prop := ∃ c d, u = .tup [.c c, .c d] ∧ Ls E c (growP m).1 ∧ Ls E d (growP m).2
theorem GroK.of {E : El Rat} {m : Int} {c d : C} {p q : List Rat} {H : Hp} (h : growP m = (p, q)) (hc : Ls E c p) (hd : Ls E d q) : ∃ e, FzV H (.tup [.c c, .c d]) e ∧ GroK E m e := ⟨_, .tup (.cons (.c (.hf hc.hf)) (.cons (.c (.hf hd.hf)) .nil)), c, d, rfl, by rw [h]; exact hc, by rw [h]; exact hd⟩
def grR (m : Int) : List R2 × List R2 × Int := if m < 0 ∨ 6 < m then ([], [], 1) else if m = 6 then ([], [], 6) else ((growP m).1.map rp, (growP m).2.map rp, 0)
def GrK (m : Int) (u : V) : Prop := ∃ c d, u = .tup [.c c, .c d, i64 (grR m).2.2] ∧ Ls elP c (grR m).1 ∧ Ls elP d (grR m).2.1
theorem GrK.of {m e : Int} {c d : C} {p q : List R2} {H : Hp} (h : grR m = (p, q, e)) (hc : Ls elP c p) (hd : Ls elP d q) : ∃ a, FzV H (.tup [.c c, .c d, i64 e]) a ∧ GrK m a := ⟨_, .tup (.cons (.c (.hf hc.hf)) (.cons (.c (.hf hd.hf)) (.cons (.c (.hf trivial)) .nil))), c, d, by rw [h]; rfl, by rw [h]; exact hc, by rw [h]; exact hd⟩
def ordR (m : Int) : Int × Int := if m = 0 ∨ m = 4 then (1, 0) else if m = 1 ∨ m = 2 ∨ m = 5 ∨ m = 6 then (2, 0) else if m = 3 then (4, 0) else (0, 1)
def OrdK (m : Int) (u : V) : Prop := u = .tup [i64 (ordR m).1, i64 (ordR m).2]
theorem OrdK.of {m a b : Int} {H : Hp} (h : ordR m = (a, b)) : ∃ d, FzV H (.tup [i64 a, i64 b]) d ∧ OrdK m d := ⟨_, .tup (.cons (.c (.hf trivial)) (.cons (.c (.hf trivial)) .nil)), by unfold OrdK; rw [h]; rfl⟩
def absV (q : Rat) : Rat := if q < 0 then -q else q
noncomputable def stabR (m : Int) (z : R2) : Bool × Int :=
 bif dec (m < 0 ∨ 6 < m ∨ ¬ vF z.1 z.2) then (false, 1) else bif dec (m = 6) then (false, 6) else bif dec (ev (growP m).2 (rt z) = 0) then (false, 4) else
  (dec (absV (ev (growP m).1 (rt z) / ev (growP m).2 (rt z)) ≤ ((1 : Int) : Rat)), 0)
def StabK (m : Int) (z : R2) (u : V) : Prop := u = .tup [.c (.bool (stabR m z).1), i64 (stabR m z).2]
theorem StabK.of {m e : Int} {z : R2} {b : Bool} {H : Hp} (h : stabR m z = (b, e)) : ∃ d, FzV H (.tup [.c (.bool b), i64 e]) d ∧ StabK m z d := ⟨_, .tup (.cons (.c (.hf trivial)) (.cons (.c (.hf trivial)) .nil)), by unfold StabK; rw [h]; rfl⟩
attribute [local irreducible] yA semH semC qLen qNil qIad qSlc qIdx yW yM xC appX appI slcX awpF yO xJ xopF xR qval lval seqQ xN wJ wI xW cnd arith IntKind.wrap
end Go.Proofs.Ytokckcnfojjpjaa

set_option linter.unusedVariables false
set_option linter.unusedSimpArgs false
namespace Go.Proofs.Ytokckcnfojjpjaa
open Go.RowKit
set_option maxRecDepth 20000
attribute [local irreducible] yA semH semC qLen qNil qIad qSlc qIdx yW yM xC appX appI slcX awpF yO xJ xopF xR qval lval seqQ xN wJ wI xW cnd arith IntKind.wrap
theorem law19_same {c d : C} {l m : List R2} (hc : Ls elP c l) (hd : Ls elP d m) (hl : l.length < 1073741824) (hm : m.length < 1073741824) : semC Try.prog n_law19_same [.c c, .c d] (sJ (l = m)) := by
 refine yD ok_law19_same rfl (show HFVs [.c c, .c d] from ⟨hc.hf, hd.hf, trivial⟩) ?_
 refine go13 ?_
 cases h1 : yA Cm.neq (l.length : Int) (m.length : Int)
 case true =>
  simp [yA] at h1
  refine go13 ?_
  exact ⟨_, .c (.hf trivial), false, rfl, ⟨fun h => (by cases h), fun h => absurd (congrArg List.length h) (by omega)⟩⟩
 simp [yA] at h1
 refine go13 ?_
 refine yT (fun w vs H => ∃ (i : Nat), vs = [.c c, .c d, i64 l.length, i64 i] ∧ w = l.length - i ∧ i ≤ l.length ∧ l.take i = m.take i) (by rfl) ⟨0, rfl, rfl, by omega, rfl⟩ ?_
 rintro w vs H ⟨i, rfl, rfl, i1, i2⟩
 refine go13 ?_
 cases hi : yA Cm.lss (i : Int) (l.length : Int)
 case false =>
  simp [yA] at hi
  rw [uE (by omega), uE (by omega)] at i2
  refine go13 ?_
  exact ⟨_, .c (.hf trivial), true, rfl, ⟨fun _ => i2, fun _ => rfl⟩⟩
 simp [yA] at hi
 refine go13 ?_
 refine qE hc (i := i) hi (by omega) rfl (fun cs hcs => ?_)
 obtain rfl := (show cs = ratC _ from hcs)
 refine go13 ?_
 refine qE hd (i := i) (by omega) (by omega) rfl (fun ds hds => ?_)
 obtain rfl := (show ds = ratC _ from hds)
 refine go13 ?_
 rw [ne_pair l[i] (m[i]'(by omega))]
 cases he : dec (l[i] = m[i]'(by omega))
 case false =>
  refine go13 ?_
  refine ⟨_, .c (.hf trivial), false, rfl, ⟨fun h => (by cases h), fun h => absurd ?_ (yL.1 he)⟩⟩
  subst h
  rfl
 refine go13 ?_
 rw [xO i (by omega)]
 refine l_n (by rfl) (n' := l.length - (i + 1)) (by omega) ⟨i + 1, rfl, rfl, by omega, ?_⟩
 rw [wM hi, wM (show i < m.length by omega), i2, yH.1 he]
end Go.Proofs.Ytokckcnfojjpjaa

set_option linter.unusedVariables false
set_option linter.unusedSimpArgs false
namespace Go.Proofs.Ytokckcnfojjpjaa
open Go.RowKit
set_option maxRecDepth 20000
theorem ld_LRs {c : C} {l : List (List R2)} {n i : Nat} {K : V → Prop} (hc : Ls elLR c l) (hi : i < l.length) (hn : n = i) (h : ∀ d, Ls elP d l[i] → l[i].length < 1048576 → K (.c d)) : yM (c.ds.drop (n * 1)) false 1 K := by
 subst hn
 obtain ⟨cs, r, h1, h2⟩ := hc.els.get hi
 obtain ⟨d, rfl, h3, h4⟩ := h1
 have h2 : c.ds.drop (n * 1) = [d] ++ r := h2
 rw [h2]
 exact h d h3 h4
attribute [local irreducible] yA semH semC qLen qNil qIad qSlc qIdx yW yM xC appX appI slcX awpF yO xJ xopF xR qval lval seqQ xN wJ wI xW cnd arith IntKind.wrap
theorem jN {c d : C} {l m : List (List R2)} (hc : Ls elLR c l) (hd : Ls elLR d m) (hl : l.length < 1073741824) (hm : m.length < 1073741824) : semC Try.prog n_law19_sameAll [.c c, .c d] (sJ (l = m)) := by
 refine yD ok_law19_sameAll rfl (show HFVs [.c c, .c d] from ⟨hc.hf, hd.hf, trivial⟩) ?_
 refine go13 ?_
 cases h1 : yA Cm.neq (l.length : Int) (m.length : Int)
 case true =>
  simp [yA] at h1
  refine go13 ?_
  exact ⟨_, .c (.hf trivial), false, rfl, ⟨fun h => (by cases h), fun h => absurd (congrArg List.length h) (by omega)⟩⟩
 simp [yA] at h1
 refine go13 ?_
 refine yT (fun w vs H => ∃ (i : Nat), vs = [.c c, .c d, i64 l.length, i64 i] ∧ w = l.length - i ∧ i ≤ l.length ∧ l.take i = m.take i) (by rfl) ⟨0, rfl, rfl, by omega, rfl⟩ ?_
 rintro w vs H ⟨i, rfl, rfl, i1, i2⟩
 refine go13 ?_
 cases hi : yA Cm.lss (i : Int) (l.length : Int)
 case false =>
  simp [yA] at hi
  rw [uE (by omega), uE (by omega)] at i2
  refine go13 ?_
  exact ⟨_, .c (.hf trivial), true, rfl, ⟨fun _ => i2, fun _ => rfl⟩⟩
 simp [yA] at hi
 refine go13 ?_
 refine ld_LRs hc (i := i) hi rfl (fun e1 he1 hb1 => ?_)
 refine go13 ?_
 refine ld_LRs hd (i := i) (by omega) rfl (fun e2 he2 hb2 => ?_)
 refine go13 ?_
 first | refine yE (law19_same he1 he2 (by omega) (by omega)) (fun u hu => ?_) | refine yB (law19_same he1 he2 (by omega) (by omega)) (fun u hu => ?_)
 obtain ⟨z, rfl, hz⟩ := hu
 cases z
 case false =>
  refine go13 ?_
  refine ⟨_, .c (.hf trivial), false, rfl, ⟨fun h => (by cases h), fun h => absurd (hz.2 ?_) (by decide)⟩⟩
  subst h
  rfl
 refine go13 ?_
 rw [xO i (by omega)]
 refine l_n (by rfl) (n' := l.length - (i + 1)) (by omega) ⟨i + 1, rfl, rfl, by omega, ?_⟩
 rw [wM hi, wM (show i < m.length by omega), i2, hz.1 rfl]
theorem law19_StepCuts {cf cx : C} {f : List Pl} {x : List R2} (m : Int) (t h : R2) (g n cut : Int) (hc : Ls elM cf f) (hf : f.length < uJ) (hx : Ls elP cx x) (hxl : x.length < uJ) : semC Try.prog n_law19_StepCuts [i64 m, .c cf, .agg (ratC t), .c cx, .agg (ratC h), i64 g, i64 n, i64 cut] TrueK := by
 refine yD ok_law19_StepCuts rfl (show HFVs [i64 m, .c cf, .agg (ratC t), .c cx, .agg (ratC h), i64 g, i64 n, i64 cut] from ⟨trivial, hc.hf, gH _, hx.hf, gH _, trivial, trivial, trivial, trivial⟩) ?_
 refine go13 ?_
 first | refine yE (jQ m t h g n hc hf hx hxl (imp_all m)) (fun u hu => ?_) | refine yB (jQ m t h g n hc hf hx hxl (imp_all m)) (fun u hu => ?_)
 rcases hu with ⟨_, e, hr, he, rfl⟩ | ⟨hk, out, c1, hr, ho, hl, rfl, lc⟩ | ⟨_, e, he, rfl, _⟩
 case inl =>
  refine go13 ?_
  rw [gP, yH.2 he]
  refine go13 ?_
  first | refine yE vQ (fun u hu => ?_) | refine yB vQ (fun u hu => ?_)
  obtain rfl := hu
  refine go13 ?_
  exact TrueK.fz
 case inr.inr =>
  refine go13 ?_
  rw [gP, yH.2 he]
  refine go13 ?_
  first | refine yE vQ (fun u hu => ?_) | refine yB vQ (fun u hu => ?_)
  obtain rfl := hu
  refine go13 ?_
  exact TrueK.fz
 refine go13 ?_
 rw [show yA Cm.neq 0 0 = false by simp [yA]]
 refine go13 ?_
 cases h1 : yA Cm.eql m 6
 case true =>
  refine go13 ?_
  first | refine yE vQ (fun u hu => ?_) | refine yB vQ (fun u hu => ?_)
  obtain rfl := hu
  refine go13 ?_
  exact TrueK.fz
 simp [yA] at h1
 refine go13 ?_
 cases h2 : yA Cm.lss cut 0
 case true =>
  refine go13 ?_
  first | refine yE vQ (fun u hu => ?_) | refine yB vQ (fun u hu => ?_)
  obtain rfl := hu
  refine go13 ?_
  exact TrueK.fz
 simp [yA] at h2
 refine go13 ?_
 cases h3 : yA Cm.gtr cut n
 case true =>
  refine go13 ?_
  first | refine yE vQ (fun u hu => ?_) | refine yB vQ (fun u hu => ?_)
  obtain rfl := hu
  refine go13 ?_
  exact TrueK.fz
 simp [yA] at h3
 have hn60 := hk.nm
 obtain ⟨q, rfl⟩ := Int.eq_ofNat_of_zero_le hk.n0
 obtain ⟨k, rfl⟩ := Int.eq_ofNat_of_zero_le h2
 have hkq : k ≤ q := by omega
 rw [Int.toNat_natCast] at hr hl
 refine go13 ?_
 first | refine yE (r_Of hk.ht) (fun u hu => ?_) | refine yB (r_Of hk.ht) (fun u hu => ?_)
 obtain ⟨s1, rfl, g1⟩ := hu
 refine go13 ?_
 first | refine yE (r_Of hk.hh) (fun u hu => ?_) | refine yB (r_Of hk.hh) (fun u hu => ?_)
 obtain ⟨s2, rfl, g2⟩ := hu
 refine go13 ?_
 first | refine yE (r_Int (g := (k : Int)) (by omega)) (fun u hu => ?_) | refine yB (r_Int (g := (k : Int)) (by omega)) (fun u hu => ?_)
 obtain ⟨s3, rfl, g3⟩ := hu
 refine go13 ?_
 first | refine yE (r_Mul2 g2 g3 (by decide)) (fun u hu => ?_) | refine yB (r_Mul2 g2 g3 (by decide)) (fun u hu => ?_)
 obtain ⟨s4, rfl, g4⟩ := hu
 refine go13 ?_
 first | refine yE (r_Add2 g1 g4 (by decide)) (fun u hu => ?_) | refine yB (r_Add2 g1 g4 (by decide)) (fun u hu => ?_)
 obtain ⟨s5, rfl, g5⟩ := hu
 refine go13 ?_
 first | refine yE (ref01_Rat g5.is (pO _)) (fun u hu => ?_) | refine yB (ref01_Rat g5.is (pO _)) (fun u hu => ?_)
 obtain rfl := hu
 unfold outV
 cases hfit : fitR (rp (rt t + rt h * ((k : Int) : Rat)))
 case false =>
  refine go13 ?_
  first | refine yE vQ (fun u hu => ?_) | refine yB vQ (fun u hu => ?_)
  obtain rfl := hu
  refine go13 ?_
  exact TrueK.fz
 refine go13 ?_
 simp only [sH, sA, ratC, sQ, sP, List.set_cons_zero, List.set_cons_succ, List.nil_append, List.cons_append, List.append_nil, List.replicate_succ, List.replicate_zero, List.length_cons, List.length_nil, splice, List.take_succ_cons, List.take_zero, List.drop_succ_cons, List.drop_zero, List.take_nil, List.drop_nil, Nat.zero_add, Nat.reduceAdd, Nat.reduceMul, Int.reduceToNat, wH, List.getElem?_cons_succ, List.getElem?_cons_zero]
 obtain ⟨L, hL⟩ : ∃ L : List (List R2), L = out.map fun l => l.map rp := ⟨_, rfl⟩
 rw [← hL] at lc
 have hLl : L.length = q + 1 := by rw [hL, List.length_map, hl]
 rw [← hL, hLl, xO q (by omega), show yA Cm.neq ((q + 1 : Nat) : Int) ((q + 1 : Nat) : Int) = false by simp [yA]]
 refine go13 ?_
 first | refine yE (jQ m t h g (k : Int) hc hf hx hxl (imp_all m)) (fun u hu => ?_) | refine yB (jQ m t h g (k : Int) hc hf hx hxl (imp_all m)) (fun u hu => ?_)
 have hr1 := run_take hr hkq
 have hkc : RunOk m f t x h g (k : Int) := { hk with n0 := by omega, nm := by omega }
 rcases hu with ⟨_, e, hr2, he, rfl⟩ | ⟨_, out2, c2, hr2, ho2, hl2, rfl, lc2⟩ | ⟨hno, _⟩
 case inl =>
  rw [Int.toNat_natCast, hr1] at hr2
  cases hr2
 case inr.inr => exact absurd hkc hno
 rw [Int.toNat_natCast, hr1] at hr2
 cases hr2
 refine go13 ?_
 rw [show yA Cm.neq 0 0 = false by simp [yA]]
 refine go13 ?_
 refine ld_LRs lc (i := k) (by omega) (by omega) (fun d1 hd1 hb1 => ?_)
 refine go13 ?_
 rw [show arith .sub .i64 (q : Int) (k : Int) = ((q - k : Nat) : Int) by rw [wZ, yF (by omega) (by omega)]; omega]
 refine go13 ?_
 have hk' : k < out.length := by omega
 have hLk : L[k]'(by omega) = (out[k]).map rp := by simp [hL]
 have hTk := ho out[k] (List.getElem_mem _)
 have hxL : pW (L[k]'(by omega)) := by
  rw [hLk]
  intro p hp
  obtain ⟨a, ha, rfl⟩ := List.mem_map.1 hp
  exact fit_ratS (hTk.2 a ha)
 have hll : (L[k]'(by omega)).length = f.length := by rw [hLk, List.length_map]; exact hTk.1
 have hkd : RunOk m f (rp (rt t + rt h * ((k : Int) : Rat))) (L[k]'(by omega)) h g ((q - k : Nat) : Int) := { hk with ht := fit_ratS hfit, hx := hxL, n0 := by omega, nm := by omega, len := hll }
 have hr3 := run_cut (c := k) (k := q - k) h1 (by rw [show k + (q - k) = q by omega]; exact hr)
 have ex : (L[k]'(by omega)).map rt = out.getD k [] := by
  rw [hLk, List.map_map, show out.getD k [] = out[k] by simp [List.getD, hk']]
  conv => rhs; rw [← List.map_id out[k]]
  exact List.map_congr_left fun a _ => rt_rp a
 first | refine yE (jQ m (rp (rt t + rt h * ((k : Int) : Rat))) h g ((q - k : Nat) : Int) hc hf hd1 (by unfold uJ; omega) (imp_all m)) (fun u hu => ?_) | refine yB (jQ m (rp (rt t + rt h * ((k : Int) : Rat))) h g ((q - k : Nat) : Int) hc hf hd1 (by unfold uJ; omega) (imp_all m)) (fun u hu => ?_)
 rcases hu with ⟨_, e, hr4, he, rfl⟩ | ⟨_, out3, c3, hr4, ho3, hl3, rfl, lc3⟩ | ⟨hno, _⟩
 case inl =>
  rw [Int.toNat_natCast, rt_rp, ex, hr3] at hr4
  cases hr4
 case inr.inr => exact absurd hkd hno
 rw [Int.toNat_natCast, rt_rp, ex, hr3] at hr4
 cases hr4
 refine go13 ?_
 rw [show yA Cm.eql 0 0 = true by simp [yA]]
 refine go13 ?_
 rw [xO k (by omega)]
 refine slc_ls (l := L) (b := ((k + 1 : Nat) : Int)) (by rfl) lc rfl (by rfl) (by rfl) (by omega) (by omega) (by omega) (fun c4 hc4 => ?_)
 have e4 : ((L.drop (0 : Int).toNat).take ((((k + 1 : Nat) : Int)).toNat - (0 : Int).toNat)) = (out.take (k + 1)).map fun l => l.map rp := by
  rw [hL, Int.toNat_natCast]
  simp [List.map_take]
 rw [e4] at hc4
 refine go13 ?_
 first | refine yE (jN lc2 hc4 (by rw [List.length_map, List.length_take]; omega) (by rw [List.length_map, List.length_take]; omega)) (fun u hu => ?_) | refine yB (jN lc2 hc4 (by rw [List.length_map, List.length_take]; omega) (by rw [List.length_map, List.length_take]; omega)) (fun u hu => ?_)
 obtain ⟨z, rfl, hz⟩ := hu
 obtain rfl := (hz.2 rfl : z = true)
 refine go13 ?_
 refine slc_ls (l := L) (b := ((q + 1 : Nat) : Int)) (by rfl) lc rfl (by rfl) (by rw [hLl]; rfl) (by omega) (by omega) (by omega) (fun c5 hc5 => ?_)
 have e5 : ((L.drop ((k : Int)).toNat).take ((((q + 1 : Nat) : Int)).toNat - ((k : Int)).toNat)) = (out.drop k).map fun l => l.map rp := by
  rw [hL, Int.toNat_natCast, Int.toNat_natCast, List.take_of_length_le (by simp; omega), List.map_drop]
 rw [e5] at hc5
 refine go13 ?_
 first | refine yE (jN lc3 hc5 (by rw [List.length_map, List.length_drop]; omega) (by rw [List.length_map, List.length_drop]; omega)) (fun u hu => ?_) | refine yB (jN lc3 hc5 (by rw [List.length_map, List.length_drop]; omega) (by rw [List.length_map, List.length_drop]; omega)) (fun u hu => ?_)
 obtain ⟨z, rfl, hz⟩ := hu
 obtain rfl := (hz.2 rfl : z = true)
 refine go13 ?_
 first | refine yE vQ (fun u hu => ?_) | refine yB vQ (fun u hu => ?_)
 obtain rfl := hu
 refine go13 ?_
 exact TrueK.fz
end Go.Proofs.Ytokckcnfojjpjaa
