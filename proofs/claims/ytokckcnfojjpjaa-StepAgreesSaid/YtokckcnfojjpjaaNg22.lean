/-
  Parts of the proof: Lists of numbers: all valid, as numbers of any size, rising, the same.
-/
import Derived.Test.YtokckcnfojjpjaaNg20
import Derived.Test.YtokckcnfojjpjaaNg21
set_option linter.unusedVariables false
set_option linter.unusedSimpArgs false
namespace Go.Proofs.Ytokckcnfojjpjaa
open Go.RowKit
set_option maxRecDepth 20000
theorem go5 {A B:Prop} (k:B) (h:Held B→A:=by
 intro hgo
 repeat (first | (refine g_o ?_; first | (refine o_some ?_; try (first | (refine x_q (by rfl) ?_; try (first | refine q_mv (by rfl) ?_ | refine wZ (by rfl) ?_ | (refine tJ ?_; try (first | refine tX (by rfl) (by assumption) ?_ | refine vK (by rfl) (by assumption) ?_ | refine vL (by rfl) ?_ | refine wE (by rfl) ?_ | refine wD (by rfl) ?_)) | (refine tL ?_; try (first | refine tY (by rfl) (by rfl) (by assumption) (by omega) (by omega) ?_ | refine wW (by rfl) (by rfl) (by assumption) (by omega) (by omega) ?_ | refine vJ (by rfl) (by rfl) (by decide) (by decide) ?_ | refine yL (by rfl) (by rfl) (by decide) (by decide) ?_ | refine vD (by rfl) (by rfl) (by decide) (by decide) ?_ | refine yL (by rfl) (by rfl) (by omega) (by omega) ?_)) | refine q_cm (by rfl) (by rfl) ?_ | refine q_ar (by rfl) (by rfl) (by rfl) ?_ | refine vW (by rfl) ?_ | (refine tP ?_; try (first | refine wP (by rfl) ?_ | refine wQ (by rfl) ?_ | refine vM (by rfl) ?_)) | refine tO (by rfl) (by rfl) ?_ | refine wY (by rfl) ?_ | refine vA (by rfl) ?_ | refine tF (by rfl) (by rfl) (by first | decide | omega) ?_ | refine tE (by rfl) (by rfl) (by first | decide | omega) ?_ | refine tQ (by rfl) (by rfl) ?_ | refine tR (by rfl) (by rfl) (by rfl) ?_ | refine tH (by rfl) ?_ | refine tG (by rfl) ?_ | refine wG (by rfl) (by rfl) ?_ | refine wH (by rfl) (by rfl) ?_ | refine tD ?_ | refine tK ?_ | refine tN (by rfl) (by rfl) ?_ | refine vV (by rfl) (by rfl) ?_ | refine wJ (by rfl) ?_ | refine q_mx (by rfl) (by rfl) ?_ | refine q_mn (by rfl) (by rfl) ?_ | refine tI (by rfl) (by rfl) (by rfl) ?_ | refine tM (by rfl) ?_ | refine vX (by rfl) ?_ | refine vY (by rfl) ?_ | refine wI (by rfl) ?_ | refine vB (by rfl) (by rfl) ?_ | refine vC (by rfl) (by rfl) ?_)) | (refine bC ?_; try (first | (refine tS (by rfl) ?_; try (first | refine yU (by rfl) (by rfl) ?_ | refine yM (by rfl) (by rfl) ?_ | refine yU (yJ _ _) (by rfl) ?_ | refine yM (yJ _ _) (by rfl) ?_)) | (refine tT (by rfl) ?_; try (first | refine uJ (by omega) (by omega) ?_ | refine xZ (Nat.le_of_ble_eq_true (by rfl)) ?_ | refine xC (by rfl) (by rfl) (by rfl) (by omega) ?_)))) | refine tV (by rfl) (by rfl) (by rfl) (by rfl) (Nat.le_of_ble_eq_true (by rfl)) ?_ | (refine pQ (by rfl) (by rfl) ?_; try (first | refine xC (by rfl) (by rfl) (by rfl) (Nat.le_of_ble_eq_true (by rfl)) ?_ | refine xC (by rfl) (by rfl) (by rfl) (by omega) ?_)) | refine jX (by rfl) (by rfl) ?_ | refine x_box (by rfl) (by rfl) ?_ | refine jO ?_ | refine gF (by rfl) ?_ | refine x_app ?_ | refine bB ?_ | refine jM ?_ | refine jN (by rfl) (by rfl) (by rfl) (by rfl) ?_ | refine qZ (by rfl) (by rfl) (by rfl) ?_)) | (refine o_nil ?_; try (first | refine s_n ?_ | refine s_r ?_ | refine s_e ?_ | refine k_n ?_ | refine k_r ?_ | refine k_e (by rfl) ?_ | refine k_o (by rfl) ?_ | refine l_r ?_ | refine l_e ?_ | refine b_r ?_ | refine b_n ?_)) | refine o_guard (by rfl) ?_ | refine o_guardT (by rfl) ?_ | refine o_none ?_ | refine o_guardN (by rfl) ?_) | (refine g_f ?_; first | refine f_seq ?_ | refine f_reg ?_ | (refine f_cond (by rfl) ?_; try (first | refine c_t (by rfl) ?_ | refine c_f (by rfl) ?_)) | refine f_block ?_ | refine f_skip ?_ | refine f_ret ?_ | refine f_exit ?_ | refine f_regD0 ?_ | refine f_regD ?_) | (refine g_s ?_; first | refine s_n ?_ | refine s_r ?_ | refine s_e ?_) | (refine g_d ?_; first | (refine jZ (T:=none) (by rfl) (by rfl) ?_; try (first | (refine xd_q (by rfl) ?_; try (first | refine q_mv (by rfl) ?_ | refine wZ (by rfl) ?_ | (refine tJ ?_; try (first | refine tX (by rfl) (by assumption) ?_ | refine vK (by rfl) (by assumption) ?_ | refine vL (by rfl) ?_ | refine wE (by rfl) ?_ | refine wD (by rfl) ?_)) | (refine tL ?_; try (first | refine tY (by rfl) (by rfl) (by assumption) (by omega) (by omega) ?_ | refine wW (by rfl) (by rfl) (by assumption) (by omega) (by omega) ?_ | refine vJ (by rfl) (by rfl) (by decide) (by decide) ?_ | refine yL (by rfl) (by rfl) (by decide) (by decide) ?_ | refine vD (by rfl) (by rfl) (by decide) (by decide) ?_ | refine yL (by rfl) (by rfl) (by omega) (by omega) ?_)) | refine q_cm (by rfl) (by rfl) ?_ | refine q_ar (by rfl) (by rfl) (by rfl) ?_ | refine vW (by rfl) ?_ | (refine tP ?_; try (first | refine wP (by rfl) ?_ | refine wQ (by rfl) ?_ | refine vM (by rfl) ?_)) | refine tO (by rfl) (by rfl) ?_ | refine wY (by rfl) ?_ | refine vA (by rfl) ?_ | refine tF (by rfl) (by rfl) (by first | decide | omega) ?_ | refine tE (by rfl) (by rfl) (by first | decide | omega) ?_ | refine tQ (by rfl) (by rfl) ?_ | refine tR (by rfl) (by rfl) (by rfl) ?_ | refine tH (by rfl) ?_ | refine tG (by rfl) ?_ | refine wG (by rfl) (by rfl) ?_ | refine wH (by rfl) (by rfl) ?_ | refine tD ?_ | refine tK ?_ | refine tN (by rfl) (by rfl) ?_ | refine vV (by rfl) (by rfl) ?_ | refine wJ (by rfl) ?_ | refine q_mx (by rfl) (by rfl) ?_ | refine q_mn (by rfl) (by rfl) ?_ | refine tI (by rfl) (by rfl) (by rfl) ?_ | refine tM (by rfl) ?_ | refine vX (by rfl) ?_ | refine vY (by rfl) ?_ | refine wI (by rfl) ?_ | refine vB (by rfl) (by rfl) ?_ | refine vC (by rfl) (by rfl) ?_)) | (refine sL ?_; try (first | (refine tS (by rfl) ?_; try (first | refine yU (by rfl) (by rfl) ?_ | refine yM (by rfl) (by rfl) ?_ | refine yU (yJ _ _) (by rfl) ?_ | refine yM (yJ _ _) (by rfl) ?_)) | (refine tT (by rfl) ?_; try (first | refine uJ (by omega) (by omega) ?_ | refine xZ (Nat.le_of_ble_eq_true (by rfl)) ?_ | refine xC (by rfl) (by rfl) (by rfl) (by omega) ?_)))) | refine vN (by rfl) (by rfl) (by rfl) (by rfl) (Nat.le_of_ble_eq_true (by rfl)) ?_ | (refine uQ (by rfl) (by rfl) ?_; try (first | refine xC (by rfl) (by rfl) (by rfl) (Nat.le_of_ble_eq_true (by rfl)) ?_ | refine xC (by rfl) (by rfl) (by rfl) (by omega) ?_)) | refine sM (by rfl) (by rfl) ?_ | refine pJ (by rfl) (by rfl) (by rfl) ?_ | refine uR (by rfl) ?_ | refine sO (by rfl) (by rfl) ?_)) | (refine jZ (by rfl) (by rfl) ?_; try (first | (refine xd_q (by rfl) ?_; try (first | refine q_mv (by rfl) ?_ | refine wZ (by rfl) ?_ | (refine tJ ?_; try (first | refine tX (by rfl) (by assumption) ?_ | refine vK (by rfl) (by assumption) ?_ | refine vL (by rfl) ?_ | refine wE (by rfl) ?_ | refine wD (by rfl) ?_)) | (refine tL ?_; try (first | refine tY (by rfl) (by rfl) (by assumption) (by omega) (by omega) ?_ | refine wW (by rfl) (by rfl) (by assumption) (by omega) (by omega) ?_ | refine vJ (by rfl) (by rfl) (by decide) (by decide) ?_ | refine yL (by rfl) (by rfl) (by decide) (by decide) ?_ | refine vD (by rfl) (by rfl) (by decide) (by decide) ?_ | refine yL (by rfl) (by rfl) (by omega) (by omega) ?_)) | refine q_cm (by rfl) (by rfl) ?_ | refine q_ar (by rfl) (by rfl) (by rfl) ?_ | refine vW (by rfl) ?_ | (refine tP ?_; try (first | refine wP (by rfl) ?_ | refine wQ (by rfl) ?_ | refine vM (by rfl) ?_)) | refine tO (by rfl) (by rfl) ?_ | refine wY (by rfl) ?_ | refine vA (by rfl) ?_ | refine tF (by rfl) (by rfl) (by first | decide | omega) ?_ | refine tE (by rfl) (by rfl) (by first | decide | omega) ?_ | refine tQ (by rfl) (by rfl) ?_ | refine tR (by rfl) (by rfl) (by rfl) ?_ | refine tH (by rfl) ?_ | refine tG (by rfl) ?_ | refine wG (by rfl) (by rfl) ?_ | refine wH (by rfl) (by rfl) ?_ | refine tD ?_ | refine tK ?_ | refine tN (by rfl) (by rfl) ?_ | refine vV (by rfl) (by rfl) ?_ | refine wJ (by rfl) ?_ | refine q_mx (by rfl) (by rfl) ?_ | refine q_mn (by rfl) (by rfl) ?_ | refine tI (by rfl) (by rfl) (by rfl) ?_ | refine tM (by rfl) ?_ | refine vX (by rfl) ?_ | refine vY (by rfl) ?_ | refine wI (by rfl) ?_ | refine vB (by rfl) (by rfl) ?_ | refine vC (by rfl) (by rfl) ?_)) | (refine sL ?_; try (first | (refine tS (by rfl) ?_; try (first | refine yU (by rfl) (by rfl) ?_ | refine yM (by rfl) (by rfl) ?_ | refine yU (yJ _ _) (by rfl) ?_ | refine yM (yJ _ _) (by rfl) ?_)) | (refine tT (by rfl) ?_; try (first | refine uJ (by omega) (by omega) ?_ | refine xZ (Nat.le_of_ble_eq_true (by rfl)) ?_ | refine xC (by rfl) (by rfl) (by rfl) (by omega) ?_)))) | refine vN (by rfl) (by rfl) (by rfl) (by rfl) (Nat.le_of_ble_eq_true (by rfl)) ?_ | (refine uQ (by rfl) (by rfl) ?_; try (first | refine xC (by rfl) (by rfl) (by rfl) (Nat.le_of_ble_eq_true (by rfl)) ?_ | refine xC (by rfl) (by rfl) (by rfl) (by omega) ?_)) | refine sM (by rfl) (by rfl) ?_ | refine pJ (by rfl) (by rfl) (by rfl) ?_ | refine uR (by rfl) ?_ | refine sO (by rfl) (by rfl) ?_)) | (refine d_nil ?_; try (first | refine s_n ?_ | refine s_r ?_ | refine s_e ?_ | refine k_n ?_ | refine k_r ?_ | refine k_e (by rfl) ?_ | refine k_o (by rfl) ?_ | refine l_r ?_ | refine l_e ?_ | refine b_r ?_ | refine b_n ?_)) | refine d_none (by rfl) (by rfl) ?_ | refine d_guard (by rfl) (by rfl) (by rfl) ?_) | (refine g_x ?_; first | (refine x_q (by rfl) ?_; try (first | refine q_mv (by rfl) ?_ | refine wZ (by rfl) ?_ | (refine tJ ?_; try (first | refine tX (by rfl) (by assumption) ?_ | refine vK (by rfl) (by assumption) ?_ | refine vL (by rfl) ?_ | refine wE (by rfl) ?_ | refine wD (by rfl) ?_)) | (refine tL ?_; try (first | refine tY (by rfl) (by rfl) (by assumption) (by omega) (by omega) ?_ | refine wW (by rfl) (by rfl) (by assumption) (by omega) (by omega) ?_ | refine vJ (by rfl) (by rfl) (by decide) (by decide) ?_ | refine yL (by rfl) (by rfl) (by decide) (by decide) ?_ | refine vD (by rfl) (by rfl) (by decide) (by decide) ?_ | refine yL (by rfl) (by rfl) (by omega) (by omega) ?_)) | refine q_cm (by rfl) (by rfl) ?_ | refine q_ar (by rfl) (by rfl) (by rfl) ?_ | refine vW (by rfl) ?_ | (refine tP ?_; try (first | refine wP (by rfl) ?_ | refine wQ (by rfl) ?_ | refine vM (by rfl) ?_)) | refine tO (by rfl) (by rfl) ?_ | refine wY (by rfl) ?_ | refine vA (by rfl) ?_ | refine tF (by rfl) (by rfl) (by first | decide | omega) ?_ | refine tE (by rfl) (by rfl) (by first | decide | omega) ?_ | refine tQ (by rfl) (by rfl) ?_ | refine tR (by rfl) (by rfl) (by rfl) ?_ | refine tH (by rfl) ?_ | refine tG (by rfl) ?_ | refine wG (by rfl) (by rfl) ?_ | refine wH (by rfl) (by rfl) ?_ | refine tD ?_ | refine tK ?_ | refine tN (by rfl) (by rfl) ?_ | refine vV (by rfl) (by rfl) ?_ | refine wJ (by rfl) ?_ | refine q_mx (by rfl) (by rfl) ?_ | refine q_mn (by rfl) (by rfl) ?_ | refine tI (by rfl) (by rfl) (by rfl) ?_ | refine tM (by rfl) ?_ | refine vX (by rfl) ?_ | refine vY (by rfl) ?_ | refine wI (by rfl) ?_ | refine vB (by rfl) (by rfl) ?_ | refine vC (by rfl) (by rfl) ?_)) | (refine bC ?_; try (first | (refine tS (by rfl) ?_; try (first | refine yU (by rfl) (by rfl) ?_ | refine yM (by rfl) (by rfl) ?_ | refine yU (yJ _ _) (by rfl) ?_ | refine yM (yJ _ _) (by rfl) ?_)) | (refine tT (by rfl) ?_; try (first | refine uJ (by omega) (by omega) ?_ | refine xZ (Nat.le_of_ble_eq_true (by rfl)) ?_ | refine xC (by rfl) (by rfl) (by rfl) (by omega) ?_)))) | refine tV (by rfl) (by rfl) (by rfl) (by rfl) (Nat.le_of_ble_eq_true (by rfl)) ?_ | (refine pQ (by rfl) (by rfl) ?_; try (first | refine xC (by rfl) (by rfl) (by rfl) (Nat.le_of_ble_eq_true (by rfl)) ?_ | refine xC (by rfl) (by rfl) (by rfl) (by omega) ?_)) | refine jX (by rfl) (by rfl) ?_ | refine x_box (by rfl) (by rfl) ?_ | refine jO ?_ | refine gF (by rfl) ?_ | refine x_app ?_ | refine bB ?_ | refine jM ?_ | refine jN (by rfl) (by rfl) (by rfl) (by rfl) ?_ | refine qZ (by rfl) (by rfl) (by rfl) ?_) | (refine g_q ?_; first | refine q_mv (by rfl) ?_ | refine wZ (by rfl) ?_ | (refine tJ ?_; try (first | refine tX (by rfl) (by assumption) ?_ | refine vK (by rfl) (by assumption) ?_ | refine vL (by rfl) ?_ | refine wE (by rfl) ?_ | refine wD (by rfl) ?_)) | (refine tL ?_; try (first | refine tY (by rfl) (by rfl) (by assumption) (by omega) (by omega) ?_ | refine wW (by rfl) (by rfl) (by assumption) (by omega) (by omega) ?_ | refine vJ (by rfl) (by rfl) (by decide) (by decide) ?_ | refine yL (by rfl) (by rfl) (by decide) (by decide) ?_ | refine vD (by rfl) (by rfl) (by decide) (by decide) ?_ | refine yL (by rfl) (by rfl) (by omega) (by omega) ?_)) | refine q_cm (by rfl) (by rfl) ?_ | refine q_ar (by rfl) (by rfl) (by rfl) ?_ | refine vW (by rfl) ?_ | (refine tP ?_; try (first | refine wP (by rfl) ?_ | refine wQ (by rfl) ?_ | refine vM (by rfl) ?_)) | refine tO (by rfl) (by rfl) ?_ | refine wY (by rfl) ?_ | refine vA (by rfl) ?_ | refine tF (by rfl) (by rfl) (by first | decide | omega) ?_ | refine tE (by rfl) (by rfl) (by first | decide | omega) ?_ | refine tQ (by rfl) (by rfl) ?_ | refine tR (by rfl) (by rfl) (by rfl) ?_ | refine tH (by rfl) ?_ | refine tG (by rfl) ?_ | refine wG (by rfl) (by rfl) ?_ | refine wH (by rfl) (by rfl) ?_ | refine tD ?_ | refine tK ?_ | refine tN (by rfl) (by rfl) ?_ | refine vV (by rfl) (by rfl) ?_ | refine wJ (by rfl) ?_ | refine q_mx (by rfl) (by rfl) ?_ | refine q_mn (by rfl) (by rfl) ?_ | refine tI (by rfl) (by rfl) (by rfl) ?_ | refine tM (by rfl) ?_ | refine vX (by rfl) ?_ | refine vY (by rfl) ?_ | refine wI (by rfl) ?_ | refine vB (by rfl) (by rfl) ?_ | refine vC (by rfl) (by rfl) ?_) | (refine g_c ?_; first | refine c_t (by rfl) ?_ | refine c_f (by rfl) ?_) | (refine g_k ?_; first | refine k_n ?_ | refine k_r ?_ | refine k_e (by rfl) ?_ | refine k_o (by rfl) ?_) | (refine g_lo ?_; first | refine l_r ?_ | refine l_e ?_) | (refine g_xd ?_; first | (refine xd_q (by rfl) ?_; try (first | refine q_mv (by rfl) ?_ | refine wZ (by rfl) ?_ | (refine tJ ?_; try (first | refine tX (by rfl) (by assumption) ?_ | refine vK (by rfl) (by assumption) ?_ | refine vL (by rfl) ?_ | refine wE (by rfl) ?_ | refine wD (by rfl) ?_)) | (refine tL ?_; try (first | refine tY (by rfl) (by rfl) (by assumption) (by omega) (by omega) ?_ | refine wW (by rfl) (by rfl) (by assumption) (by omega) (by omega) ?_ | refine vJ (by rfl) (by rfl) (by decide) (by decide) ?_ | refine yL (by rfl) (by rfl) (by decide) (by decide) ?_ | refine vD (by rfl) (by rfl) (by decide) (by decide) ?_ | refine yL (by rfl) (by rfl) (by omega) (by omega) ?_)) | refine q_cm (by rfl) (by rfl) ?_ | refine q_ar (by rfl) (by rfl) (by rfl) ?_ | refine vW (by rfl) ?_ | (refine tP ?_; try (first | refine wP (by rfl) ?_ | refine wQ (by rfl) ?_ | refine vM (by rfl) ?_)) | refine tO (by rfl) (by rfl) ?_ | refine wY (by rfl) ?_ | refine vA (by rfl) ?_ | refine tF (by rfl) (by rfl) (by first | decide | omega) ?_ | refine tE (by rfl) (by rfl) (by first | decide | omega) ?_ | refine tQ (by rfl) (by rfl) ?_ | refine tR (by rfl) (by rfl) (by rfl) ?_ | refine tH (by rfl) ?_ | refine tG (by rfl) ?_ | refine wG (by rfl) (by rfl) ?_ | refine wH (by rfl) (by rfl) ?_ | refine tD ?_ | refine tK ?_ | refine tN (by rfl) (by rfl) ?_ | refine vV (by rfl) (by rfl) ?_ | refine wJ (by rfl) ?_ | refine q_mx (by rfl) (by rfl) ?_ | refine q_mn (by rfl) (by rfl) ?_ | refine tI (by rfl) (by rfl) (by rfl) ?_ | refine tM (by rfl) ?_ | refine vX (by rfl) ?_ | refine vY (by rfl) ?_ | refine wI (by rfl) ?_ | refine vB (by rfl) (by rfl) ?_ | refine vC (by rfl) (by rfl) ?_)) | (refine sL ?_; try (first | (refine tS (by rfl) ?_; try (first | refine yU (by rfl) (by rfl) ?_ | refine yM (by rfl) (by rfl) ?_ | refine yU (yJ _ _) (by rfl) ?_ | refine yM (yJ _ _) (by rfl) ?_)) | (refine tT (by rfl) ?_; try (first | refine uJ (by omega) (by omega) ?_ | refine xZ (Nat.le_of_ble_eq_true (by rfl)) ?_ | refine xC (by rfl) (by rfl) (by rfl) (by omega) ?_)))) | refine vN (by rfl) (by rfl) (by rfl) (by rfl) (Nat.le_of_ble_eq_true (by rfl)) ?_ | (refine uQ (by rfl) (by rfl) ?_; try (first | refine xC (by rfl) (by rfl) (by rfl) (Nat.le_of_ble_eq_true (by rfl)) ?_ | refine xC (by rfl) (by rfl) (by rfl) (by omega) ?_)) | refine sM (by rfl) (by rfl) ?_ | refine pJ (by rfl) (by rfl) (by rfl) ?_ | refine uR (by rfl) ?_ | refine sO (by rfl) (by rfl) ?_) | (refine g_l ?_; first | (refine tS (by rfl) ?_; try (first | refine yU (by rfl) (by rfl) ?_ | refine yM (by rfl) (by rfl) ?_ | refine yU (yJ _ _) (by rfl) ?_ | refine yM (yJ _ _) (by rfl) ?_)) | (refine tT (by rfl) ?_; try (first | refine uJ (by omega) (by omega) ?_ | refine xZ (Nat.le_of_ble_eq_true (by rfl)) ?_ | refine xC (by rfl) (by rfl) (by rfl) (by omega) ?_))) | (refine g_len ?_; first | refine tX (by rfl) (by assumption) ?_ | refine vK (by rfl) (by assumption) ?_ | refine vL (by rfl) ?_ | refine wE (by rfl) ?_ | refine wD (by rfl) ?_) | (refine g_nil ?_; first | refine wP (by rfl) ?_ | refine wQ (by rfl) ?_ | refine vM (by rfl) ?_) | (refine g_iad ?_; first | refine tY (by rfl) (by rfl) (by assumption) (by omega) (by omega) ?_ | refine wW (by rfl) (by rfl) (by assumption) (by omega) (by omega) ?_ | refine vJ (by rfl) (by rfl) (by decide) (by decide) ?_ | refine yL (by rfl) (by rfl) (by decide) (by decide) ?_ | refine vD (by rfl) (by rfl) (by decide) (by decide) ?_ | refine yL (by rfl) (by rfl) (by omega) (by omega) ?_) | (refine g_box ?_; first | refine yU (by rfl) (by rfl) ?_ | refine yM (by rfl) (by rfl) ?_ | refine yU (yJ _ _) (by rfl) ?_ | refine yM (yJ _ _) (by rfl) ?_) | (refine g_cells ?_; first | refine uJ (by omega) (by omega) ?_ | refine xZ (Nat.le_of_ble_eq_true (by rfl)) ?_) | (refine g_st ?_; first | refine xC (by rfl) (by rfl) (by rfl) (Nat.le_of_ble_eq_true (by rfl)) ?_) | (refine g_b ?_; first | refine b_r ?_ | refine b_n ?_) | (refine g_r ?_; first | refine r_tmp (by rfl) ?_ | refine r_cell ?_ | refine r_nil ?_))
 exact hgo.out):A:=h ⟨k⟩
def tA (l:List R2):Prop:=∀ p∈l,wL p.1 p.2
theorem wA {α:Type} {l:List α} {i:Nat} (h:i<l.length):l.take (i+1)=l.take i++[l[i]]:=by
 rw [List.take_succ_eq_append_getElem h]
theorem ne_pair (p q:R2) (X:Bool):(bif true then !(p.1 == q.1 && (p.2 == q.2 && true)) else X)=!(dec (p=q)):=by
 cases h:dec (p=q)
 ·have h':=yK.1 h
  cases h1:p.1 == q.1 && (p.2 == q.2 && true)
  ·rfl
  ·simp at h1
   exact absurd (Prod.ext h1.1 h1.2) h'
 ·have h':=yE.1 h
  subst h'
  simp
section
variable {α:Type} {E:El α}
structure Fill (E:El α) (z:List C) (n:Nat) (cells:List C) (l:List α):Prop where
 out:∃ ds,cells=ds++(List.replicate (n - l.length) z).flatten∧Els E ds l
 le:l.length≤n
 z:z.length=E.s
theorem flat_len (z:List C) (n:Nat):(List.replicate n z).flatten.length=n*z.length:=by simp
theorem Fill.zero {z:List C} {n:Nat} (hz:z.length=E.s):Fill E z n (List.replicate n z).flatten []:=⟨⟨[],by simp,.nil⟩,by simp,hz⟩
theorem Fill.len {z:List C} {n:Nat} {cells:List C} {l:List α} (h:Fill E z n cells l):cells.length=n*E.s:=by
 obtain ⟨ds,rfl,h1⟩:=h.out
 have:=h.le
 rw [List.length_append,h1.len,flat_len,h.z,←Nat.add_mul]
 congr 1
 omega
theorem Fill.put {z:List C} {n:Nat} {cells cs:List C} {l:List α} {a:α} (h:Fill E z n cells l) (hl:l.length<n) (ha:E.p cs a):Fill E z n (splice cells (l.length*E.s) cs) (l++[a]):=by
 obtain ⟨ds,rfl,h1⟩:=h.out
 refine ⟨⟨ds++cs,?_,h1.snoc ha⟩,by simp; omega,h.z⟩
 have e:n - l.length=(n - (l++[a]).length)+1:=by simp; omega
 have hd:=h1.len
 have hcs:=E.len ha
 rw [e,List.replicate_succ,List.flatten_cons]
 unfold splice
 rw [←hd,List.take_left,List.drop_append,List.drop_of_length_le (by omega),Nat.add_sub_cancel_left,List.nil_append,hcs,←h.z,List.drop_left]
theorem Fill.done {z:List C} {n:Nat} {cells:List C} {l:List α} (h:Fill E z n cells l) (hl:l.length=n):Els E cells l:=by
 obtain ⟨ds,rfl,h1⟩:=h.out
 rw [hl,Nat.sub_self]
 simpa using h1
end
theorem map_take' {l:List R2} {i:Nat} (h:i<l.length):(l.take (i+1)).map rt=(l.take i).map rt++[rt l[i]]:=by
 rw [wA h,List.map_append]
 rfl
theorem tA.step {l:List R2} {i:Nat} (h:i<l.length) (h1:tA (l.take i)) (h2:wL l[i].1 l[i].2):tA (l.take (i+1)):=by
 intro p hp
 rw [wA h] at hp
 rcases List.mem_append.1 hp with hp | hp
 ·exact h1 p hp
 ·simp at hp
  subst hp
  exact h2
attribute [local irreducible] yA semH semC qLen qNil qIad qSlc qIdx yW yI xA appX appI slcX awpF yP xH xopF xM qval lval seqQ xJ xY xU xR cnd arith IntKind.wrap
theorem num_In {c:C} {l:List R2} (hc:Ls elP c l) (hv:tA l) (hl:l.length<1073741824):semC Try.prog n_num_In [.c c] (LsK (elQ 2) (l.map rt)):=by
 refine yD ok_num_In rfl (show HFVs [.c c] from ⟨hc.hf,trivial⟩) ?_
 refine go5 ?_
 refine vQ (by rfl) (by rfl) ⟨by omega,by omega,by omega,by omega⟩ ?_
 refine go5 ?_
 refine yX (fun n vs H => ∃ (i:Nat) (cells:List C) (R:Hp),vs=[.c (.sl 0 0 l.length (some l.length) 6),.c c,i64 l.length,i64 i]∧H=.live ⟨cells,yR,.rw⟩ :: R∧n=l.length - i∧i≤l.length∧Fill (elQ 2) jR l.length cells ((l.take i).map rt)) (by rfl) ⟨0,_,_,rfl,rfl,rfl,by omega,.zero rfl⟩ ?_
 rintro n vs H ⟨i,cells,R,rfl,rfl,rfl,h1,h2⟩
 refine go5 ?_
 cases hq:yA Cm.lss (i:Int) (l.length:Int)
 ·simp [yA] at hq
  have ei:i=l.length:=by omega
  subst ei
  rw [List.take_length] at h2
  have h3:=h2.done (by simp)
  refine go5 ?_
  have h4:=Ls.imm h3
  rw [List.length_map] at h4
  exact ⟨_,.c (.sl (bx:=⟨cells,yR,.rw⟩) (by rfl) (by simp) (by simp) (by
   rw [List.drop_zero,List.take_of_length_le (by rw [h2.len]; exact Nat.le_refl _)]
   exact .hf h3.hf)),_,rfl,h4⟩
 ·simp [yA] at hq
  refine go5 ?_
  refine uX hc hq (by omega) rfl (fun cs hcs => ?_)
  obtain rfl:=hcs
  refine go5 ?_
  refine yB (q_Of (hv _ (wX hq))) (fun u hu => ?_)
  obtain ⟨ds,rfl,hd⟩:=hu
  obtain ⟨_,_,_,_,_,_,rfl⟩:=id hd.six
  have hlen:cells.length=l.length*6:=h2.len
  have htl:((l.take i).map rt).length=i:=by simp; omega
  refine go5 ?_
  rw [xL i (by omega)]
  have h3:=h2.put (by omega) hd
  rw [htl,←map_take' hq] at h3
  exact l_n (by rfl) (by omega) ⟨i+1,_,R++[_],rfl,rfl,rfl,by omega,by rw [show 0+((i:Nat):Int).toNat*6=i*6 by omega]; exact h3⟩
theorem num_Q_IsZero {k:Nat} {cs:List C} {q:Rat} (hx:IQ k cs q):semC Try.prog n_num_Q_IsZero [.agg cs] (sJ (q=0)):=by
 refine yD ok_num_Q_IsZero rfl (show HFVs [.agg cs] from ⟨hx.hf,trivial⟩) ?_
 obtain ⟨a,b,c,d,e,f,rfl,h1,h2⟩:=hx.is.six
 refine go5 ?_
 refine yB (pL h1) (fun u hu => ?_)
 obtain rfl:=hu
 refine go5 ?_
 refine sJ.fz ?_
 have:yA Cm.eql (sgn (rp q).1) 0=true↔sgn (rp q).1=0:=by simp [yA]
 rw [this,sgn_zero_iff]
 exact Rat.num_eq_zero
end Go.Proofs.Ytokckcnfojjpjaa

namespace Go.Proofs.Ytokckcnfojjpjaa
open Go.RowKit
set_option maxRecDepth 20000
section
variable {α:Type} {E:El α}
theorem Out.le {el:TypeId} {m m':Nat} {H:Hp} {c:C} {l:List α} (h:Out E el m H c l) (hm:m'≤m):Out E el m' H c l:=by
 cases h with
 | nil => exact .nil
 | sl h1 hb hn hc h => exact .sl (by omega) hb hn hc h
end
def delayL (size:Nat) (first:R2) (l:List R2):List R2:=(List.replicate size first++l).take l.length
noncomputable def delayR (size:Int) (first:R2) (l:List R2):List R2 × Int :=
 bif dec (size<0∨64<size) then ([],1) else bif dec (64<l.length) then ([],3) else bif dec (wL first.1 first.2∧tA l) then (delayL size.toNat first l,0) else ([],1)
def DelK (size:Int) (first:R2) (l:List R2) (u:V):Prop:=∃ c,u=.tup [.c c,i64 (delayR size first l).2]∧Ls elP c (delayR size first l).1
theorem DelK.ok {size:Int} {first:R2} {l m:List R2} {H:Hp} {c:C} {el:TypeId} (h:delayR size first l=(m,0)) (ho:Out elP el 0 H c m):∃ d,FzV H (.tup [.c c,i64 0]) d∧DelK size first l d:=by
 obtain ⟨d,h1,h2⟩:=ho.fz (p:=(·≠.bor)) (by simp)
 exact ⟨_,.tup (.cons (.c h1) (.cons (.c (.hf trivial)) .nil)),d,by rw [h]; rfl,by rw [h]; exact h2⟩
attribute [local irreducible] yA semH semC qLen qNil qIad qSlc qIdx yW yI xA appX appI slcX awpF yP xH xopF xM qval lval seqQ xJ xY xU xR cnd arith IntKind.wrap
end Go.Proofs.Ytokckcnfojjpjaa

namespace Go.Proofs.Ytokckcnfojjpjaa
open Go.RowKit
set_option maxRecDepth 20000
def ev:List Rat→Rat→Rat
 | [],_ => 0
 | a :: l,x => a+x*ev l x
theorem ev_append:∀ (l m:List Rat) (x:Rat),ev (l++m) x=ev l x+x ^ l.length*ev m x
 | [],m,x => by
  simp only [List.nil_append,List.length_nil,ev,Rat.pow_zero]
  grind
 | a :: l,m,x => by
  simp only [List.cons_append,List.length_cons,ev,ev_append l m x,Rat.pow_succ]
  grind
theorem ev_one (a x:Rat):ev [a] x=a:=by
 simp only [ev]
 grind
theorem ev_take {l:List Rat} {i:Nat} (h:i<l.length) (x:Rat):ev (l.take (i+1)) x=ev (l.take i) x+x ^ i*l[i]:=by
 rw [wA h,ev_append,ev_one,List.length_take,Nat.min_eq_left (by omega)]
theorem ev_set:∀ {l:List Rat} {i:Nat} (h:i<l.length) (b x:Rat),ev (l.set i b) x=ev l x+x ^ i*(b - l[i])
 | a :: l,0,h,b,x => by
  simp only [List.set_cons_zero,ev,List.getElem_cons_zero,Rat.pow_zero]
  grind
 | a :: l,i+1,h,b,x => by
  have h':i<l.length:=Nat.lt_of_succ_lt_succ h
  simp only [List.set_cons_succ,ev,List.getElem_cons_succ,ev_set h' b x,Rat.pow_succ]
  grind
def Top (l:List Rat):Prop:=∀ h:0<l.length,l[l.length - 1]≠0
def PolyK (E:El Rat) (R:List Rat→Prop) (u:V):Prop:=∃ c m,u=.c c∧Ls E c m∧R m
theorem PolyK.fz {E:El Rat} {R:List Rat→Prop} {m:List Rat} {c:C} {H:Hp} (h:Ls E c m) (r:R m):∃ d,FzV H (.c c) d∧PolyK E R d:=⟨_,.c (.hf h.hf),c,m,rfl,h,r⟩
theorem Sz.mulT {k m:Nat} {a b:Int} (h1:Sz k a) (h2:Sz m b):Sz (k+m) (a*b):=by
 unfold Sz at *
 rw [Int.natAbs_mul,Nat.pow_add]
 exact Nat.mul_lt_mul'' h1 h2
theorem Sz.add2 {k m:Nat} {a b:Int} (h1:Sz k a) (h2:Sz k b) (hm:k+1≤m):Sz m (a+b):=(h1.add h2).up hm
attribute [local irreducible] yA semH semC qLen qNil qIad qSlc qIdx yW yI xA appX appI slcX awpF yP xH xopF xM qval lval seqQ xJ xY xU xR cnd arith IntKind.wrap
theorem pR {k m:Nat} {cs ds:List C} {a b:Rat} (hx:IQ k cs a) (hy:IQ m ds b) (hk:k+m+1≤134217728):semC Try.prog n_num_Q_Add [.agg cs,.agg ds] (QV (k+m+1) (a+b)):=by
 have s1:Sz (k+m+1) _:=(hx.bd.n.mulT hy.bd.d).add2 ((hy.bd.n.mulT hx.bd.d).up (show m+k≤k+m by omega)) (Nat.le_refl _)
 have s2:Sz (k+m+1) _:=(hx.bd.d.mulT hy.bd.d).up (by omega)
 have hx':=hx.up (show k≤k+m by omega)
 have hy':=hy.up (show m≤k+m by omega)
 exact uO (fun u hu => hu.rat (dd_ne a b) (rat_add a b) s1 s2) (num_Q_Add (Sz.cl (by omega)) (quoOk (by omega)) hx.is hy.is hx'.bd hy'.bd (by omega) s1 s2)
theorem q_Sub2 {k m:Nat} {cs ds:List C} {a b:Rat} (hx:IQ k cs a) (hy:IQ m ds b) (hk:k+m+1≤134217728):semC Try.prog n_num_Q_Sub [.agg cs,.agg ds] (QV (k+m+1) (a - b)):=by
 have s1:Sz (k+m+1) _:=(hx.bd.n.mulT hy.bd.d).add2 ((hy.bd.n.neg.mulT hx.bd.d).up (show m+k≤k+m by omega)) (Nat.le_refl _)
 have s2:Sz (k+m+1) _:=(hx.bd.d.mulT hy.bd.d).up (by omega)
 have hx':=hx.up (show k≤k+m by omega)
 have hy':=hy.up (show m≤k+m by omega)
 exact uO (fun u hu => hu.rat (dd_ne a b) (rat_sub a b) s1 s2) (num_Q_Sub (Sz.cl (by omega)) (quoOk (by omega)) hx.is hy.is hx'.bd hy'.bd (by omega) s1 s2)
theorem sG {k m:Nat} {cs ds:List C} {a b:Rat} (hx:IQ k cs a) (hy:IQ m ds b) (hk:k+m≤134217728):semC Try.prog n_num_Q_Mul [.agg cs,.agg ds] (QV (k+m) (a*b)):=by
 have hx':=hx.up (show k≤k+m by omega)
 have hy':=hy.up (show m≤k+m by omega)
 exact uO (fun u hu => hu.rat (dd_ne a b) (rat_mul a b) (hx.bd.n.mulT hy.bd.n) (hx.bd.d.mulT hy.bd.d)) (num_Q_Mul (Sz.cl (show k+m≤268435456 by omega)) (quoOk (by omega)) hx.is hy.is hx'.bd hy'.bd (by omega) (hx.bd.n.mulT hy.bd.n) (hx.bd.d.mulT hy.bd.d))
theorem q_Div2 {k m:Nat} {cs ds:List C} {a b:Rat} (hx:IQ k cs a) (hy:IQ m ds b) (hk:k+m≤134217728) (h0:b≠0):semC Try.prog n_num_Q_Div [.agg cs,.agg ds] (QV (k+m) (a / b)):=by
 have s1:=hx.bd.n.mulT hy.bd.d
 have s2:=hx.bd.d.mulT hy.bd.n
 have hx':=hx.up (show k≤k+m by omega)
 have hy':=hy.up (show m≤k+m by omega)
 exact uO (fun u hu => hu.rat (Int.mul_ne_zero (Int.ne_of_gt (nI a)) (num_ne h0)) (rat_div a b h0) s1 s2) (num_Q_Div (Sz.cl (show k+m≤268435456 by omega)) (quoOk (by omega)) hx.is hy.is hx'.bd hy'.bd (by omega) (num_ne h0) s1 s2)
theorem q_Cmp2 {k m:Nat} {cs ds:List C} {a b:Rat} (hx:IQ k cs a) (hy:IQ m ds b) (hk:k+m≤268435456):semC Try.prog n_num_Q_Cmp [.agg cs,.agg ds] (IntK (cq a b)):=q_Cmp (hx.up (show k≤k+m by omega)) (hy.up (show m≤k+m by omega)) hk
end Go.Proofs.Ytokckcnfojjpjaa

namespace Go.Proofs.Ytokckcnfojjpjaa
open Go.RowKit
set_option maxRecDepth 20000
section
variable {α:Type} {E:El α}
end
theorem get_splice {cells cs:List C} {off n:Nat} (h:off≤cells.length) (hn:cs.length=n):((splice cells off cs).drop off).take n=cs:=by
 subst hn
 unfold splice
 rw [List.append_assoc,List.drop_append,List.drop_of_length_le (by simp; omega),List.nil_append,List.length_take,Nat.min_eq_left h,Nat.sub_self,List.drop_zero,List.take_left]
theorem nF {cells cs ds:List C} {off:Nat} (h:off≤cells.length) (hl:cs.length=ds.length):splice (splice cells off cs) off ds=splice cells off ds:=by
 unfold splice
 have e1:(cells.take off++cs++cells.drop (off+cs.length)).take off=cells.take off:=by
  rw [List.append_assoc,List.take_left' (by simp; omega)]
 have e2:(cells.take off++cs++cells.drop (off+cs.length)).drop (off+ds.length)=cells.drop (off+ds.length):=by
  rw [←hl]
  have:(cells.take off++cs).length=off+cs.length:=by simp; omega
  rw [List.drop_left' this]
 rw [e1,e2]
theorem pK {cells cs:List C} {off:Nat} (h:off+cs.length≤cells.length):(splice cells off cs).length=cells.length:=by
 unfold splice
 simp
 omega
structure IsProd (p q m:List Rat):Prop where
 ev:∀ x,ev m x=ev p x*ev q x
 len:m.length≤p.length+q.length - 1
 nil:p=[]∨q=[]→m=[]
 top:Top m
theorem IsProd.none {p q:List Rat} (h:p=[]∨q=[]):IsProd p q []:=by
 refine ⟨fun x => ?_,by simp,fun _ => rfl,fun h => absurd h (by simp)⟩
 rcases h with rfl | rfl <;> simp only [Go.Proofs.Ytokckcnfojjpjaa.ev] <;> grind
theorem pow_add' (x:Rat) (i:Nat):∀ j,x ^ (i+j)=x ^ i*x ^ j
 | 0 => by rw [Nat.add_zero,Rat.pow_zero]; grind
 | j+1 => by
  rw [←Nat.add_assoc,Rat.pow_succ,Rat.pow_succ,pow_add' x i j]
  grind
theorem getD_lt {l:List Rat} {i:Nat} (h:i<l.length):l.getD i 0=l[i]:=by simp [h]
structure Row (p q:List Rat) (i k:Nat) (L:List Rat):Prop where
 ev:∀ x,ev L x=ev (p.take i) x*ev q x+x ^ i*(p.getD i 0*ev (q.take k) x)
theorem Row.step {p q L:List Rat} {i k:Nat} (h:Row p q i k L) (hi:i<p.length) (hk:k<q.length) (hL:i+k<L.length):Row p q i (k+1) (L.set (i+k) (L[i+k]+p[i]*q[k])):=⟨fun x => by
 rw [ev_set hL,h.ev x,ev_take hk,pow_add',getD_lt hi]
 grind⟩
theorem Row.next {p q L:List Rat} {i:Nat} (h:Row p q i q.length L) (hi:i<p.length):Row p q (i+1) 0 L:=⟨fun x => by
 rw [h.ev x,ev_take hi,List.take_length,List.take_zero,getD_lt hi]
 simp only [Go.Proofs.Ytokckcnfojjpjaa.ev]
 grind⟩
theorem Row.done {p q L:List Rat} (h:Row p q p.length 0 L) (x:Rat):Go.Proofs.Ytokckcnfojjpjaa.ev L x=Go.Proofs.Ytokckcnfojjpjaa.ev p x*Go.Proofs.Ytokckcnfojjpjaa.ev q x:=by
 rw [h.ev x,List.take_length,List.take_zero]
 simp only [Go.Proofs.Ytokckcnfojjpjaa.ev]
 grind
theorem Els.up {k m:Nat} {ds:List C} {l:List Rat} (h:Els (elQ k) ds l) (hk:k≤m):Els (elQ m) ds l:=h.mono (fun _ _ h => IQ.up h hk)
theorem Ls.up {k m:Nat} {c:C} {l:List Rat} (h:Ls (elQ k) c l) (hk:k≤m):Ls (elQ m) c l:=h.mono (fun _ _ h => IQ.up h hk)
attribute [local irreducible] yA semH semC qLen qNil qIad qSlc qIdx yW yI xA appX appI slcX awpF yP xH xopF xM qval lval seqQ xJ xY xU xR cnd arith IntKind.wrap
end Go.Proofs.Ytokckcnfojjpjaa

namespace Go.Proofs.Ytokckcnfojjpjaa
open Go.RowKit
set_option maxRecDepth 20000
section
variable {α:Type} {E:El α}
theorem Out.grow {el:TypeId} {m:Nat} {H X:Hp} {c:C} {l:List α} (h:Out E el m H c l):Out E el m (H++X) c l:=by
 cases h with
 | nil => exact .nil
 | sl hm hb hn hc h => exact .sl hm (by rw [List.getElem?_append_left (lt_of_getElem? hb)]; exact hb) hn hc h
theorem app_imm {F R:Hp} {el:TypeId} {es bytes:Nat} {s x:Option V} {K:V→Hp→Prop} {c:C} {out:List α} {cs:List C} {a:α} {H:Hp} (hH:H=F++R) (ho:Out E el F.length (F++R) c out) (hs:s=some (.c c)) (hx:x=some (.c (.imm 1 cs))) (he:E.s=es) (ha:E.p cs a) (hl:(out.length+1)*bytes≤140737488355328∧out.length+1≤140737488355328)
  (k:∀ R' c',Out E el F.length (F++R') c' (out++[a])→K (.c c') (F++R')):appX H el es bytes s x K:=by
 subst hH hs hx he
 have hlen:=E.len ha
 have hxs:sR (F++R) E.s (.imm 1 cs)=some cs:=by
  simp only [sR]
  rw [Nat.one_mul,List.take_of_length_le (Nat.le_of_eq hlen)]
 cases ho with
 | nil =>
  simp only [appX,hxs,slLen]
  refine xF (by simp [hlen]) (jJ rfl (xF ?_ ?_))
  ·simp only [List.length_nil,Nat.zero_add] at hl
   simp only [Bool.and_eq_true,yE]
   exact hl
  ·have:=k (R++[.live ⟨cs,el,.rw⟩]) (.sl (F++R).length 0 1 none E.s) (.sl (cells:=cs) (ds:=cs) (by simp) (by rw [←List.append_assoc]; exact yJ _ _) rfl (by simp only [List.nil_append,List.length_cons,List.length_nil,Nat.zero_add,Nat.one_mul,List.take_of_length_le (Nat.le_of_eq hlen)]) (.one ha))
   rw [←List.append_assoc] at this
   exact this
 | @sl b n co' cells ds l hm hb hn hc h =>
  subst hn
  have hdl:(cells.take (out.length*E.s)).length=out.length*E.s:=by rw [hc]; exact h.len
  have hle:out.length*E.s≤cells.length:=by
   rw [List.length_take] at hdl
   omega
  have hlt:=lt_of_getElem? hb
  refine app_sl (cs:=cells) (xs:=cs) (m:=1) rfl rfl hxs rfl (by rw [hlen,Nat.one_mul]) hb hle hl.1 hl.2 ?_
  have e:(F++R).set b .dead=F++R.set (b - F.length) .dead:=List.set_append_right _ _ hm
  have e':(F++R).length=(F++R.set (b - F.length) .dead).length:=by simp
  rw [e,e',List.append_assoc]
  refine k _ _ (.sl (cells:=cells.take (out.length*E.s)++cs) (ds:=ds++cs) (by simp) (by rw [←List.append_assoc]; exact yJ _ _) (by simp) ?_ (h.snoc ha))
  rw [hc]
  exact List.take_of_length_le (by rw [List.length_append,h.len,hlen]; simp [Nat.add_mul])
end
attribute [local irreducible] yA semH semC qLen qNil qIad qSlc qIdx yW yI xA appX appI slcX awpF yP xH xopF xM qval lval seqQ xJ xY xU xR cnd arith IntKind.wrap
end Go.Proofs.Ytokckcnfojjpjaa

namespace Go.Proofs.Ytokckcnfojjpjaa
open Go.RowKit
set_option maxRecDepth 20000
theorem wS (R S:Hp) (a b:Slot):((R++a :: S)++[b])[R.length]?=some a:=by simp
theorem wR (R S:Hp) (a:Slot):(R++a :: S)[R.length]?=some a:=by simp
theorem bL {P:Program} {e:Env} {H:Hp} {K:V→Hp→Prop} {el:TypeId} {zero:List C} (k:K (.c (.ptr H.length 0)) (H++[.live ⟨zero,el,.rw⟩])):xM P e (H++List.replicate (0+1) .unb) H.length (.alloc el zero) K:=by
 have e1:H++List.replicate (0+1) .unb=H++[.unb]:=rfl
 rw [e1]
 refine uR (yJ _ _) ?_
 rw [gP]
 exact k
theorem go13 {A B:Prop} (k:B) (h:Held B→A:=by
 intro hgo
 repeat (first | (refine g_o ?_; first | (refine o_some ?_; try (first | (refine x_q (by rfl) ?_; try (first | refine q_mv (by rfl) ?_ | refine wZ (by rfl) ?_ | (refine tJ ?_; try (first | refine tX (by rfl) (by assumption) ?_ | refine vK (by rfl) (by assumption) ?_ | refine vL (by rfl) ?_ | refine wE (by rfl) ?_ | refine wD (by rfl) ?_)) | (refine tL ?_; try (first | refine tY (by rfl) (by rfl) (by assumption) (by omega) (by omega) ?_ | refine wW (by rfl) (by rfl) (by assumption) (by omega) (by omega) ?_ | refine vJ (by rfl) (by rfl) (by decide) (by decide) ?_ | refine yL (by rfl) (by rfl) (by decide) (by decide) ?_ | refine vD (by rfl) (by rfl) (by decide) (by decide) ?_ | refine yL (by rfl) (by rfl) (by omega) (by omega) ?_)) | refine q_cm (by rfl) (by rfl) ?_ | refine q_ar (by rfl) (by rfl) (by rfl) ?_ | refine vW (by rfl) ?_ | (refine tP ?_; try (first | refine wP (by rfl) ?_ | refine wQ (by rfl) ?_ | refine vM (by rfl) ?_)) | refine tO (by rfl) (by rfl) ?_ | refine wY (by rfl) ?_ | refine vA (by rfl) ?_ | refine tF (by rfl) (by rfl) (by first | decide | omega) ?_ | refine tE (by rfl) (by rfl) (by first | decide | omega) ?_ | refine tQ (by rfl) (by rfl) ?_ | refine tR (by rfl) (by rfl) (by rfl) ?_ | refine tH (by rfl) ?_ | refine tG (by rfl) ?_ | refine wG (by rfl) (by rfl) ?_ | refine wH (by rfl) (by rfl) ?_ | refine tD ?_ | refine tK ?_ | refine tN (by rfl) (by rfl) ?_ | refine vV (by rfl) (by rfl) ?_ | refine wJ (by rfl) ?_ | refine q_mx (by rfl) (by rfl) ?_ | refine q_mn (by rfl) (by rfl) ?_ | refine tI (by rfl) (by rfl) (by rfl) ?_ | refine tM (by rfl) ?_ | refine vX (by rfl) ?_ | refine vY (by rfl) ?_ | refine wI (by rfl) ?_ | refine vB (by rfl) (by rfl) ?_ | refine vC (by rfl) (by rfl) ?_)) | (refine bC ?_; try (first | (refine tS (by rfl) ?_; try (first | refine yU (by rfl) (by rfl) ?_ | refine yM (by rfl) (by rfl) ?_ | refine yU (yJ _ _) (by rfl) ?_ | refine yM (yJ _ _) (by rfl) ?_ | refine yU (wS _ _ _ _) (by rfl) ?_ | refine yM (wS _ _ _ _) (by rfl) ?_ | refine yU (wR _ _ _) (by rfl) ?_ | refine yM (wR _ _ _) (by rfl) ?_)) | (refine tT (by rfl) ?_; try (first | refine qD (by assumption) (by omega) (by omega) (fun _ _ => ?_) | refine uJ (by omega) (by omega) ?_ | refine xZ (Nat.le_of_ble_eq_true (by rfl)) ?_ | refine xC (by rfl) (by rfl) (by rfl) (by omega) ?_)))) | refine tV (by rfl) (by rfl) (by rfl) (by rfl) (Nat.le_of_ble_eq_true (by rfl)) ?_ | (refine pQ (by rfl) (by rfl) ?_; try (first | refine xC (by rfl) (by rfl) (by rfl) (Nat.le_of_ble_eq_true (by rfl)) ?_ | refine xC (by rfl) (by rfl) (by rfl) (by omega) ?_)) | refine jX (by rfl) (by rfl) ?_ | refine x_box (by rfl) (by rfl) ?_ | refine jO ?_ | refine x_frzSl (by rfl) ?_ | refine x_app ?_ | refine bB ?_ | refine jM ?_ | refine jN (by rfl) (by rfl) (by rfl) (by rfl) ?_ | refine qZ (by rfl) (by rfl) (by rfl) ?_)) | (refine o_nil ?_; try (first | refine s_n ?_ | refine s_r ?_ | refine s_e ?_ | refine k_n ?_ | refine k_r ?_ | refine k_e (by rfl) ?_ | refine k_o (by rfl) ?_ | refine l_r ?_ | refine l_e ?_ | refine b_r ?_ | refine b_n ?_)) | refine o_guard (by rfl) ?_ | refine o_guardT (by rfl) ?_ | refine o_none ?_ | refine o_guardN (by rfl) ?_) | (refine g_f ?_; first | refine f_seq ?_ | refine f_reg ?_ | (refine f_cond (by rfl) ?_; try (first | refine c_t (by rfl) ?_ | refine c_f (by rfl) ?_)) | refine f_block ?_ | refine f_skip ?_ | refine f_ret ?_ | refine f_exit ?_ | refine f_regD0 ?_ | refine f_regD ?_) | (refine g_s ?_; first | refine s_n ?_ | refine s_r ?_ | refine s_e ?_) | (refine g_d ?_; first | refine d_late (T:=none) (by rfl) (by rfl) (by rfl) (by rfl) ?_ | (refine jZ (T:=none) (by rfl) (by rfl) ?_; try (first | (refine xd_q (by rfl) ?_; try (first | refine q_mv (by rfl) ?_ | refine wZ (by rfl) ?_ | (refine tJ ?_; try (first | refine tX (by rfl) (by assumption) ?_ | refine vK (by rfl) (by assumption) ?_ | refine vL (by rfl) ?_ | refine wE (by rfl) ?_ | refine wD (by rfl) ?_)) | (refine tL ?_; try (first | refine tY (by rfl) (by rfl) (by assumption) (by omega) (by omega) ?_ | refine wW (by rfl) (by rfl) (by assumption) (by omega) (by omega) ?_ | refine vJ (by rfl) (by rfl) (by decide) (by decide) ?_ | refine yL (by rfl) (by rfl) (by decide) (by decide) ?_ | refine vD (by rfl) (by rfl) (by decide) (by decide) ?_ | refine yL (by rfl) (by rfl) (by omega) (by omega) ?_)) | refine q_cm (by rfl) (by rfl) ?_ | refine q_ar (by rfl) (by rfl) (by rfl) ?_ | refine vW (by rfl) ?_ | (refine tP ?_; try (first | refine wP (by rfl) ?_ | refine wQ (by rfl) ?_ | refine vM (by rfl) ?_)) | refine tO (by rfl) (by rfl) ?_ | refine wY (by rfl) ?_ | refine vA (by rfl) ?_ | refine tF (by rfl) (by rfl) (by first | decide | omega) ?_ | refine tE (by rfl) (by rfl) (by first | decide | omega) ?_ | refine tQ (by rfl) (by rfl) ?_ | refine tR (by rfl) (by rfl) (by rfl) ?_ | refine tH (by rfl) ?_ | refine tG (by rfl) ?_ | refine wG (by rfl) (by rfl) ?_ | refine wH (by rfl) (by rfl) ?_ | refine tD ?_ | refine tK ?_ | refine tN (by rfl) (by rfl) ?_ | refine vV (by rfl) (by rfl) ?_ | refine wJ (by rfl) ?_ | refine q_mx (by rfl) (by rfl) ?_ | refine q_mn (by rfl) (by rfl) ?_ | refine tI (by rfl) (by rfl) (by rfl) ?_ | refine tM (by rfl) ?_ | refine vX (by rfl) ?_ | refine vY (by rfl) ?_ | refine wI (by rfl) ?_ | refine vB (by rfl) (by rfl) ?_ | refine vC (by rfl) (by rfl) ?_)) | (refine sL ?_; try (first | (refine tS (by rfl) ?_; try (first | refine yU (by rfl) (by rfl) ?_ | refine yM (by rfl) (by rfl) ?_ | refine yU (yJ _ _) (by rfl) ?_ | refine yM (yJ _ _) (by rfl) ?_ | refine yU (wS _ _ _ _) (by rfl) ?_ | refine yM (wS _ _ _ _) (by rfl) ?_ | refine yU (wR _ _ _) (by rfl) ?_ | refine yM (wR _ _ _) (by rfl) ?_)) | (refine tT (by rfl) ?_; try (first | refine qD (by assumption) (by omega) (by omega) (fun _ _ => ?_) | refine uJ (by omega) (by omega) ?_ | refine xZ (Nat.le_of_ble_eq_true (by rfl)) ?_ | refine xC (by rfl) (by rfl) (by rfl) (by omega) ?_)))) | refine vN (by rfl) (by rfl) (by rfl) (by rfl) (Nat.le_of_ble_eq_true (by rfl)) ?_ | (refine uQ (by rfl) (by rfl) ?_; try (first | refine xC (by rfl) (by rfl) (by rfl) (Nat.le_of_ble_eq_true (by rfl)) ?_ | refine xC (by rfl) (by rfl) (by rfl) (by omega) ?_)) | refine sM (by rfl) (by rfl) ?_ | refine pJ (by rfl) (by rfl) (by rfl) ?_ | refine bL ?_ | refine uR (by rfl) ?_ | refine bK (by rfl) ?_)) | (refine jZ (by rfl) (by rfl) ?_; try (first | (refine xd_q (by rfl) ?_; try (first | refine q_mv (by rfl) ?_ | refine wZ (by rfl) ?_ | (refine tJ ?_; try (first | refine tX (by rfl) (by assumption) ?_ | refine vK (by rfl) (by assumption) ?_ | refine vL (by rfl) ?_ | refine wE (by rfl) ?_ | refine wD (by rfl) ?_)) | (refine tL ?_; try (first | refine tY (by rfl) (by rfl) (by assumption) (by omega) (by omega) ?_ | refine wW (by rfl) (by rfl) (by assumption) (by omega) (by omega) ?_ | refine vJ (by rfl) (by rfl) (by decide) (by decide) ?_ | refine yL (by rfl) (by rfl) (by decide) (by decide) ?_ | refine vD (by rfl) (by rfl) (by decide) (by decide) ?_ | refine yL (by rfl) (by rfl) (by omega) (by omega) ?_)) | refine q_cm (by rfl) (by rfl) ?_ | refine q_ar (by rfl) (by rfl) (by rfl) ?_ | refine vW (by rfl) ?_ | (refine tP ?_; try (first | refine wP (by rfl) ?_ | refine wQ (by rfl) ?_ | refine vM (by rfl) ?_)) | refine tO (by rfl) (by rfl) ?_ | refine wY (by rfl) ?_ | refine vA (by rfl) ?_ | refine tF (by rfl) (by rfl) (by first | decide | omega) ?_ | refine tE (by rfl) (by rfl) (by first | decide | omega) ?_ | refine tQ (by rfl) (by rfl) ?_ | refine tR (by rfl) (by rfl) (by rfl) ?_ | refine tH (by rfl) ?_ | refine tG (by rfl) ?_ | refine wG (by rfl) (by rfl) ?_ | refine wH (by rfl) (by rfl) ?_ | refine tD ?_ | refine tK ?_ | refine tN (by rfl) (by rfl) ?_ | refine vV (by rfl) (by rfl) ?_ | refine wJ (by rfl) ?_ | refine q_mx (by rfl) (by rfl) ?_ | refine q_mn (by rfl) (by rfl) ?_ | refine tI (by rfl) (by rfl) (by rfl) ?_ | refine tM (by rfl) ?_ | refine vX (by rfl) ?_ | refine vY (by rfl) ?_ | refine wI (by rfl) ?_ | refine vB (by rfl) (by rfl) ?_ | refine vC (by rfl) (by rfl) ?_)) | (refine sL ?_; try (first | (refine tS (by rfl) ?_; try (first | refine yU (by rfl) (by rfl) ?_ | refine yM (by rfl) (by rfl) ?_ | refine yU (yJ _ _) (by rfl) ?_ | refine yM (yJ _ _) (by rfl) ?_ | refine yU (wS _ _ _ _) (by rfl) ?_ | refine yM (wS _ _ _ _) (by rfl) ?_ | refine yU (wR _ _ _) (by rfl) ?_ | refine yM (wR _ _ _) (by rfl) ?_)) | (refine tT (by rfl) ?_; try (first | refine qD (by assumption) (by omega) (by omega) (fun _ _ => ?_) | refine uJ (by omega) (by omega) ?_ | refine xZ (Nat.le_of_ble_eq_true (by rfl)) ?_ | refine xC (by rfl) (by rfl) (by rfl) (by omega) ?_)))) | refine vN (by rfl) (by rfl) (by rfl) (by rfl) (Nat.le_of_ble_eq_true (by rfl)) ?_ | (refine uQ (by rfl) (by rfl) ?_; try (first | refine xC (by rfl) (by rfl) (by rfl) (Nat.le_of_ble_eq_true (by rfl)) ?_ | refine xC (by rfl) (by rfl) (by rfl) (by omega) ?_)) | refine sM (by rfl) (by rfl) ?_ | refine pJ (by rfl) (by rfl) (by rfl) ?_ | refine bL ?_ | refine uR (by rfl) ?_ | refine bK (by rfl) ?_)) | (refine d_nil ?_; try (first | refine s_n ?_ | refine s_r ?_ | refine s_e ?_ | refine k_n ?_ | refine k_r ?_ | refine k_e (by rfl) ?_ | refine k_o (by rfl) ?_ | refine l_r ?_ | refine l_e ?_ | refine b_r ?_ | refine b_n ?_)) | refine d_none (by rfl) (by rfl) ?_ | refine d_guard (by rfl) (by rfl) (by rfl) ?_) | (refine g_x ?_; first | (refine x_q (by rfl) ?_; try (first | refine q_mv (by rfl) ?_ | refine wZ (by rfl) ?_ | (refine tJ ?_; try (first | refine tX (by rfl) (by assumption) ?_ | refine vK (by rfl) (by assumption) ?_ | refine vL (by rfl) ?_ | refine wE (by rfl) ?_ | refine wD (by rfl) ?_)) | (refine tL ?_; try (first | refine tY (by rfl) (by rfl) (by assumption) (by omega) (by omega) ?_ | refine wW (by rfl) (by rfl) (by assumption) (by omega) (by omega) ?_ | refine vJ (by rfl) (by rfl) (by decide) (by decide) ?_ | refine yL (by rfl) (by rfl) (by decide) (by decide) ?_ | refine vD (by rfl) (by rfl) (by decide) (by decide) ?_ | refine yL (by rfl) (by rfl) (by omega) (by omega) ?_)) | refine q_cm (by rfl) (by rfl) ?_ | refine q_ar (by rfl) (by rfl) (by rfl) ?_ | refine vW (by rfl) ?_ | (refine tP ?_; try (first | refine wP (by rfl) ?_ | refine wQ (by rfl) ?_ | refine vM (by rfl) ?_)) | refine tO (by rfl) (by rfl) ?_ | refine wY (by rfl) ?_ | refine vA (by rfl) ?_ | refine tF (by rfl) (by rfl) (by first | decide | omega) ?_ | refine tE (by rfl) (by rfl) (by first | decide | omega) ?_ | refine tQ (by rfl) (by rfl) ?_ | refine tR (by rfl) (by rfl) (by rfl) ?_ | refine tH (by rfl) ?_ | refine tG (by rfl) ?_ | refine wG (by rfl) (by rfl) ?_ | refine wH (by rfl) (by rfl) ?_ | refine tD ?_ | refine tK ?_ | refine tN (by rfl) (by rfl) ?_ | refine vV (by rfl) (by rfl) ?_ | refine wJ (by rfl) ?_ | refine q_mx (by rfl) (by rfl) ?_ | refine q_mn (by rfl) (by rfl) ?_ | refine tI (by rfl) (by rfl) (by rfl) ?_ | refine tM (by rfl) ?_ | refine vX (by rfl) ?_ | refine vY (by rfl) ?_ | refine wI (by rfl) ?_ | refine vB (by rfl) (by rfl) ?_ | refine vC (by rfl) (by rfl) ?_)) | (refine bC ?_; try (first | (refine tS (by rfl) ?_; try (first | refine yU (by rfl) (by rfl) ?_ | refine yM (by rfl) (by rfl) ?_ | refine yU (yJ _ _) (by rfl) ?_ | refine yM (yJ _ _) (by rfl) ?_ | refine yU (wS _ _ _ _) (by rfl) ?_ | refine yM (wS _ _ _ _) (by rfl) ?_ | refine yU (wR _ _ _) (by rfl) ?_ | refine yM (wR _ _ _) (by rfl) ?_)) | (refine tT (by rfl) ?_; try (first | refine qD (by assumption) (by omega) (by omega) (fun _ _ => ?_) | refine uJ (by omega) (by omega) ?_ | refine xZ (Nat.le_of_ble_eq_true (by rfl)) ?_ | refine xC (by rfl) (by rfl) (by rfl) (by omega) ?_)))) | refine tV (by rfl) (by rfl) (by rfl) (by rfl) (Nat.le_of_ble_eq_true (by rfl)) ?_ | (refine pQ (by rfl) (by rfl) ?_; try (first | refine xC (by rfl) (by rfl) (by rfl) (Nat.le_of_ble_eq_true (by rfl)) ?_ | refine xC (by rfl) (by rfl) (by rfl) (by omega) ?_)) | refine jX (by rfl) (by rfl) ?_ | refine x_box (by rfl) (by rfl) ?_ | refine jO ?_ | refine x_frzSl (by rfl) ?_ | refine x_app ?_ | refine bB ?_ | refine jM ?_ | refine jN (by rfl) (by rfl) (by rfl) (by rfl) ?_ | refine qZ (by rfl) (by rfl) (by rfl) ?_) | (refine g_q ?_; first | refine q_mv (by rfl) ?_ | refine wZ (by rfl) ?_ | (refine tJ ?_; try (first | refine tX (by rfl) (by assumption) ?_ | refine vK (by rfl) (by assumption) ?_ | refine vL (by rfl) ?_ | refine wE (by rfl) ?_ | refine wD (by rfl) ?_)) | (refine tL ?_; try (first | refine tY (by rfl) (by rfl) (by assumption) (by omega) (by omega) ?_ | refine wW (by rfl) (by rfl) (by assumption) (by omega) (by omega) ?_ | refine vJ (by rfl) (by rfl) (by decide) (by decide) ?_ | refine yL (by rfl) (by rfl) (by decide) (by decide) ?_ | refine vD (by rfl) (by rfl) (by decide) (by decide) ?_ | refine yL (by rfl) (by rfl) (by omega) (by omega) ?_)) | refine q_cm (by rfl) (by rfl) ?_ | refine q_ar (by rfl) (by rfl) (by rfl) ?_ | refine vW (by rfl) ?_ | (refine tP ?_; try (first | refine wP (by rfl) ?_ | refine wQ (by rfl) ?_ | refine vM (by rfl) ?_)) | refine tO (by rfl) (by rfl) ?_ | refine wY (by rfl) ?_ | refine vA (by rfl) ?_ | refine tF (by rfl) (by rfl) (by first | decide | omega) ?_ | refine tE (by rfl) (by rfl) (by first | decide | omega) ?_ | refine tQ (by rfl) (by rfl) ?_ | refine tR (by rfl) (by rfl) (by rfl) ?_ | refine tH (by rfl) ?_ | refine tG (by rfl) ?_ | refine wG (by rfl) (by rfl) ?_ | refine wH (by rfl) (by rfl) ?_ | refine tD ?_ | refine tK ?_ | refine tN (by rfl) (by rfl) ?_ | refine vV (by rfl) (by rfl) ?_ | refine wJ (by rfl) ?_ | refine q_mx (by rfl) (by rfl) ?_ | refine q_mn (by rfl) (by rfl) ?_ | refine tI (by rfl) (by rfl) (by rfl) ?_ | refine tM (by rfl) ?_ | refine vX (by rfl) ?_ | refine vY (by rfl) ?_ | refine wI (by rfl) ?_ | refine vB (by rfl) (by rfl) ?_ | refine vC (by rfl) (by rfl) ?_) | (refine g_c ?_; first | refine c_t (by rfl) ?_ | refine c_f (by rfl) ?_) | (refine g_k ?_; first | refine k_n ?_ | refine k_r ?_ | refine k_e (by rfl) ?_ | refine k_o (by rfl) ?_) | (refine g_lo ?_; first | refine l_r ?_ | refine l_e ?_) | (refine g_xd ?_; first | (refine xd_q (by rfl) ?_; try (first | refine q_mv (by rfl) ?_ | refine wZ (by rfl) ?_ | (refine tJ ?_; try (first | refine tX (by rfl) (by assumption) ?_ | refine vK (by rfl) (by assumption) ?_ | refine vL (by rfl) ?_ | refine wE (by rfl) ?_ | refine wD (by rfl) ?_)) | (refine tL ?_; try (first | refine tY (by rfl) (by rfl) (by assumption) (by omega) (by omega) ?_ | refine wW (by rfl) (by rfl) (by assumption) (by omega) (by omega) ?_ | refine vJ (by rfl) (by rfl) (by decide) (by decide) ?_ | refine yL (by rfl) (by rfl) (by decide) (by decide) ?_ | refine vD (by rfl) (by rfl) (by decide) (by decide) ?_ | refine yL (by rfl) (by rfl) (by omega) (by omega) ?_)) | refine q_cm (by rfl) (by rfl) ?_ | refine q_ar (by rfl) (by rfl) (by rfl) ?_ | refine vW (by rfl) ?_ | (refine tP ?_; try (first | refine wP (by rfl) ?_ | refine wQ (by rfl) ?_ | refine vM (by rfl) ?_)) | refine tO (by rfl) (by rfl) ?_ | refine wY (by rfl) ?_ | refine vA (by rfl) ?_ | refine tF (by rfl) (by rfl) (by first | decide | omega) ?_ | refine tE (by rfl) (by rfl) (by first | decide | omega) ?_ | refine tQ (by rfl) (by rfl) ?_ | refine tR (by rfl) (by rfl) (by rfl) ?_ | refine tH (by rfl) ?_ | refine tG (by rfl) ?_ | refine wG (by rfl) (by rfl) ?_ | refine wH (by rfl) (by rfl) ?_ | refine tD ?_ | refine tK ?_ | refine tN (by rfl) (by rfl) ?_ | refine vV (by rfl) (by rfl) ?_ | refine wJ (by rfl) ?_ | refine q_mx (by rfl) (by rfl) ?_ | refine q_mn (by rfl) (by rfl) ?_ | refine tI (by rfl) (by rfl) (by rfl) ?_ | refine tM (by rfl) ?_ | refine vX (by rfl) ?_ | refine vY (by rfl) ?_ | refine wI (by rfl) ?_ | refine vB (by rfl) (by rfl) ?_ | refine vC (by rfl) (by rfl) ?_)) | (refine sL ?_; try (first | (refine tS (by rfl) ?_; try (first | refine yU (by rfl) (by rfl) ?_ | refine yM (by rfl) (by rfl) ?_ | refine yU (yJ _ _) (by rfl) ?_ | refine yM (yJ _ _) (by rfl) ?_ | refine yU (wS _ _ _ _) (by rfl) ?_ | refine yM (wS _ _ _ _) (by rfl) ?_ | refine yU (wR _ _ _) (by rfl) ?_ | refine yM (wR _ _ _) (by rfl) ?_)) | (refine tT (by rfl) ?_; try (first | refine qD (by assumption) (by omega) (by omega) (fun _ _ => ?_) | refine uJ (by omega) (by omega) ?_ | refine xZ (Nat.le_of_ble_eq_true (by rfl)) ?_ | refine xC (by rfl) (by rfl) (by rfl) (by omega) ?_)))) | refine vN (by rfl) (by rfl) (by rfl) (by rfl) (Nat.le_of_ble_eq_true (by rfl)) ?_ | (refine uQ (by rfl) (by rfl) ?_; try (first | refine xC (by rfl) (by rfl) (by rfl) (Nat.le_of_ble_eq_true (by rfl)) ?_ | refine xC (by rfl) (by rfl) (by rfl) (by omega) ?_)) | refine sM (by rfl) (by rfl) ?_ | refine pJ (by rfl) (by rfl) (by rfl) ?_ | refine bL ?_ | refine uR (by rfl) ?_ | refine bK (by rfl) ?_) | (refine g_l ?_; first | (refine tS (by rfl) ?_; try (first | refine yU (by rfl) (by rfl) ?_ | refine yM (by rfl) (by rfl) ?_ | refine yU (yJ _ _) (by rfl) ?_ | refine yM (yJ _ _) (by rfl) ?_ | refine yU (wS _ _ _ _) (by rfl) ?_ | refine yM (wS _ _ _ _) (by rfl) ?_ | refine yU (wR _ _ _) (by rfl) ?_ | refine yM (wR _ _ _) (by rfl) ?_)) | (refine tT (by rfl) ?_; try (first | refine qD (by assumption) (by omega) (by omega) (fun _ _ => ?_) | refine uJ (by omega) (by omega) ?_ | refine xZ (Nat.le_of_ble_eq_true (by rfl)) ?_ | refine xC (by rfl) (by rfl) (by rfl) (by omega) ?_))) | (refine g_len ?_; first | refine tX (by rfl) (by assumption) ?_ | refine vK (by rfl) (by assumption) ?_ | refine vL (by rfl) ?_ | refine wE (by rfl) ?_ | refine wD (by rfl) ?_) | (refine g_nil ?_; first | refine wP (by rfl) ?_ | refine wQ (by rfl) ?_ | refine vM (by rfl) ?_) | (refine g_iad ?_; first | refine tY (by rfl) (by rfl) (by assumption) (by omega) (by omega) ?_ | refine wW (by rfl) (by rfl) (by assumption) (by omega) (by omega) ?_ | refine vJ (by rfl) (by rfl) (by decide) (by decide) ?_ | refine yL (by rfl) (by rfl) (by decide) (by decide) ?_ | refine vD (by rfl) (by rfl) (by decide) (by decide) ?_ | refine yL (by rfl) (by rfl) (by omega) (by omega) ?_) | (refine g_box ?_; first | refine yU (by rfl) (by rfl) ?_ | refine yM (by rfl) (by rfl) ?_ | refine yU (yJ _ _) (by rfl) ?_ | refine yM (yJ _ _) (by rfl) ?_ | refine yU (wS _ _ _ _) (by rfl) ?_ | refine yM (wS _ _ _ _) (by rfl) ?_ | refine yU (wR _ _ _) (by rfl) ?_ | refine yM (wR _ _ _) (by rfl) ?_) | (refine g_cells ?_; first | refine qD (by assumption) (by omega) (by omega) (fun _ _ => ?_) | refine uJ (by omega) (by omega) ?_ | refine xZ (Nat.le_of_ble_eq_true (by rfl)) ?_) | (refine g_st ?_; first | refine xC (by rfl) (by rfl) (by rfl) (Nat.le_of_ble_eq_true (by rfl)) ?_) | (refine g_b ?_; first | refine b_r ?_ | refine b_n ?_) | (refine g_r ?_; first | refine r_tmp (by rfl) ?_ | refine r_cell ?_ | refine r_nil ?_))
 exact hgo.out):A:=h ⟨k⟩
noncomputable def outsR (m:List Rat):List R2 × Bool:=bif dec (∀ q∈m,fitR (rp q)=true) then (m.map rp,true) else ([],false)
def OutsK (m:List Rat) (u:V):Prop:=∃ c,Ls elP c (outsR m).1∧u=.tup [.c c,.c (.bool (outsR m).2)]
theorem OutsK.no {m:List Rat} {q:Rat} {H:Hp} (hq:q∈m) (h:fitR (rp q)=false):∃ d,FzV H (.tup [.c .nilSl,.c (.bool false)]) d∧OutsK m d:=by
 refine ⟨_,.tup (.cons (.c (.hf trivial)) (.cons (.c (.hf trivial)) .nil)),.nilSl,?_⟩
 unfold outsR
 rw [yK.2 (fun h2 => by have:=h2 q hq; rw [h] at this; cases this)]
 exact ⟨.nil,rfl⟩
theorem OutsK.yes {m:List Rat} {c:C} {H:Hp} {d:C} (h:∀ q∈m,fitR (rp q)=true) (hf:Fz (·≠.bor) H c d) (hc:Ls elP d (m.map rp)):∃ d,FzV H (.tup [.c c,.c (.bool true)]) d∧OutsK m d:=by
 refine ⟨_,.tup (.cons (.c hf) (.cons (.c (.hf trivial)) .nil)),d,?_⟩
 unfold outsR
 rw [yE.2 h]
 exact ⟨hc,rfl⟩
abbrev Tm:=R2 × List Int
abbrev Pl:=List Tm
def vZ:Nat:=9223372036854775808
def elI:El Int:=⟨fun cs n => cs=[iC n] ∧ -9223372036854775808≤n∧n<9223372036854775808,1,fun h => by rw [h.1]; rfl,fun h => by rw [h.1]; exact ⟨trivial,trivial⟩⟩
def elT:El Tm:=⟨fun cs t => ∃ c,cs=ratC t.1++[c]∧Ls elI c t.2∧t.2.length<vZ,3,fun h => by obtain ⟨c,rfl,_⟩:=h; rfl,fun h => by obtain ⟨c,rfl,h,_⟩:=h; exact ⟨trivial,trivial,h.hf,trivial⟩⟩
def elM:El Pl:=⟨fun cs p => ∃ c,cs=[c]∧Ls elT c p∧p.length<vZ,1,fun h => by obtain ⟨c,rfl,_⟩:=h; rfl,fun h => by obtain ⟨c,rfl,h,_⟩:=h; exact ⟨h.hf,trivial⟩⟩
theorem qD {c:C} {l:List Int} {n i:Nat} {K:V→Prop} (hc:Ls elI c l) (hi:i<l.length) (hn:n=i) (k:-9223372036854775808≤l[i]→l[i]<9223372036854775808→K (.c (iC l[i]))):yI (c.ds.drop (n*1)) false 1 K:=by
 subst hn
 obtain ⟨cs,r,⟨rfl,h1,h2⟩,h⟩:=hc.els.get hi
 have h:c.ds.drop (n*1)=[iC l[n]]++r:=h
 rw [h]
 exact k h1 h2
attribute [local irreducible] yA semH semC qLen qNil qIad qSlc qIdx yW yI xA appX appI slcX awpF yP xH xopF xM qval lval seqQ xJ xY xU xR cnd arith IntKind.wrap
theorem bE {c:C} {l:List R2} (hc:Ls elP c l) (hl:l.length<9223372036854775808):semC Try.prog n_num_AllValid [.c c] (sJ (tA l)):=by
 refine yD ok_num_AllValid rfl (show HFVs [.c c] from ⟨hc.hf,trivial⟩) ?_
 refine go5 ?_
 refine yX (fun n vs H => ∃ i:Nat,vs=[.c c,i64 l.length,i64 i]∧n=l.length - i∧i≤l.length∧tA (l.take i)) (by rfl) ⟨0,rfl,rfl,by omega,by intro p hp; simp at hp⟩ ?_
 rintro n vs H ⟨i,rfl,rfl,h1,h2⟩
 refine go5 ?_
 cases hq:yA Cm.lss (i:Int) (l.length:Int)
 ·simp [yA] at hq
  have ei:i=l.length:=by omega
  subst ei
  rw [List.take_length] at h2
  refine go5 ?_
  exact sJ.fz ⟨fun _ => h2,fun _ => rfl⟩
 ·simp [yA] at hq
  refine go5 ?_
  refine uX hc hq (by omega) rfl (fun cs hcs => ?_)
  obtain rfl:=hcs
  refine go5 ?_
  refine yB (bQ l[i].1 l[i].2) (fun u hu => ?_)
  obtain ⟨z,rfl,hz⟩:=hu
  cases z
  ·refine go5 ?_
   exact sJ.fz ⟨fun h => (by cases h),fun h => absurd (hz.2 (h _ (wX hq))) (by decide)⟩
  ·refine go5 ?_
   rw [xL i (by omega)]
   exact l_n (by rfl) (by omega) ⟨i+1,rfl,rfl,by omega,h2.step hq (hz.1 rfl)⟩
theorem q_Pow {k:Nat} {cs:List C} {x:Rat} (n:Nat) (hx:IQ k cs x) (hn:n<1024) (hk:n*k+1≤134217727):semC Try.prog n_num_Q_Pow [.agg cs,i64 n] (QV (n*k+1) (x ^ n)):=by
 refine yD ok_num_Q_Pow rfl (show HFVs [.agg cs,i64 n] from ⟨hx.hf,trivial,trivial⟩) ?_
 obtain ⟨a,b,c,d,e,f,rfl⟩:=id hx.six
 refine go2 ?_
 refine c_f (by simp [yA]) ?_
 refine go2 ?_
 refine yB (sA (g:=1) (by decide)) (fun u hu => ?_)
 obtain ⟨es,rfl,h1⟩:=hu
 obtain ⟨_,_,_,_,_,_,rfl⟩:=id h1.six
 refine go2 ?_
 refine goN ?_
 refine yX (fun m vs H => ∃ (i:Nat) (es:List C),vs=[.c (.ptr 0 0),.c (.ptr 1 0),.c (.ptr 2 0),i64 n,i64 i]∧H=[.live ⟨[a,b,c,d,e,f],yR,.rw⟩,.live ⟨jR,yR,.rw⟩,.live ⟨es,yR,.rw⟩]∧m=n - i∧i≤n∧IQ (i*k+1) es (x ^ i)) (by rfl) ⟨0,_,rfl,rfl,rfl,by omega,by rw [Nat.zero_mul,Rat.pow_zero]; exact h1⟩ ?_
 clear h1
 rintro m vs H ⟨i,es,rfl,rfl,rfl,h2,h3⟩
 obtain ⟨_,_,_,_,_,_,rfl⟩:=id h3.six
 refine go2 ?_
 cases hq:yA Cm.lss (i:Int) (n:Int)
 ·simp [yA] at hq
  have ei:i=n:=by omega
  subst ei
  refine go2 ?_
  exact QV.fz h3
 ·simp [yA] at hq
  have hle:=Nat.mul_le_mul_right k (show i+1≤n from hq)
  rw [Nat.succ_mul] at hle
  refine go2 ?_
  refine yB (sG h3 hx (by omega)) (fun u hu => ?_)
  obtain ⟨gs,rfl,j1⟩:=hu
  obtain ⟨_,_,_,_,_,_,rfl⟩:=id j1.six
  refine go2 ?_
  rw [xL i (by omega)]
  refine l_n (by rfl) (by omega) ⟨i+1,_,rfl,rfl,rfl,by omega,?_⟩
  rw [Rat.pow_succ,Nat.succ_mul]
  exact j1.up (by omega)
theorem num_Outs {k:Nat} {c:C} {m:List Rat} (hc:Ls (elQ k) c m) (hm:m.length<1048576):semC Try.prog n_num_Outs [.c c] (OutsK m):=by
 refine yD ok_num_Outs rfl (show HFVs [.c c] from ⟨hc.hf,trivial⟩) ?_
 refine go5 ?_
 refine vQ (by rfl) (by rfl) ⟨by omega,by omega,by omega,by omega⟩ ?_
 refine go5 ?_
 refine goN ?_
 refine yX (fun w vs H => ∃ (i:Nat) (cells:List C) (R:Hp),vs=[.c (.sl 0 0 m.length (some m.length) 2),.c c,i64 m.length,i64 i]∧H=.live ⟨cells,uD,.rw⟩ :: R∧w=m.length - i∧i≤m.length∧Fill elP (ratC (0,0)) m.length cells ((m.take i).map rp)∧∀ q∈m.take i,fitR (rp q)=true) (by rfl) ⟨0,_,_,rfl,rfl,rfl,by omega,.zero rfl,by simp⟩ ?_
 rintro w vs H ⟨i,cells,R,rfl,rfl,rfl,h1,h2,h3⟩
 have hcl:cells.length=m.length*2:=h2.len
 have htl:((m.take i).map rp).length=i:=by simp; omega
 refine go5 ?_
 cases hi:yA Cm.lss (i:Int) (m.length:Int)
 case false =>
  simp [yA] at hi
  have ei:i=m.length:=by omega
  subst ei
  rw [List.take_length] at h2 h3
  have h4:=h2.done (by simp)
  have h5:=Ls.imm h4
  rw [List.length_map] at h5
  refine go5 ?_
  exact OutsK.yes h3 (fz_sl (bx:=⟨cells,uD,.rw⟩) (ds:=cells) (by rfl) (by simp) (by simp) (by rw [List.drop_zero,List.take_of_length_le (by simp only; omega)]) h4.hf) h5
 simp [yA] at hi
 refine go5 ?_
 refine uX hc (i:=i) hi (by omega) rfl (fun cs hcs => ?_)
 obtain ⟨q1,q2,q3,q4,q5,q6,rfl⟩:=id (show IQ k _ _ from hcs).six
 refine go5 ?_
 refine yB (num_Q_Out (show IQ k _ _ from hcs).is (nI m[i])) (fun u hu => ?_)
 obtain rfl:=hu
 unfold outV
 cases hf:fitR (rp m[i])
 case false =>
  refine go5 ?_
  exact OutsK.no (wX hi) hf
 have h4:=h2.put (cs:=ratC (rp m[i])) (a:=rp m[i]) (by rw [htl]; omega) rfl
 rw [htl,show (m.take i).map rp++[rp m[i]]=(m.take (i+1)).map rp by rw [wA hi,List.map_append]; rfl] at h4
 have h5:∀ q∈m.take (i+1),fitR (rp q)=true:=fun q hq => by
  rw [wA hi] at hq
  rcases List.mem_append.1 hq with hq | hq
  ·exact h3 q hq
  ·simp at hq
   subst hq
   exact hf
 refine go5 ?_
 rw [xL i (by omega)]
 exact l_n (by rfl) (n':=m.length - (i+1)) (by omega) ⟨i+1,_,_,rfl,rfl,rfl,by omega,by rw [show 0+((i:Nat):Int).toNat*2=i*2 by omega]; exact h4,h5⟩
end Go.Proofs.Ytokckcnfojjpjaa

namespace Go.Proofs.Ytokckcnfojjpjaa
open Go.ChangeShapes Go.WideShapes Go.ChangeAt Go.RowKit Go.Joins
theorem els_gen {α:Type} {E:El α} {w:World} {a:Addr}:∀ (n:Nat),(∀ i,i<n→∃ (ds:List C) (cs:List Value) (x:α),E.p ds x∧RL (cx0 (fun _ => False) w) ds cs∧cs.length=E.s∧∀ j v,cs[j]?=some v→w.cell? (a.add (i*E.s+j))=some v) →
  ∃ (ds:List C) (vs:List Value) (l:List α),l.length=n∧Els E ds l∧RL (cx0 (fun _ => False) w) ds vs∧vs.length=n*E.s∧∀ j v,vs[j]?=some v→w.cell? (a.add j)=some v
 | 0,_ => ⟨[],[],[],rfl,.nil,.nil,by simp,fun j v h => by simp at h⟩
 | n+1,h => by
  obtain ⟨ds,vs,l,h1,h2,h3,h4,h5⟩:=els_gen n (fun i hi => h i (by omega))
  obtain ⟨d,cs,x,g1,g2,g3,g4⟩:=h n (by omega)
  refine ⟨ds++d,vs++cs,l++[x],by simp [h1],h2.snoc g1,h3.append g2,by rw [List.length_append,h4,g3,Nat.add_mul,Nat.one_mul],fun j v hj => ?_⟩
  rcases Nat.lt_or_ge j vs.length with hlt | hge
  ·rw [List.getElem?_append_left hlt] at hj
   exact h5 j v hj
  ·rw [List.getElem?_append_right hge,h4] at hj
   have:=g4 (j - n*E.s) v hj
   rwa [show n*E.s+(j - n*E.s)=j by omega] at this
section
variable {H:Type} {enc:TypeId × Value→H} {P:Program} {w:World} {spare:Nat→Bool} {held:Bool}
def Opens (enc:TypeId × Value→H) (P:Program) (w:World) (spare:Nat→Bool) (held:Bool) {α:Type} (E:El α) (t:TypeId):Prop :=
 ∀ {fuel:Nat} {cs:List Value} {y:DataW H × List MemPlace},DataW.trod enc P w 0 spare held fuel t cs=some y→∃ (ds:List C) (x:α),E.p ds x∧RL (cx0 (fun _ => False) w) ds cs
theorem open_slC {α:Type} {E:El α} {T t:TypeId} (sl:P.underlying T=some (.slice t)) (hC:P.cellsOf t=E.s) (el:Opens enc P w spare held E t) {fuel:Nat} {v:Value} {y:DataW H × List MemPlace} (hf:DataW.trod enc P w 0 spare held fuel T [v]=some y) :
  ∃ (l:List α) (c:C),Ls E c l∧l.length<9223372036854775808∧R (cx0 (fun _ => False) w) c v:=by
 rcases DataW.trod_slice sl hf with ⟨h0,_⟩ | ⟨a,len',cap',elems,rest,n,_,h0,_,_,hl,hm,hlen,hel,_⟩
 ·simp at h0
  subst h0
  exact ⟨[],.nilSl,.nil,by simp,.nilSl⟩
 ·simp at h0
  subst h0
  have hm:cap'≤9223372036854775807:=hm
  obtain ⟨ds,vs,l,h1,h2,h3,h4,h5⟩:=els_gen (E:=E) (w:=w) (a:=a) len' (fun i hi => by
   have he:=hel i hi
   rw [List.getElem?_eq_getElem (by omega)] at he
   simp only [Option.bind_eq_some_iff] at he
   obtain ⟨cs,hcs,htr⟩:=he
   obtain ⟨ds,x,h1,h2⟩:=el htr
   obtain ⟨_,hn,hg⟩:=World.cells?_some hcs
   rw [hC] at hn
   refine ⟨ds,cs,x,h1,h2,hn,fun j v hj => ?_⟩
   have hj':=(List.getElem?_eq_some_iff.1 hj).1
   have:=hg j (by omega)
   rw [addr_add_add,hC,hj] at this
   exact this)
  refine ⟨l,.imm l.length ds,.imm h2,by omega,?_⟩
  rw [h1]
  exact .imm hl (fun j v hj => ⟨fun h => h.elim,h5 j v hj⟩) h3
theorem opens_rat {tr:TypeId} (nK:twoB P tr 1 1 2 (isI64 P)=true):Opens enc P w spare held elP tr:=fun {fuel cs y} h => by
 obtain ⟨g0,g1,gs,o0,o1,k0,k1,gC,j0,j1⟩:=twoB_out nK
 obtain ⟨a,b,rfl⟩:=open_two gs o0 o1 k0 k1 gC (gJ j0) (gJ j1) h
 exact ⟨ratC (a,b),(a,b),rfl,.cons (.int _ _) (.cons (.int _ _) .nil)⟩
theorem open_slV {α:Type} {E:El α} {T t:TypeId} (sl:P.underlying T=some (.slice t)) (hC:P.cellsOf t=E.s) (el:Opens enc P w spare held E t) {r:Reach} {b0:Nat} {v:Value} {d:DataW H} {p:List MemPlace} (hv:Value.okWide P w r b0 T v) (h:DataW.Trod enc P w 0 spare held T v d p) :
  ∃ (l:List α) (c:C),Ls E c l∧l.length<9223372036854775808∧RV (cx0 (fun _ => False) w) (.c c) v:=by
 obtain ⟨a0,len,cap,rfl⟩:=okWide_slice sl hv
 obtain ⟨fuel,hf⟩:=h
 have hf:DataW.trod enc P w 0 spare held fuel T [.slice a0 len cap]=some (d,p):=by simpa [Value.cells] using hf
 obtain ⟨l,c,h1,h2,h3⟩:=open_slC sl hC el hf
 exact ⟨l,c,h1,h2,.c h3⟩
end
end Go.Proofs.Ytokckcnfojjpjaa

namespace Go.Proofs.Ytokckcnfojjpjaa
open Go.RowKit
set_option maxRecDepth 20000
def cmpI (a b:Int):Int:=if a<b then -1 else if b<a then 1 else 0
def lexI:List Int→List Int→Int
 | [],[] => 0
 | [],_ :: _ => -1
 | _ :: _,[] => 1
 | a :: l,b :: m => if a<b then -1 else if b<a then 1 else lexI l m
theorem lex_same {a:Int} {l m:List Int}:lexI (a :: l) (a :: m)=lexI l m:=by simp [lexI]
theorem lex_drop {X Y:List Int} {i:Nat} (h1:i<X.length) (h2:i<Y.length) (h:X[i]=Y[i]):lexI (X.drop i) (Y.drop i)=lexI (X.drop (i+1)) (Y.drop (i+1)):=by
 rw [List.drop_eq_getElem_cons h1,List.drop_eq_getElem_cons h2,h,lex_same]
theorem lex_diff {X Y:List Int} {i:Nat} (h1:i<X.length) (h2:i<Y.length) (h:cmpI X[i] Y[i]≠0):lexI (X.drop i) (Y.drop i)=cmpI X[i] Y[i]:=by
 rw [List.drop_eq_getElem_cons h1,List.drop_eq_getElem_cons h2]
 unfold cmpI at *
 simp only [lexI]
 by_cases a:X[i]<Y[i]
 ·simp [a]
 ·by_cases b:Y[i]<X[i]
  ·simp [a,b]
  ·simp [a,b] at h
theorem cmp_zero {a b:Int} (h:cmpI a b=0):a=b:=by
 unfold cmpI at h
 by_cases h1:a<b
 ·simp [h1] at h
 ·by_cases h2:b<a
  ·simp [h1,h2] at h
  ·omega
section
variable {α:Type} {E:El α}
theorem app_lsS {F R:Hp} {el:TypeId} {es bytes:Nat} {s x:Option V} {K:V→Hp→Prop} {c d:C} {out l:List α} {H:Hp} (hH:H=F++R) (ho:Out E el F.length (F++R) c out) (hs:s=some (.c c)) (hx:x=some (.c d)) (hd:Ls E d l) (he:E.s=es) (hl:(out.length+l.length)*bytes≤140737488355328∧out.length+l.length≤140737488355328)
  (k:∀ R' c',Out E el F.length (F++R') c' (out++l)→K (.c c') (F++R')):appX H el es bytes s x K:=by
 subst hH hs hx he
 obtain ⟨xs,hxs,hm,hxl,hxe⟩:∃ xs,sR (F++R) E.s d=some xs∧slLen d=some l.length∧xs.length=l.length*E.s∧Els E xs l:=by
  cases hd with
  | nil => exact ⟨[],rfl,rfl,by simp,.nil⟩
  | @imm ds l h =>
   have h2:=h.len
   exact ⟨ds,by simp only [sR]; rw [List.take_of_length_le (by omega)],rfl,h2,h⟩
 cases ho with
 | nil =>
  simp only [appX,hxs,hm]
  refine xF (by simp [hxl]) ?_
  rcases Nat.eq_zero_or_pos l.length with h0 | h0
  ·have:l=[]:=List.eq_nil_of_length_eq_zero h0
   subst this
   exact jV rfl (k _ _ .nil)
  ·refine jJ (by cases hL:l.length; omega; rfl) (xF (by simp only [List.length_nil,Nat.zero_add] at hl; simp only [Bool.and_eq_true,yE]; exact hl) ?_)
   have:=k (R++[.live ⟨xs,el,.rw⟩]) (.sl (F++R).length 0 l.length none E.s) (.sl (cells:=xs) (ds:=xs) (by simp) (by rw [←List.append_assoc]; exact yJ _ _) rfl (by simp only [List.nil_append]; exact List.take_of_length_le (by omega)) hxe)
   rw [←List.append_assoc] at this
   exact this
 | @sl b n co' cells ds l' hm' hb hn hc h =>
  subst hn
  have hdl:(cells.take (out.length*E.s)).length=out.length*E.s:=by rw [hc]; exact h.len
  have hle:out.length*E.s≤cells.length:=by
   rw [List.length_take] at hdl
   omega
  have hlt:=lt_of_getElem? hb
  refine app_sl (cs:=cells) (xs:=xs) (m:=l.length) rfl rfl hxs hm hxl hb hle hl.1 hl.2 ?_
  have e:(F++R).set b .dead=F++R.set (b - F.length) .dead:=List.set_append_right _ _ hm'
  have e':(F++R).length=(F++R.set (b - F.length) .dead).length:=by simp
  rw [e,e',List.append_assoc]
  refine k _ _ (.sl (cells:=cells.take (out.length*E.s)++xs) (ds:=ds++xs) (by simp) (by rw [←List.append_assoc]; exact yJ _ _) (by simp) ?_ (h.append hxe))
  rw [hc]
  exact List.take_of_length_le (by rw [List.length_append,List.length_append,h.len,hxl,Nat.add_mul]; exact Nat.le_refl _)
end
attribute [local irreducible] yA semH semC qLen qNil qIad qSlc qIdx yW yI xA appX appI slcX awpF yP xH xopF xM qval lval seqQ xJ xY xU xR cnd arith IntKind.wrap
theorem cmp_isNaN_int (a:Int):semC Try.prog n_cmp_isNaN_int [i64 a] (fun u => u=.c (.bool false)):=by
 refine yD ok_cmp_isNaN_int rfl (show HFVs [i64 a] from ⟨trivial,trivial⟩) ?_
 refine go13 ?_
 rw [show yA Cm.neq a a=false by simp [yA]]
 exact ⟨_,.c (.hf trivial),rfl⟩
theorem cmp_Compare_int (a b:Int):semC Try.prog n_cmp_Compare_int [i64 a,i64 b] (IntK (cmpI a b)):=by
 refine yD ok_cmp_Compare_int rfl (show HFVs [i64 a,i64 b] from ⟨trivial,trivial,trivial⟩) ?_
 refine go13 ?_
 refine yB (cmp_isNaN_int a) (fun u hu => ?_)
 obtain rfl:=hu
 refine go13 ?_
 refine yB (cmp_isNaN_int b) (fun u hu => ?_)
 obtain rfl:=hu
 refine go13 ?_
 unfold cmpI
 cases h1:yA Cm.lss a b
 case true =>
  simp [yA] at h1
  rw [if_pos h1]
  refine go13 ?_
  exact IntK.fz
 simp [yA] at h1
 rw [if_neg (by omega)]
 refine go13 ?_
 cases h2:yA Cm.gtr a b
 case true =>
  simp [yA] at h2
  rw [if_pos h2]
  refine go13 ?_
  exact IntK.fz
 simp [yA] at h2
 rw [if_neg (by omega)]
 refine go13 ?_
 exact IntK.fz
theorem slices_Compare {c d:C} {X Y:List Int} (hc:Ls elI c X) (hd:Ls elI d Y) (hx:X.length<vZ) (hy:Y.length<vZ):semC Try.prog n_slices_Compare_sl_int_int [.c c,.c d] (IntK (lexI X Y)):=by
 unfold vZ at hx hy
 refine yD ok_slices_Compare_sl_int_int rfl (show HFVs [.c c,.c d] from ⟨hc.hf,hd.hf,trivial⟩) ?_
 refine go13 ?_
 refine yX (fun w vs H => ∃ (i:Nat),vs=[.c c,.c d,.c c,i64 X.length,i64 i]∧w=X.length - i∧i≤X.length∧i≤Y.length∧lexI X Y=lexI (X.drop i) (Y.drop i)) (by rfl) ⟨0,rfl,rfl,by omega,by omega,rfl⟩ ?_
 rintro w vs H ⟨i,rfl,rfl,h1,h2,h3⟩
 refine go13 ?_
 cases hi:yA Cm.lss (i:Int) (X.length:Int)
 case false =>
  simp [yA] at hi
  have ei:i=X.length:=by omega
  refine go13 ?_
  cases hj:yA Cm.lss (X.length:Int) (Y.length:Int)
  case true =>
   simp [yA] at hj
   rw [h3,show lexI (X.drop i) (Y.drop i) = -1 by rw [List.drop_of_length_le (by omega),List.drop_eq_getElem_cons (show i<Y.length by omega)]; rfl]
   refine go13 ?_
   exact IntK.fz
  simp [yA] at hj
  rw [h3,show lexI (X.drop i) (Y.drop i)=0 by rw [List.drop_of_length_le (by omega),List.drop_of_length_le (by omega)]; rfl]
  refine go13 ?_
  exact IntK.fz
 simp [yA] at hi
 refine go13 ?_
 cases hj:yA Cm.geq (i:Int) (Y.length:Int)
 case true =>
  simp [yA] at hj
  rw [h3,show lexI (X.drop i) (Y.drop i)=1 by rw [show Y.drop i=[] from List.drop_of_length_le (by omega),List.drop_eq_getElem_cons hi]; rfl]
  refine go13 ?_
  exact IntK.fz
 simp [yA] at hj
 refine go13 ?_
 refine yB (cmp_Compare_int X[i] Y[i]) (fun u hu => ?_)
 obtain rfl:=hu
 refine go13 ?_
 cases hk:yA Cm.neq (cmpI X[i] Y[i]) 0
 case true =>
  simp [yA] at hk
  rw [h3,lex_diff hi (by omega) hk]
  refine go13 ?_
  exact IntK.fz
 simp [yA] at hk
 refine go13 ?_
 rw [xL i (by omega)]
 exact l_n (by rfl) (n':=X.length - (i+1)) (by omega) ⟨i+1,rfl,rfl,by omega,by omega,h3.trans (lex_drop hi (by omega) (cmp_zero hk))⟩
theorem step_Check_1 (a:Int):semC Try.prog n_step_Check_1 [i64 a] (fun u => u=.c (.bool (yA Cm.lss a 0))):=by
 refine yD ok_step_Check_1 rfl (show HFVs [i64 a] from ⟨trivial,trivial⟩) ?_
 refine go13 ?_
 exact ⟨_,.c (.hf trivial),rfl⟩
theorem slices_IndexFunc {c:C} {X:List Int} (hc:Ls elI c X) (hx:X.length<vZ):semC Try.prog n_slices_IndexFunc_sl_int_int [.c c,.c (.fn n_step_Check_1 [])] (fun u => ∃ n:Int,u=i64 n∧(0≤n↔∃ k∈X,k<0)):=by
 unfold vZ at hx
 refine yD ok_slices_IndexFunc_sl_int_int rfl (show HFVs [.c c,.c (.fn n_step_Check_1 [])] from ⟨hc.hf,⟨trivial,trivial⟩⟩) ?_
 refine go13 ?_
 refine yX (fun w vs H => ∃ (i:Nat),vs=[.c c,.c (.fn n_step_Check_1 []),i64 X.length,i64 i]∧w=X.length - i∧i≤X.length∧∀ k∈X.take i,¬ k<0) (by rfl) ⟨0,rfl,rfl,by omega,by simp⟩ ?_
 rintro w vs H ⟨i,rfl,rfl,h1,h2⟩
 refine go13 ?_
 cases hi:yA Cm.lss (i:Int) (X.length:Int)
 case false =>
  simp [yA] at hi
  rw [List.take_of_length_le (by omega)] at h2
  refine go13 ?_
  exact ⟨_,.c (.hf trivial),-1,rfl,fun h => absurd h (by decide),fun ⟨k,hk,h⟩ => absurd h (h2 k hk)⟩
 simp [yA] at hi
 refine go13 ?_
 refine yB (step_Check_1 X[i]) (fun u hu => ?_)
 obtain rfl:=hu
 refine go13 ?_
 cases hn:yA Cm.lss X[i] 0
 case true =>
  simp [yA] at hn
  refine go13 ?_
  exact ⟨_,.c (.hf trivial),i,rfl,fun _ => ⟨X[i],wX hi,hn⟩,fun _ => by omega⟩
 simp [yA] at hn
 refine go13 ?_
 rw [xL i (by omega)]
 refine l_n (by rfl) (n':=X.length - (i+1)) (by omega) ⟨i+1,rfl,rfl,by omega,fun k hk => ?_⟩
 rw [wA hi] at hk
 rcases List.mem_append.1 hk with hk | hk
 ·exact h2 k hk
 ·simp at hk
  subst hk
  omega
theorem slices_Contains {c:C} {X:List Int} (hc:Ls elI c X) (hx:X.length<vZ):semC Try.prog n_slices_ContainsFunc_sl_int_int [.c c,.c (.fn n_step_Check_1 [])] (sJ (∃ k∈X,k<0)):=by
 refine yD ok_slices_ContainsFunc_sl_int_int rfl (show HFVs [.c c,.c (.fn n_step_Check_1 [])] from ⟨hc.hf,⟨trivial,trivial⟩⟩) ?_
 refine go13 ?_
 refine yB (slices_IndexFunc hc hx) (fun u hu => ?_)
 obtain ⟨n,rfl,hn⟩:=hu
 refine go13 ?_
 cases h:yA Cm.geq n 0
 ·simp [yA] at h
  exact ⟨_,.c (.hf trivial),false,rfl,⟨fun h2 => (by cases h2),fun h2 => by have:=hn.2 h2; omega⟩⟩
 ·simp [yA] at h
  exact ⟨_,.c (.hf trivial),true,rfl,⟨fun _ => hn.1 h,fun _ => rfl⟩⟩
end Go.Proofs.Ytokckcnfojjpjaa

namespace Go.Proofs.Ytokckcnfojjpjaa
open Go.RowKit
set_option maxRecDepth 20000
def sumP:List Int→Int
 | [] => 0
 | x :: r => (if 0<x then x else 0)+sumP r
def cut13 (x:Int):Int:=if (if (13:Int)<x then 13 else x) > 0 then (if (13:Int)<x then 13 else x) else 0
def tZ:List Int→Int
 | [] => 0
 | x :: r => cut13 x+tZ r
theorem cut_bd (x:Int):0≤cut13 x∧cut13 x≤13:=by unfold cut13; split <;> split <;> omega
theorem sum13_append:∀ (l m:List Int),tZ (l++m)=tZ l+tZ m
 | [],m => by simp [tZ]
 | x :: l,m => by simp only [List.cons_append,tZ,sum13_append l m]; omega
theorem sum13_bd:∀ (l:List Int),0≤tZ l∧tZ l≤13*l.length
 | [] => by simp [tZ]
 | x :: l => by
  have:=sum13_bd l
  have:=cut_bd x
  simp only [tZ,List.length_cons]
  omega
theorem sumP_nn:∀ (l:List Int),0≤sumP l
 | [] => by simp [sumP]
 | x :: l => by
  have:=sumP_nn l
  simp only [sumP]
  split <;> omega
theorem sum13_le:∀ (l:List Int),tZ l≤sumP l∧(tZ l≤12→tZ l=sumP l)
 | [] => by simp [tZ,sumP]
 | x :: l => by
  have h:=sum13_le l
  have h0:=(sum13_bd l).1
  have h1:=sumP_nn l
  have h2:=cut_bd x
  have h3:cut13 x≤(if 0<x then x else 0)∧(cut13 x≤12→cut13 x=if 0<x then x else 0):=by
   unfold cut13
   (repeat' split) <;> omega
  simp only [tZ,sumP]
  refine ⟨by omega,fun h4 => ?_⟩
  have:=h.2 (by omega)
  have:=h3.2 (by omega)
  omega
theorem sum13_gt {l:List Int} {m:Int} (hm:m≤12):m<tZ l↔m<sumP l:=by
 have h:=sum13_le l
 constructor
 ·intro; omega
 ·intro h1
  by_cases h2:tZ l≤12
  ·have:=h.2 h2; omega
  ·omega
theorem sum13_take {l:List Int} {i:Nat} (h:i<l.length):tZ (l.take (i+1))=tZ (l.take i)+cut13 l[i]:=by
 rw [wA h,sum13_append]
 simp [tZ]
def WideT (cubic:Bool) (t:Tm):Prop:=12<sumP t.2∨(cubic=true∧3<sumP (t.2.take (t.2.length - 1)))
def WideP (cubic:Bool) (p:Pl):Prop:=60<p.length∨∃ t∈p,WideT cubic t
def BadT (u:Int) (t:Tm):Prop:=(t.2.length:Int)≠u∨¬ wL t.1.1 t.1.2∨t.1.1=0∨∃ k∈t.2,k<0
def BadAt (u:Int) (p:Pl) (i:Nat):Prop:=∃ h:i<p.length,BadT u p[i]∨(0<i∧lexI (p[i - 1]'(by omega)).2 p[i].2≤0)
def BadP (u:Int) (p:Pl):Prop:=∃ i,BadAt u p i
noncomputable def sysE (least u:Int) (cubic:Bool) (f:List Pl):Int :=
 bif dec ((f.length:Int)<least∨3<f.length) then 1 else bif dec (∃ p∈f,WideP cubic p) then 3 else bif dec (∃ p∈f,BadP u p) then 1 else 0
def jW (f:List Pl):Prop:=∀ p∈f,∀ t∈p,t.2.length<1099511627776
def pX (least u:Int) (cubic:Bool) (f:List Pl) (v:V):Prop:=∃ e:Int,v=i64 e∧(jW f→e=sysE least u cubic f)∧(e=0→jW f)∧0≤e∧e≤3
section
variable {least u:Int} {cubic:Bool} {f:List Pl}
theorem bM (h:(f.length:Int)<least∨3<f.length):sysE least u cubic f=1:=by
 unfold sysE
 rw [yE.2 h]
 rfl
theorem sys_wide (h:¬ ((f.length:Int)<least∨3<f.length)) (h2:∃ p∈f,WideP cubic p):sysE least u cubic f=3:=by
 unfold sysE
 rw [yK.2 h,yE.2 h2]
 rfl
theorem sys_bad (h:¬ ((f.length:Int)<least∨3<f.length)) (h2:¬ ∃ p∈f,WideP cubic p) (h3:∃ p∈f,BadP u p):sysE least u cubic f=1:=by
 unfold sysE
 rw [yK.2 h,yK.2 h2,yE.2 h3]
 rfl
theorem sys_ok (h:¬ ((f.length:Int)<least∨3<f.length)) (h2:¬ ∃ p∈f,WideP cubic p) (h3:¬ ∃ p∈f,BadP u p):sysE least u cubic f=0:=by
 unfold sysE
 rw [yK.2 h,yK.2 h2,yK.2 h3]
 rfl
theorem sys_zero (h:sysE least u cubic f=0):¬ ((f.length:Int)<least∨3<f.length)∧(¬ ∃ p∈f,WideP cubic p)∧¬ ∃ p∈f,BadP u p:=by
 by_cases h1:(f.length:Int)<least∨3<f.length
 ·rw [bM h1] at h; cases h
 by_cases h2:∃ p∈f,WideP cubic p
 ·rw [sys_wide h1 h2] at h; cases h
 by_cases h3:∃ p∈f,BadP u p
 ·rw [sys_bad h1 h2 h3] at h; cases h
 exact ⟨h1,h2,h3⟩
theorem pX.of {e:Int} {H:Hp} (h1:jW f→e=sysE least u cubic f) (h2:e=0→jW f) (h3:0≤e∧e≤3):∃ d,FzV H (i64 e) d∧pX least u cubic f d:=⟨_,.c (.hf trivial),e,rfl,h1,h2,h3⟩
end
theorem ld_tx {c:C} {l:List Tm} {n i:Nat} {K:V→Prop} (hc:Ls elT c l) (hi:i<l.length) (hn:n=i) (k:∀ d,Ls elI d l[i].2→l[i].2.length<vZ→K (.c d)):yI ((c.ds.drop (n*3)).drop 2) false 1 K:=by
 subst hn
 obtain ⟨cs,r,⟨d,rfl,h1,h2⟩,h⟩:=hc.els.get hi
 have h:c.ds.drop (n*3)=(ratC l[n].1++[d])++r:=h
 rw [h]
 exact k d h1 h2
theorem add13 {X:List Int} {s:Int} {k:Nat} (hk:k<X.length) (h:X.length<1099511627776→s=tZ (X.take k)):X.length<1099511627776→arith .add .i64 s (cut13 X[k])=tZ (X.take (k+1)):=fun hl => by
 rw [sum13_take hk,h hl,xD]
 have:=sum13_bd (X.take k)
 have:=cut_bd X[k]
 have:(X.take k).length≤X.length:=by rw [List.length_take]; omega
 exact yG (by omega) (by omega)
theorem subI1' {n:Nat} (h:n<9223372036854775808):arith .sub .i64 (n:Int) 1=(n:Int) - 1:=by
 rw [uP]
 exact yG (by omega) (by omega)
attribute [local irreducible] yA semH semC qLen qNil qIad qSlc qIdx yW yI xA appX appI slcX awpF yP xH xopF xM qval lval seqQ xJ xY xU xR cnd arith IntKind.wrap
theorem step_Check {c:C} {f:List Pl} (least u:Int) (cubic:Bool) (hc:Ls elM c f) (hf:f.length<vZ) (hu:f.length≤3→u<1099511627776):semC Try.prog n_step_Check [.c c,i64 least,i64 u,.c (.bool cubic)] (pX least u cubic f):=by
 unfold vZ at hf
 refine yD ok_step_Check rfl (show HFVs [.c c,i64 least,i64 u,.c (.bool cubic)] from ⟨hc.hf,trivial,trivial,trivial,trivial⟩) ?_
 refine go13 ?_
 cases h1:yA Cm.lss (f.length:Int) least
 case true =>
  simp [yA] at h1
  refine go13 ?_
  exact pX.of (fun _ => (bM (.inl h1)).symm) (fun h => absurd h (by decide)) (by decide)
 simp [yA] at h1
 refine go13 ?_
 cases h2:yA Cm.gtr (f.length:Int) 3
 case true =>
  simp [yA] at h2
  refine go13 ?_
  exact pX.of (fun _ => (bM (.inr (by omega))).symm) (fun h => absurd h (by decide)) (by decide)
 simp [yA] at h2
 have hcount:¬ ((f.length:Int)<least∨3<f.length):=by omega
 have hu:=hu (by omega)
 refine go13 ?_
 refine yX (fun w vs H => ∃ (i:Nat),vs=[.c c,i64 u,.c (.bool cubic),.c c,i64 f.length,i64 i]∧w=f.length - i∧i≤f.length∧(jW f→∀ p∈f.take i,¬ WideP cubic p)) (by rfl) ⟨0,rfl,rfl,by omega,fun _ => by simp⟩ ?_
 rintro w vs H ⟨i,rfl,rfl,i1,i2⟩
 refine go13 ?_
 cases hi:yA Cm.lss (i:Int) (f.length:Int)
 case false =>
  simp [yA] at hi
  rw [List.take_of_length_le (by omega)] at i2
  clear i1
  refine go13 ?_
  have hnw:jW f→¬ ∃ p∈f,WideP cubic p:=fun hS ⟨p,hp,h⟩ => i2 hS p hp h
  refine yX (fun w vs H => ∃ (i:Nat),vs=[i64 u,.c c,i64 f.length,i64 i]∧w=f.length - i∧i≤f.length∧∀ p∈f.take i,¬ BadP u p) (by rfl) ⟨0,rfl,rfl,by omega,by simp⟩ ?_
  clear hi i2
  rintro w vs H ⟨i,rfl,rfl,i1,i2⟩
  refine go13 ?_
  cases hi:yA Cm.lss (i:Int) (f.length:Int)
  case false =>
   simp [yA] at hi
   rw [List.take_of_length_le (by omega)] at i2
   have hS:jW f:=fun p hp t ht => by
    obtain ⟨j,hj,rfl⟩:=List.getElem_of_mem ht
    have h:¬ BadT u p[j]:=fun h => i2 p hp ⟨j,hj,.inl h⟩
    have:(p[j].2.length:Int)=u:=Classical.byContradiction fun h2 => h (.inl h2)
    omega
   refine go13 ?_
   exact pX.of (fun hS => (sys_ok hcount (hnw hS) (fun ⟨p,hp,h⟩ => i2 p hp h)).symm) (fun _ => hS) (by decide)
  simp [yA] at hi
  have bad:∀ {j:Nat},BadAt u f[i] j→jW f→(1:Int)=sysE least u cubic f:=fun h hS => (sys_bad hcount (hnw hS) ⟨f[i],wX hi,_,h⟩).symm
  refine go13 ?_
  refine uX hc (i:=i) hi (by omega) rfl (fun cs hcs => ?_)
  obtain ⟨d,rfl,hd,hdl⟩:=hcs
  unfold vZ at hdl
  refine go13 ?_
  refine goN ?_
  refine yX (fun w vs H' => ∃ (j:Nat) (S:Hp),vs=[i64 u,.c (.ptr H.length 0),.c c,i64 f.length,i64 i,.c d,i64 f[i].length,i64 j]∧H'=H++.live ⟨[d],qN,.rw⟩ :: S∧w=f[i].length - j∧j≤f[i].length∧∀ a,a<j→¬ BadAt u f[i] a) (by rfl) ⟨0,[],rfl,rfl,rfl,by omega,fun a h => by omega⟩ ?_
  rintro w vs H' ⟨j,S,rfl,rfl,rfl,j1,j2⟩
  refine go13 ?_
  cases hj:yA Cm.lss (j:Int) (f[i].length:Int)
  case false =>
   simp [yA] at hj
   refine go13 ?_
   rw [xL i (by omega)]
   refine l_n (by rfl) (n':=f.length - (i+1)) (by omega) ⟨i+1,rfl,rfl,by omega,fun p hp => ?_⟩
   rw [wA hi] at hp
   rcases List.mem_append.1 hp with hp | hp
   ·exact i2 p hp
   ·simp at hp
    subst hp
    rintro ⟨a,ha⟩
    obtain ⟨hl,_⟩:=id ha
    exact j2 a (by omega) ha
  simp [yA] at hj
  refine go13 ?_
  refine uX hd (i:=j) hj (by omega) rfl (fun cs hcs => ?_)
  obtain ⟨e,rfl,he,hel⟩:=hcs
  refine go13 ?_
  cases c1:yA Cm.neq (f[i][j].2.length:Int) u
  case true =>
   simp [yA] at c1
   refine go13 ?_
   exact pX.of (bad ⟨hj,.inl (.inl c1)⟩) (fun h => absurd h (by decide)) (by decide)
  simp [yA] at c1
  refine go13 ?_
  refine yB (bQ f[i][j].1.1 f[i][j].1.2) (fun u hu => ?_)
  obtain ⟨z1,rfl,hz1⟩:=hu
  cases z1
  case false =>
   refine go13 ?_
   exact pX.of (bad ⟨hj,.inl (.inr (.inl fun h => by cases hz1.2 h))⟩) (fun h => absurd h (by decide)) (by decide)
  have hz1:=hz1.1 rfl
  refine go13 ?_
  cases c2:yA Cm.eql f[i][j].1.1 0
  case true =>
   simp [yA] at c2
   refine go13 ?_
   exact pX.of (bad ⟨hj,.inl (.inr (.inr (.inl c2)))⟩) (fun h => absurd h (by decide)) (by decide)
  simp [yA] at c2
  refine go13 ?_
  refine yB (slices_Contains he hel) (fun u hu => ?_)
  obtain ⟨z2,rfl,hz2⟩:=hu
  cases z2
  case true =>
   refine go13 ?_
   exact pX.of (bad ⟨hj,.inl (.inr (.inr (.inr (hz2.1 rfl))))⟩) (fun h => absurd h (by decide)) (by decide)
  have hgood:¬ BadT u f[i][j]:=by
   rintro (h | h | h | h)
   ·exact h c1
   ·exact h hz1
   ·exact c2 h
   ·cases hz2.2 h
  refine go13 ?_
  cases c3:yA Cm.gtr (j:Int) 0
  case false =>
   simp [yA] at c3
   refine go13 ?_
   rw [xL j (by omega)]
   refine l_n (by rfl) (n':=f[i].length - (j+1)) (by omega) ⟨j+1,_,rfl,by rw [List.append_assoc]; rfl,rfl,by omega,fun a ha => ?_⟩
   rcases Nat.lt_or_ge a j with h | h
   ·exact j2 a h
   ·have:a=j:=by omega
    subst this
    rintro ⟨_,h | ⟨h,_⟩⟩
    ·exact hgood h
    ·omega
  simp [yA] at c3
  refine go13 ?_
  rw [bN j (by omega) (by omega)]
  refine go13 ?_
  refine ld_tx hd (i:=j - 1) (by omega) (by omega) (fun g hg hgl => ?_)
  refine go13 ?_
  refine yS (slices_Compare hg he hgl hel) (fun u hu => ?_)
  obtain rfl:=hu
  refine go13 ?_
  cases c4:yA Cm.leq (lexI f[i][j - 1].2 f[i][j].2) 0
  case true =>
   simp [yA] at c4
   refine go13 ?_
   exact pX.of (bad ⟨hj,.inr ⟨by omega,c4⟩⟩) (fun h => absurd h (by decide)) (by decide)
  simp [yA] at c4
  refine go13 ?_
  rw [xL j (by omega)]
  refine l_n (by rfl) (n':=f[i].length - (j+1)) (by omega) ⟨j+1,_,rfl,by rw [List.append_assoc]; rfl,rfl,by omega,fun a ha => ?_⟩
  rcases Nat.lt_or_ge a j with h | h
  ·exact j2 a h
  ·have:a=j:=by omega
   subst this
   rintro ⟨_,h | ⟨_,h⟩⟩
   ·exact hgood h
   ·omega
 simp [yA] at hi
 refine go13 ?_
 refine uX hc (i:=i) hi (by omega) rfl (fun cs hcs => ?_)
 obtain ⟨d,rfl,hd,hdl⟩:=hcs
 unfold vZ at hdl
 refine go13 ?_
 cases h3:yA Cm.gtr (f[i].length:Int) 60
 case true =>
  simp [yA] at h3
  refine go13 ?_
  exact pX.of (fun _ => (sys_wide hcount ⟨f[i],wX hi,.inl (by omega)⟩).symm) (fun h => absurd h (by decide)) (by decide)
 simp [yA] at h3
 refine go13 ?_
 refine yX (fun w vs H => ∃ (j:Nat),vs=[.c c,i64 u,.c (.bool cubic),.c c,i64 f.length,i64 i,.c d,i64 f[i].length,i64 j]∧w=f[i].length - j∧j≤f[i].length∧(jW f→∀ t∈f[i].take j,¬ WideT cubic t)) (by rfl) ⟨0,rfl,rfl,by omega,fun _ => by simp⟩ ?_
 rintro w vs H ⟨j,rfl,rfl,j1,j2⟩
 refine go13 ?_
 cases hj:yA Cm.lss (j:Int) (f[i].length:Int)
 case false =>
  simp [yA] at hj
  rw [List.take_of_length_le (by omega)] at j2
  refine go13 ?_
  rw [xL i (by omega)]
  refine l_n (by rfl) (n':=f.length - (i+1)) (by omega) ⟨i+1,rfl,rfl,by omega,fun hS p hp => ?_⟩
  rw [wA hi] at hp
  rcases List.mem_append.1 hp with hp | hp
  ·exact i2 hS p hp
  ·simp at hp
   subst hp
   rintro (h | ⟨t,ht,h⟩)
   ·omega
   ·exact j2 hS t ht h
 simp [yA] at hj
 refine go13 ?_
 refine uX hd (i:=j) hj (by omega) rfl (fun cs hcs => ?_)
 obtain ⟨e,rfl,he,hel⟩:=hcs
 unfold vZ at hel
 refine go13 ?_
 refine goN ?_
 refine yX (fun w vs H' => ∃ (k:Nat) (s o:Int),vs=[.c c,i64 u,.c (.bool cubic),.c (.ptr H.length 0),i64 s,i64 o,.c c,i64 f.length,i64 i,.c d,i64 f[i].length,i64 j,.c e,i64 f[i][j].2.length,i64 k]∧H'=H++[.live ⟨[iC f[i][j].1.1,iC f[i][j].1.2,e],uC,.rw⟩]∧w=f[i][j].2.length - k∧k≤f[i][j].2.length∧(f[i][j].2.length<1099511627776→s=tZ (f[i][j].2.take k))∧(f[i][j].2.length<1099511627776→o=tZ (f[i][j].2.take (min k (f[i][j].2.length - 1))))) (by rfl) ⟨0,0,0,rfl,rfl,rfl,by omega,fun _ => by simp [tZ],fun _ => by simp [tZ]⟩ ?_
 rintro w vs H' ⟨k,s,o,rfl,rfl,rfl,k1,k2,k3⟩
 refine go13 ?_
 cases hk:yA Cm.lss (k:Int) (f[i][j].2.length:Int)
 case false =>
  simp [yA] at hk
  have ek:k=f[i][j].2.length:=by omega
  rw [List.take_of_length_le (by omega)] at k2
  rw [show min k (f[i][j].2.length - 1)=f[i][j].2.length - 1 by omega] at k3
  have hsm:jW f→s=tZ f[i][j].2∧o=tZ (f[i][j].2.take (f[i][j].2.length - 1)):=fun hS => by
   have:=hS f[i] (wX hi) f[i][j] (wX hj)
   exact ⟨k2 this,k3 this⟩
  refine go13 ?_
  cases h4:yA Cm.gtr s 12
  case true =>
   simp [yA] at h4
   refine go13 ?_
   refine pX.of (fun hS => (sys_wide hcount ⟨f[i],wX hi,.inr ⟨f[i][j],wX hj,.inl ?_⟩⟩).symm) (fun h => absurd h (by decide)) (by decide)
   rw [(hsm hS).1] at h4
   exact (sum13_gt (by decide)).1 h4
  simp [yA] at h4
  refine go13 ?_
  cases cubic
  case false =>
   refine go13 ?_
   rw [xL j (by omega)]
   refine l_n (by rfl) (n':=f[i].length - (j+1)) (by omega) ⟨j+1,rfl,rfl,by omega,fun hS t ht => ?_⟩
   rw [wA hj] at ht
   rcases List.mem_append.1 ht with ht | ht
   ·exact j2 hS t ht
   ·simp at ht
    subst ht
    rintro (h | ⟨h,_⟩)
    ·have:=(sum13_gt (m:=12) (by decide)).2 h
     rw [←(hsm hS).1] at this
     omega
    ·cases h
  refine go13 ?_
  cases h5:yA Cm.gtr o 3
  case true =>
   simp [yA] at h5
   refine go13 ?_
   refine pX.of (fun hS => (sys_wide hcount ⟨f[i],wX hi,.inr ⟨f[i][j],wX hj,.inr ⟨rfl,?_⟩⟩⟩).symm) (fun h => absurd h (by decide)) (by decide)
   rw [(hsm hS).2] at h5
   exact (sum13_gt (by decide)).1 h5
  simp [yA] at h5
  refine go13 ?_
  rw [xL j (by omega)]
  refine l_n (by rfl) (n':=f[i].length - (j+1)) (by omega) ⟨j+1,rfl,rfl,by omega,fun hS t ht => ?_⟩
  rw [wA hj] at ht
  rcases List.mem_append.1 ht with ht | ht
  ·exact j2 hS t ht
  ·simp at ht
   subst ht
   rintro (h | ⟨_,h⟩)
   ·have:=(sum13_gt (m:=12) (by decide)).2 h
    rw [←(hsm hS).1] at this
    omega
   ·have:=(sum13_gt (m:=3) (by decide)).2 h
    rw [←(hsm hS).2] at this
    omega
 simp [yA] at hk
 have ka:=add13 hk k2
 refine go13 ?_
 rw [subI1' (by omega)]
 cases hq:yA Cm.lss (k:Int) ((f[i][j].2.length:Int) - 1)
 case true =>
  simp [yA] at hq
  refine go13 ?_
  rw [xL k (by omega)]
  refine l_n (by rfl) (n':=f[i][j].2.length - (k+1)) (by omega) ⟨k+1,_,_,rfl,rfl,rfl,by omega,ka,?_⟩
  rw [show min (k+1) (f[i][j].2.length - 1)=k+1 by omega]
  exact ka
 simp [yA] at hq
 refine go13 ?_
 rw [xL k (by omega)]
 refine l_n (by rfl) (n':=f[i][j].2.length - (k+1)) (by omega) ⟨k+1,_,_,rfl,rfl,rfl,by omega,ka,?_⟩
 rw [show min (k+1) (f[i][j].2.length - 1)=min k (f[i][j].2.length - 1) by omega]
 exact k3
end Go.Proofs.Ytokckcnfojjpjaa

namespace Go.Proofs.Ytokckcnfojjpjaa
open Go.RowKit
set_option maxRecDepth 20000
def Cap (D B:Nat) (q:Rat):Prop:=∃ n:Int,q*(D:Rat)=(n:Rat)∧n.natAbs≤B*D
theorem Cap.mul {D E B C:Nat} {q r:Rat} (h1:Cap D B q) (h2:Cap E C r):Cap (D*E) (B*C) (q*r):=by
 obtain ⟨n,h1,h3⟩:=h1
 obtain ⟨m,h2,h4⟩:=h2
 refine ⟨n*m,?_,?_⟩
 ·push_cast
  rw [←h1,←h2]
  grind
 ·rw [Int.natAbs_mul]
  calc n.natAbs*m.natAbs≤(B*D)*(C*E):=Nat.mul_le_mul h3 h4
   _=B*C*(D*E):=by rw [Nat.mul_mul_mul_comm]
theorem Cap.add {D B C:Nat} {q r:Rat} (h1:Cap D B q) (h2:Cap D C r):Cap D (B+C) (q+r):=by
 obtain ⟨n,h1,h3⟩:=h1
 obtain ⟨m,h2,h4⟩:=h2
 refine ⟨n+m,?_,?_⟩
 ·push_cast
  rw [←h1,←h2]
  grind
 ·rw [Nat.add_mul]
  omega
theorem Cap.neg {D B:Nat} {q:Rat} (h:Cap D B q):Cap D B (-q):=by
 obtain ⟨n,h1,h3⟩:=h
 refine ⟨-n,?_,by rwa [Int.natAbs_neg]⟩
 push_cast
 rw [←h1]
 grind
theorem Cap.sub {D B C:Nat} {q r:Rat} (h1:Cap D B q) (h2:Cap D C r):Cap D (B+C) (q - r):=by
 have:=h1.add h2.neg
 rwa [←Rat.sub_eq_add_neg] at this
theorem Cap.dvd {D E B:Nat} {q:Rat} (h:Cap D B q) (hd:D ∣ E):Cap E B q:=by
 obtain ⟨n,h1,h3⟩:=h
 obtain ⟨k,rfl⟩:=hd
 refine ⟨n*k,?_,?_⟩
 ·push_cast
  rw [←h1]
  grind
 ·rw [Int.natAbs_mul,Int.natAbs_natCast,←Nat.mul_assoc]
  exact Nat.mul_le_mul_right k h3
theorem Cap.mono {D B C:Nat} {q:Rat} (h:Cap D B q) (hb:B≤C):Cap D C q:=by
 obtain ⟨n,h1,h3⟩:=h
 exact ⟨n,h1,Nat.le_trans h3 (Nat.mul_le_mul_right D hb)⟩
theorem Cap.int {D:Nat} (z:Int):Cap D z.natAbs (z:Rat):=⟨z*D,by push_cast; rfl,by rw [Int.natAbs_mul,Int.natAbs_natCast]; exact Nat.le_refl _⟩
theorem Cap.one {D:Nat}:Cap D 1 1:=Cap.int 1
theorem Cap.zero {D B:Nat}:Cap D B 0:=⟨0,by simp,by simp⟩
theorem Cap.pow {D B:Nat} {q:Rat} (h:Cap D B q):∀ n:Nat,Cap (D ^ n) (B ^ n) (q ^ n)
 | 0 => by
  rw [Nat.pow_zero,Nat.pow_zero,Rat.pow_zero]
  exact Cap.one
 | n+1 => by
  rw [Nat.pow_succ,Nat.pow_succ,Rat.pow_succ]
  exact (Cap.pow h n).mul h
theorem Cap.rat {p:R2} (h:wL p.1 p.2):Cap p.2.natAbs 1000000000000 (rt p):=by
 obtain ⟨h1,h2,h3,h4,h5⟩:=h
 have e:((p.2.natAbs:Nat):Int)=p.2:=by omega
 have e2:((p.2.natAbs:Nat):Rat)=(p.2:Rat):=by
  rw [←Rat.intCast_natCast,e]
 refine ⟨p.1,?_,?_⟩
 ·rw [e2]
  unfold rt
  rw [Rat.divInt_eq_div]
  have:(p.2:Rat)≠0:=by
   intro h
   have:p.2=0:=by exact_mod_cast h
   omega
  rw [Rat.div_mul_cancel this]
 ·have:1≤p.2.natAbs:=by omega
  calc p.1.natAbs≤1000000000000*1:=by omega
   _≤1000000000000*p.2.natAbs:=Nat.mul_le_mul_left _ this
theorem sz_lt {n:Int} {k e:Nat} (h:n.natAbs≤2 ^ e) (he:e<32*k):Sz k n:=by
 unfold Sz
 calc n.natAbs≤2 ^ e:=h
  _<2 ^ (32*k):=Nat.pow_lt_pow_right (by decide) he
  _=4294967296 ^ k:=by rw [Nat.pow_mul]
theorem bd_divS {n d:Int} {q:Rat} {k:Nat} (hd:d≠0) (e:Rat.divInt n d=q) (h1:Sz k n) (h2:Sz k d):Bd k (rp q):=by
 have hdq:((q.den:Nat):Int)≠0:=by exact_mod_cast q.den_nz
 have e2:q.num*d=n*(q.den:Int):=by
  have:Rat.divInt q.num q.den=Rat.divInt n d:=by rw [e]; exact Rat.num_divInt_den q
  exact (Rat.divInt_eq_divInt_iff hdq hd).1 this
 have e3:q.num.natAbs*d.natAbs=n.natAbs*q.den:=by
  have:=congrArg Int.natAbs e2
  rwa [Int.natAbs_mul,Int.natAbs_mul,Int.natAbs_natCast] at this
 have c:=q.reduced
 have hd':0<d.natAbs:=Int.natAbs_pos.2 hd
 have l1:q.num.natAbs≤n.natAbs:=by
  rcases Nat.eq_zero_or_pos n.natAbs with h0 | h0
  ·rw [h0,Nat.zero_mul] at e3
   rcases Nat.mul_eq_zero.1 e3 with h | h
   ·omega
   ·omega
  ·exact Nat.le_of_dvd h0 (c.dvd_of_dvd_mul_right ⟨d.natAbs,e3.symm⟩)
 have l2:q.den≤d.natAbs:=Nat.le_of_dvd hd' (c.symm.dvd_of_dvd_mul_left ⟨n.natAbs,by rw [e3,Nat.mul_comm]⟩)
 exact ⟨Nat.lt_of_le_of_lt l1 h1,Nat.lt_of_le_of_lt (by simpa [rp] using l2) h2,nI q⟩
theorem Cap.bd {D d b k:Nat} {q:Rat} (h:Cap D (2 ^ b) q) (h0:0<D) (h1:D≤2 ^ d) (h2:b+d<32*k):Bd k (rp q):=by
 obtain ⟨n,h3,h4⟩:=h
 have hD:(D:Rat)≠0:=by
  intro h
  have:D=0:=by exact_mod_cast h
  omega
 refine bd_divS (n:=n) (d:=(D:Int)) (by omega) ?_ (sz_lt (e:=b+d) ?_ h2) (sz_lt (e:=b+d) ?_ h2)
 ·rw [Rat.divInt_eq_div,←h3]
  rw [Rat.intCast_natCast,Rat.mul_div_cancel hD]
 ·rw [Nat.pow_add]
  exact Nat.le_trans h4 (Nat.mul_le_mul_left _ h1)
 ·rw [Int.natAbs_natCast]
  exact Nat.le_trans h1 (Nat.pow_le_pow_right (by decide) (by omega))
def CpL (n:Nat) (l:List Rat):Prop:=∃ D,0<D∧D≤2 ^ n∧∀ q∈l,Cap D (2 ^ n) q
theorem CpL.bd {n k:Nat} {l:List Rat} (h:CpL n l) (hk:n+n<32*k) {q:Rat} (hq:q∈l):Bd k (rp q):=by
 obtain ⟨D,h1,h2,h3⟩:=h
 exact (h3 q hq).bd h1 h2 hk
theorem CpL.mono {n m:Nat} {l:List Rat} (h:CpL n l) (hm:n≤m):CpL m l:=by
 obtain ⟨D,h1,h2,h3⟩:=h
 have:=Nat.pow_le_pow_right (show 0<2 by decide) hm
 exact ⟨D,h1,Nat.le_trans h2 this,fun q hq => (h3 q hq).mono this⟩
theorem CpL.sub {n:Nat} {l m:List Rat} (h:CpL n l) (hm:∀ q∈m,q∈l):CpL n m:=by
 obtain ⟨D,h1,h2,h3⟩:=h
 exact ⟨D,h1,h2,fun q hq => h3 q (hm q hq)⟩
theorem CpL.append {n k:Nat} {l m:List Rat} (h:CpL n l) (h':CpL k m):CpL (n+k) (l++m):=by
 obtain ⟨D,h1,h2,h3⟩:=h
 obtain ⟨E,g1,g2,g3⟩:=h'
 refine ⟨D*E,Nat.mul_pos h1 g1,by rw [Nat.pow_add]; exact Nat.mul_le_mul h2 g2,fun q hq => ?_⟩
 rcases List.mem_append.1 hq with hq | hq
 ·exact ((h3 q hq).dvd ⟨E,rfl⟩).mono (Nat.pow_le_pow_right (by decide) (by omega))
 ·exact ((g3 q hq).dvd ⟨D,Nat.mul_comm _ _⟩).mono (Nat.pow_le_pow_right (by decide) (by omega))
theorem CpL.none:CpL 0 []:=⟨1,by decide,by decide,by simp⟩
theorem CpL.one {p:R2} (h:wL p.1 p.2):CpL 40 [rt p]:=by
 refine ⟨p.2.natAbs,by have:=h.1; omega,by have:=h.1; have:=h.2.1; omega,fun q hq => ?_⟩
 simp at hq
 subst hq
 exact (Cap.rat h).mono (by decide)
theorem CpL.rats:∀ {X:List R2},tA X→CpL (40*X.length) (X.map rt)
 | [],_ => CpL.none
 | p :: X,h => by
  have h1:=CpL.one (h p (by simp))
  have h2:=CpL.rats (X:=X) (fun q hq => h q (by simp [hq]))
  have:=h1.append h2
  rw [List.map_cons,List.length_cons,show 40*(X.length+1)=40+40*X.length by omega]
  exact this
def monV:List Rat→List Int→Rat
 | x :: xs,n :: X => x ^ n.toNat*monV xs X
 | _,_ => 1
def polV (xs:List Rat):Pl→Rat
 | [] => 0
 | t :: p => rt t.1*monV xs t.2+polV xs p
def jG (f:List Pl) (xs:List Rat):List Rat:=f.map (polV xs)
theorem monV_append:∀ {xs ys:List Rat} {X Y:List Int},xs.length=X.length→monV (xs++ys) (X++Y)=monV xs X*monV ys Y
 | [],ys,[],Y,_ => by simp [monV]
 | x :: xs,ys,n :: X,Y,h => by
  simp only [List.cons_append,monV]
  rw [monV_append (by simpa using h),Rat.mul_assoc]
 | [],_,_ :: _,_,h => by simp at h
 | _ :: _,_,[],_,h => by simp at h
theorem monV_take {xs:List Rat} {X:List Int} {k:Nat} (h:xs.length=X.length) (hk:k<X.length):monV (xs.take (k+1)) (X.take (k+1))=monV (xs.take k) (X.take k)*(xs[k]'(by omega)) ^ X[k].toNat:=by
 rw [wA (l:=xs) (by omega),wA hk,monV_append (by simp; omega)]
 simp [monV]
theorem polV_append (xs:List Rat):∀ (p q:Pl),polV xs (p++q)=polV xs p+polV xs q
 | [],q => by simp [polV,Rat.zero_add]
 | t :: p,q => by
  simp only [List.cons_append,polV]
  rw [polV_append xs p q,Rat.add_assoc]
theorem polV_take {xs:List Rat} {p:Pl} {j:Nat} (h:j<p.length):polV xs (p.take (j+1))=polV xs (p.take j)+rt p[j].1*monV xs p[j].2:=by
 rw [wA h,polV_append]
 simp [polV,Rat.add_zero]
structure TermOk (m:Nat) (t:Tm):Prop where
 len:t.2.length=m
 rat:wL t.1.1 t.1.2
 nn:∀ k∈t.2,0≤k
 deg:sumP t.2≤12
structure PolyOk (m:Nat) (p:Pl):Prop where
 len:p.length≤60
 term:∀ t∈p,TermOk m t
structure SysOk (m:Nat) (f:List Pl):Prop where
 len:f.length≤3
 poly:∀ p∈f,PolyOk m p
theorem cap_mon {D B:Nat}:∀ {xs:List Rat} {X:List Int},(∀ q∈xs,Cap D B q)→(∀ k∈X,0≤k)→0<D→0<B→Cap (D ^ (sumP X).toNat) (B ^ (sumP X).toNat) (monV xs X)
 | [],X,_,_,h3,h4 => by
  rw [show monV [] X=1 by cases X <;> rfl]
  exact (Cap.one).mono (Nat.pow_pos h4)
 | x :: xs,[],_,_,h3,h4 => by
  exact (Cap.one).mono (Nat.pow_pos h4)
 | x :: xs,n :: X,h1,h2,h3,h4 => by
  have hn:=h2 n (by simp)
  have ih:=cap_mon (xs:=xs) (X:=X) (fun q hq => h1 q (by simp [hq])) (fun k hk => h2 k (by simp [hk])) h3 h4
  have e:(sumP (n :: X)).toNat=n.toNat+(sumP X).toNat:=by
   have:=sumP_nn X
   simp only [sumP]
   split <;> omega
  rw [e,Nat.pow_add,Nat.pow_add]
  exact ((h1 x (by simp)).pow n.toNat).mul ih
theorem sumP_take:∀ (X:List Int) (k:Nat),sumP (X.take k)≤sumP X
 | [],k => by simp
 | x :: X,0 => by have:=sumP_nn (x :: X); simpa [sumP] using this
 | x :: X,k+1 => by
  have:=sumP_take X k
  simp only [List.take_succ_cons,sumP]
  omega
def dens:Pl→Nat
 | [] => 1
 | t :: p => t.1.2.natAbs*dens p
def densS:List Pl→Nat
 | [] => 1
 | p :: f => dens p*densS f
theorem dens_dvd:∀ {p:Pl} {t:Tm},t∈p→t.1.2.natAbs ∣ dens p
 | t :: p,u,h => by
  rcases List.mem_cons.1 h with rfl | h
  ·exact ⟨dens p,rfl⟩
  ·exact Nat.dvd_trans (dens_dvd h) ⟨t.1.2.natAbs,Nat.mul_comm _ _⟩
theorem densS_dvd:∀ {f:List Pl} {p:Pl},p∈f→dens p ∣ densS f
 | p :: f,q,h => by
  rcases List.mem_cons.1 h with rfl | h
  ·exact ⟨densS f,rfl⟩
  ·exact Nat.dvd_trans (densS_dvd h) ⟨dens p,Nat.mul_comm _ _⟩
theorem dens_le:∀ {p:Pl},(∀ t∈p,wL t.1.1 t.1.2)→0<dens p∧dens p≤2 ^ (40*p.length)
 | [],_ => by decide
 | t :: p,h => by
  have ih:=dens_le (p:=p) (fun u hu => h u (by simp [hu]))
  have h1:=h t (by simp)
  have h2:=h1.1
  have h3:=h1.2.1
  refine ⟨Nat.mul_pos (by omega) ih.1,?_⟩
  rw [List.length_cons,show 40*(p.length+1)=40+40*p.length by omega,Nat.pow_add]
  exact Nat.mul_le_mul (by omega) ih.2
theorem vH {a b c d e:Nat} (h:e=c+d) (h1:a≤2 ^ c) (h2:b≤2 ^ d):a*b≤2 ^ e:=by
 subst h
 rw [Nat.pow_add]
 exact Nat.mul_le_mul h1 h2
theorem bD {a c d:Nat} (h:a≤2 ^ c) (h2:c≤d):a≤2 ^ d:=Nat.le_trans h (Nat.pow_le_pow_right (by decide) h2)
theorem densS_le {m:Nat}:∀ {f:List Pl},(∀ p∈f,PolyOk m p)→0<densS f∧densS f≤2 ^ (2400*f.length)
 | [],_ => by decide
 | p :: f,h => by
  have ih:=densS_le (f:=f) (fun u hu => h u (by simp [hu]))
  have h1:=h p (by simp)
  have h2:=dens_le (p:=p) (fun t ht => (h1.term t ht).rat)
  have h3:=h1.len
  refine ⟨Nat.mul_pos h2.1 ih.1,?_⟩
  exact vH (c:=40*p.length+(2400 - 40*p.length)) (d:=2400*f.length) (by rw [List.length_cons]; omega) (bD h2.2 (by omega)) ih.2
theorem cap_term {D B m k:Nat} {xs:List Rat} {t:Tm} (ht:TermOk m t) (hx:∀ q∈xs,Cap D B q) (hD:0<D) (hB:0<B):Cap (t.1.2.natAbs*D ^ 12) (1000000000000*B ^ 12) (rt t.1*monV (xs.take k) (t.2.take k)):=by
 have h1:=cap_mon (xs:=xs.take k) (X:=t.2.take k) (fun q hq => hx q (List.mem_of_mem_take hq)) (fun j hj => ht.nn j (List.mem_of_mem_take hj)) hD hB
 have h2:=sumP_take t.2 k
 have h3:=ht.deg
 have h4:(sumP (t.2.take k)).toNat≤12:=by omega
 have h5:=(h1.dvd (Nat.pow_dvd_pow D h4)).mono (Nat.pow_le_pow_right hB h4)
 exact (Cap.rat ht.rat).mul h5
theorem uB {α:Type} {l:List α} {n:Nat} (h:l.length≤n):l.take n=l:=List.take_of_length_le h
theorem cap_term' {D B m:Nat} {xs:List Rat} {t:Tm} (ht:TermOk m t) (hx:∀ q∈xs,Cap D B q) (hD:0<D) (hB:0<B):Cap (t.1.2.natAbs*D ^ 12) (1000000000000*B ^ 12) (rt t.1*monV xs t.2):=by
 have h:=cap_term (k:=max xs.length t.2.length) ht hx hD hB
 rwa [uB (by omega),uB (by omega)] at h
theorem cap_pol {D B m:Nat} {xs:List Rat} (hx:∀ q∈xs,Cap D B q) (hD:0<D) (hB:0<B):∀ {E:Nat} {p:Pl},(∀ t∈p,TermOk m t)→(∀ t∈p,t.1.2.natAbs ∣ E)→Cap (E*D ^ 12) (p.length*(1000000000000*B ^ 12)) (polV xs p)
 | E,[],_,_ => Cap.zero
 | E,t :: p,h1,h2 => by
  have ih:=cap_pol hx hD hB (E:=E) (p:=p) (fun u hu => h1 u (by simp [hu])) (fun u hu => h2 u (by simp [hu]))
  have h3:=(cap_term' (h1 t (by simp)) hx hD hB).dvd (Nat.mul_dvd_mul_right (h2 t (by simp)) _)
  rw [List.length_cons,Nat.add_mul,Nat.add_comm,Nat.one_mul]
  exact h3.add ih
theorem pow12 {n:Nat}:(2 ^ n) ^ 12=2 ^ (12*n):=by rw [←Nat.pow_mul,Nat.mul_comm]
theorem bnd_pol {c n:Nat} (h:c≤64):c*(1000000000000*(2 ^ n) ^ 12)≤2 ^ (46+12*n):=by
 rw [pow12,Nat.pow_add,←Nat.mul_assoc]
 exact Nat.mul_le_mul_right _ (by omega)
theorem field_cpl {n m:Nat} {f:List Pl} {xs:List Rat} (hf:SysOk m f) (hx:CpL n xs):CpL (7200+12*n) (jG f xs):=by
 obtain ⟨D,h1,h2,h3⟩:=hx
 have hd:=densS_le hf.poly
 have hl:=hf.len
 refine ⟨densS f*D ^ 12,Nat.mul_pos hd.1 (Nat.pow_pos h1),?_,fun q hq => ?_⟩
 ·exact vH (c:=2400*f.length+(7200 - 2400*f.length)) (d:=12*n) (by omega) (bD hd.2 (by omega)) (by rw [←pow12]; exact Nat.pow_le_pow_left h2 12)
 ·obtain ⟨p,hp,rfl⟩:=List.mem_map.1 hq
  have hpo:=hf.poly p hp
  have:=cap_pol h3 h1 (Nat.pow_pos (by decide)) (E:=densS f) (p:=p) hpo.term (fun t ht => Nat.dvd_trans (dens_dvd ht) (densS_dvd hp))
  refine this.mono (Nat.le_trans (bnd_pol (by have:=hpo.len; omega)) (Nat.pow_le_pow_right (by decide) (by omega)))
theorem term_bd {n m k K:Nat} {xs:List Rat} {t:Tm} (ht:TermOk m t) (hx:CpL n xs) (hn:80+24*n<32*K):Bd K (rp (rt t.1*monV (xs.take k) (t.2.take k))):=by
 obtain ⟨D,h1,h2,h3⟩:=hx
 have h4:=cap_term (k:=k) ht h3 h1 (Nat.pow_pos (by decide))
 have hr:=ht.rat
 have r1:=hr.1
 have r2:=hr.2.1
 refine Cap.bd (b:=40+12*n) (d:=40+12*n) (h4.mono ?_) (Nat.mul_pos (by omega) (Nat.pow_pos h1)) ?_ (by omega)
 ·rw [pow12,Nat.pow_add]
  exact Nat.mul_le_mul_right _ (by decide)
 ·rw [Nat.pow_add,←pow12]
  exact Nat.mul_le_mul (by omega) (Nat.pow_le_pow_left h2 12)
theorem pol_bd {n m j K:Nat} {xs:List Rat} {p:Pl} (hp:PolyOk m p) (hx:CpL n xs) (hn:2446+24*n<32*K):Bd K (rp (polV xs (p.take j))):=by
 obtain ⟨D,h1,h2,h3⟩:=hx
 have hl:=hp.len
 have hl2:(p.take j).length≤60:=by rw [List.length_take]; omega
 have hd:=dens_le (p:=p.take j) (fun t ht => (hp.term t (List.mem_of_mem_take ht)).rat)
 have h4:=cap_pol (m:=m) h3 h1 (Nat.pow_pos (by decide)) (E:=dens (p.take j)) (p:=p.take j) (fun t ht => hp.term t (List.mem_of_mem_take ht)) (fun t ht => dens_dvd ht)
 refine Cap.bd (b:=46+12*n) (d:=2400+12*n) (h4.mono (bnd_pol (by omega))) (Nat.mul_pos hd.1 (Nat.pow_pos h1)) ?_ (by omega)
 exact vH (c:=40*(p.take j).length+(2400 - 40*(p.take j).length)) (d:=12*n) (by omega) (bD hd.2 (by omega)) (by rw [←pow12]; exact Nat.pow_le_pow_left h2 12)
end Go.Proofs.Ytokckcnfojjpjaa

namespace Go.Proofs.Ytokckcnfojjpjaa
open Go.RowKit
set_option maxRecDepth 20000
theorem closeB_getS:∀ {bs:List Nat} {H:Hp} {b:Nat} {cells:List C} {el:TypeId},b∈bs→H[b]?=some (.live ⟨cells,el,.rw⟩)→(xQ H bs)[b]?=some (.live ⟨cells,el,.ro⟩):=by
 have keep:∀ {bs:List Nat} {H:Hp} {b:Nat} {cells:List C} {el:TypeId} {kd:BK},H[b]?=some (.live ⟨cells,el,kd⟩)→(xQ H bs)[b]?=some (.live ⟨cells,el,kd⟩)∨(xQ H bs)[b]?=some (.live ⟨cells,el,.ro⟩):=by
  intro bs
  induction bs with
  | nil => intro H b cells el kd h; exact .inl h
  | cons a r ih =>
   intro H b cells el kd h
   have h2:=ih h
   unfold xQ
   split
   ·rename_i bx hbx
    split
    ·rename_i hk
     by_cases e:a=b
     ·subst e
      rw [List.getElem?_set_self (lt_of_getElem? hbx)]
      rcases h2 with h2 | h2
      ·rw [h2] at hbx
       cases hbx
       exact .inr rfl
      ·rw [h2] at hbx
       cases hbx
       exact .inr rfl
     ·rw [List.getElem?_set_ne e]
      exact h2
    ·exact h2
   ·exact h2
 intro bs
 induction bs with
 | nil => intro H b cells el hm; cases hm
 | cons a r ih =>
  intro H b cells el hm h
  by_cases e:a=b
  ·subst e
   have h2:=keep (bs:=r) h
   unfold xQ
   rcases h2 with h2 | h2
   ·rw [h2]
    simp only
    rw [List.getElem?_set_self (lt_of_getElem? h2)]
   ·rw [h2]
    exact h2
  ·have hm:b∈r:=by
    rcases List.mem_cons.1 hm with h3 | h3
    ·exact absurd h3.symm e
    ·exact h3
   have h2:=ih hm h
   unfold xQ
   split
   ·split
    ·rw [List.getElem?_set_ne e]
     exact h2
    ·exact h2
   ·exact h2
theorem Out.closeS {α:Type} {E:El α} {el:TypeId} {m:Nat} {H:Hp} {c:C} {l:List α} (h:Out E el m H c l):∃ bs d,Fz (·=.ro) (xQ H bs) c d∧Ls E d l:=by
 cases h with
 | nil => exact ⟨[],_,.hf trivial,.nil⟩
 | sl hm hb hn hc h =>
  rename_i b n co cells ds
  subst hn
  refine ⟨[b],_,.sl (closeB_getS (List.mem_cons_self) hb) rfl (by simp) ?_,.imm h⟩
  simp only [List.drop_zero]
  rw [hc]
  exact .hf h.hf
theorem IQ.tightS {k m:Nat} {cs:List C} {q:Rat} (h:IQ k cs q) (hb:Bd m (rp q)):IQ m cs q:=⟨h.is,hb⟩
theorem IR.tightS {k m:Nat} {cs:List C} {q:Rat} (h:IR k cs q) (hb:Bd m (rp q)):IR m cs q:=⟨h.is,hb⟩
theorem ld_splice {s:Option Slot} {cells cs:List C} {el:TypeId} {kd:BK} {size off off':Nat} {K:V→Prop} (h:s=some (.live ⟨splice cells off cs,el,kd⟩)) (hl:cs.length=size) (hf:off'=off) (ho:off+size≤cells.length) (k:K (.agg cs)):yW s true size off' K:=by
 subst hf
 refine yM h (Nat.ble_eq_true_of_le (by simp only; rw [pK (by omega)]; exact ho)) ?_
 simp only
 rw [get_splice (by omega) hl]
 exact k
theorem sumP_mem {x:Int}:∀ {X:List Int},x∈X→x≤sumP X
 | y :: X,h => by
  have h0:=sumP_nn X
  simp only [sumP]
  rcases List.mem_cons.1 h with rfl | h
  ·split <;> omega
  ·have:=sumP_mem h
   split <;> omega
def yO (x:List Rat) (c:Rat) (k:List Rat):List Rat:=List.zipWith (fun a b => a+c*b) x k
attribute [local irreducible] yA semH semC qLen qNil qIad qSlc qIdx yW yI xA appX appI slcX awpF yP xH xopF xM qval lval seqQ xJ xY xU xR cnd arith IntKind.wrap
theorem step_At {cf cx:C} {f:List Pl} {xs:List Rat} {n:Nat} (hc:Ls elM cf f) (hf:SysOk xs.length f) (hx:Ls (elQ 4194304) cx xs) (hb:CpL n xs) (hn:2446+24*n<134217728):semC Try.prog n_step_At [.c cf,.c cx] (LsK (elQ 4194304) (jG f xs)):=by
 refine yD ok_step_At rfl (show HFVs [.c cf,.c cx] from ⟨hc.hf,hx.hf,trivial⟩) ?_
 have hlen:=hf.len
 refine go13 ?_
 refine vQ (by rfl) (by rfl) ⟨by omega,by omega,by omega,by omega⟩ ?_
 refine go13 ?_
 refine goN ?_
 refine yX (fun w vs H => ∃ (i:Nat) (cells:List C) (R:Hp),vs=[.c cx,.c (.sl 0 0 f.length (some f.length) 6),.c cf,i64 f.length,i64 i]∧H=.live ⟨cells,yR,.rw⟩ :: R∧w=f.length - i∧i≤f.length∧Fill (elQ 4194304) jR f.length cells ((jG f xs).take i)) (by rfl) ⟨0,_,[],rfl,rfl,rfl,by omega,.zero rfl⟩ ?_
 rintro w vs H ⟨i,cells,R,rfl,rfl,rfl,i1,i2⟩
 have hcl:cells.length=f.length*6:=i2.len
 have hfl:(jG f xs).length=f.length:=by simp [jG]
 have htl:((jG f xs).take i).length=i:=by rw [List.length_take]; omega
 refine go13 ?_
 cases hi:yA Cm.lss (i:Int) (f.length:Int)
 case false =>
  simp [yA] at hi
  have ei:i=f.length:=by omega
  subst ei
  rw [uB (by omega)] at i2
  have h4:=i2.done (by omega)
  have h5:=Ls.imm h4
  rw [hfl] at h5
  refine go13 ?_
  exact ⟨_,.c (fz_sl (bx:=⟨cells,yR,.rw⟩) (ds:=cells) (by rfl) (by simp) (by simp) (by rw [List.drop_zero,List.take_of_length_le (by simp only; omega)]) h4.hf),_,rfl,h5⟩
 simp [yA] at hi
 refine go13 ?_
 refine uX hc (i:=i) hi (by omega) rfl (fun cs hcs => ?_)
 obtain ⟨d,rfl,hd,hdl⟩:=hcs
 unfold vZ at hdl
 have hp:=hf.poly f[i] (wX hi)
 have hpl:=hp.len
 refine go13 ?_
 refine yB (sA (g:=0) (by decide)) (fun u hu => ?_)
 obtain ⟨es,rfl,g0⟩:=hu
 obtain ⟨_,_,_,_,_,_,rfl⟩:=id g0.six
 refine go13 ?_
 refine yX (fun w vs H => ∃ (j:Nat) (acc:List C) (R:Hp),vs=[.c cx,.c (.sl 0 0 f.length (some f.length) 6),i64 i,.c cf,i64 f.length,i64 i,.c d,i64 f[i].length,i64 j]∧H=.live ⟨splice cells (i*6) acc,yR,.rw⟩ :: R∧w=f[i].length - j∧j≤f[i].length∧IQ 4194304 acc (polV xs (f[i].take j))) (by rfl) ⟨0,_,_,rfl,by rw [Nat.zero_add]; rfl,rfl,by omega,g0.up (by decide)⟩ ?_
 clear g0
 rintro w vs H ⟨j,acc,R,rfl,rfl,rfl,j1,j2⟩
 obtain ⟨a0,a1,a2,a3,a4,a5,rfl⟩:=id j2.six
 refine go13 ?_
 cases hj:yA Cm.lss (j:Int) (f[i].length:Int)
 case false =>
  simp [yA] at hj
  rw [uB (by omega)] at j2
  refine go13 ?_
  rw [xL i (by omega)]
  have h4:=i2.put (cs:=[a0,a1,a2,a3,a4,a5]) (a:=polV xs f[i]) (by rw [htl]; exact hi) j2
  rw [htl] at h4
  refine l_n (by rfl) (n':=f.length - (i+1)) (by omega) ⟨i+1,_,_,rfl,rfl,rfl,by omega,?_⟩
  rw [wA (show i<(jG f xs).length by omega),show (jG f xs)[i]'(by omega)=polV xs f[i] by simp [jG]]
  exact h4
 simp [yA] at hj
 refine go13 ?_
 refine uX hd (i:=j) hj (by omega) rfl (fun cs hcs => ?_)
 obtain ⟨e,rfl,he,hel⟩:=hcs
 unfold vZ at hel
 have ht:=hp.term f[i][j] (wX hj)
 have hxl:=ht.len
 refine go13 ?_
 refine yB (q_Of ht.rat) (fun u hu => ?_)
 obtain ⟨es,rfl,g1⟩:=hu
 obtain ⟨_,_,_,_,_,_,rfl⟩:=id g1.six
 refine go13 ?_
 refine yX (fun w vs H => ∃ (k:Nat) (ac:List C),vs=[.c cx,.c (.sl 0 0 f.length (some f.length) 6),i64 i,.c (.ptr (((.live ⟨splice cells (i*6) [a0,a1,a2,a3,a4,a5],yR,.rw⟩ :: R)++[.live ⟨[iC f[i][j].1.1,iC f[i][j].1.2,e],uC,.rw⟩]):Hp).length 0),.c cf,i64 f.length,i64 i,.c d,i64 f[i].length,i64 j,.c e,i64 f[i][j].2.length,i64 k]∧H=((.live ⟨splice cells (i*6) [a0,a1,a2,a3,a4,a5],yR,.rw⟩ :: R)++[.live ⟨[iC f[i][j].1.1,iC f[i][j].1.2,e],uC,.rw⟩])++[.live ⟨ac,yR,.rw⟩]∧w=f[i][j].2.length - k∧k≤f[i][j].2.length∧IQ 4194304 ac (rt f[i][j].1*monV (xs.take k) (f[i][j].2.take k))) (by rfl) ⟨0,_,rfl,rfl,rfl,by omega,by rw [List.take_zero,List.take_zero]; simp only [monV]; rw [Rat.mul_one]; exact g1.up (by decide)⟩ ?_
 clear g1
 rintro w vs H ⟨k,ac,rfl,rfl,rfl,k1,k2⟩
 obtain ⟨b0,b1,b2,b3,b4,b5,rfl⟩:=id k2.six
 refine go13 ?_
 cases hk:yA Cm.lss (k:Int) (f[i][j].2.length:Int)
 case false =>
  simp [yA] at hk
  rw [uB (by omega),uB (by omega)] at k2
  refine go13 ?_
  refine ld_splice (cells:=cells) (off:=i*6) (cs:=[a0,a1,a2,a3,a4,a5]) (by rfl) (by rfl) (by omega) (by omega) ?_
  refine go13 ?_
  refine yB (pR j2 k2 (by decide)) (fun u hu => ?_)
  obtain ⟨gs,rfl,g2⟩:=hu
  have hs:polV xs (f[i].take j)+rt f[i][j].1*monV xs f[i][j].2=polV xs (f[i].take (j+1)):=(polV_take hj).symm
  rw [hs] at g2
  have g2:=g2.tightS (pol_bd (j:=j+1) (K:=4194304) hp hb (by omega))
  obtain ⟨_,_,_,_,_,_,rfl⟩:=id g2.six
  refine go13 ?_
  refine xC (cs:=splice cells (i*6) [a0,a1,a2,a3,a4,a5]) (by rfl) (by rfl) (by rfl) (by rw [pK (by simp only [List.length_cons,List.length_nil]; omega)]; omega) ?_
  refine go13 ?_
  rw [xL j (by omega)]
  refine l_n (by rfl) (n':=f[i].length - (j+1)) (by omega) ⟨j+1,_,_,rfl,by rw [Nat.zero_add,Int.toNat_natCast,nF (by omega) (by rfl)]; rfl,rfl,by omega,g2⟩
 simp [yA] at hk
 have hnn:=ht.nn _ (wX hk)
 have hmt:=monV_take (xs:=xs) (X:=f[i][j].2) (k:=k) hxl.symm hk
 refine go13 ?_
 cases hz:yA Cm.gtr f[i][j].2[k] 0
 case false =>
  simp [yA] at hz
  have e0:f[i][j].2[k].toNat=0:=by omega
  rw [e0,Rat.pow_zero,Rat.mul_one] at hmt
  refine go13 ?_
  rw [xL k (by omega)]
  refine l_n (by rfl) (n':=f[i][j].2.length - (k+1)) (by omega) ⟨k+1,_,rfl,rfl,rfl,by omega,?_⟩
  rw [hmt]
  exact k2
 refine go13 ?_
 refine uX hx (i:=k) (by omega) (by omega) rfl (fun cs hcs => ?_)
 refine go13 ?_
 obtain ⟨m,hm⟩:=Int.eq_ofNat_of_zero_le hnn
 have hm2:f[i][j].2[k].toNat=m:=by omega
 have hle:m≤12:=by
  have h1:=ht.deg
  have h2:=sumP_mem (wX hk) (X:=f[i][j].2)
  omega
 rw [hm]
 refine yS (q_Pow m hcs (by omega) (by omega)) (fun u hu => ?_)
 obtain ⟨gs,rfl,g2⟩:=hu
 refine go13 ?_
 refine yB (sG k2 g2 (by omega)) (fun u hu => ?_)
 obtain ⟨ms,rfl,g3⟩:=hu
 rw [hm2] at hmt
 have hs:rt f[i][j].1*monV (xs.take k) (f[i][j].2.take k)*(xs[k]'(by omega)) ^ m=rt f[i][j].1*monV (xs.take (k+1)) (f[i][j].2.take (k+1)):=by rw [hmt,Rat.mul_assoc]
 rw [hs] at g3
 have g3:=g3.tightS (term_bd (k:=k+1) (K:=4194304) ht hb (by omega))
 obtain ⟨_,_,_,_,_,_,rfl⟩:=id g3.six
 refine go13 ?_
 rw [xL k (by omega)]
 exact l_n (by rfl) (n':=f[i][j].2.length - (k+1)) (by omega) ⟨k+1,_,rfl,rfl,rfl,by omega,g3⟩
end Go.Proofs.Ytokckcnfojjpjaa

namespace Go.Proofs.Ytokckcnfojjpjaa
open Go.RowKit
set_option maxRecDepth 20000
section
variable {P:Program} {e:Env} {H:Hp} {K:Env→Hp→Prop} {rd:List DOp} {log:List (Nat × Option Nat)} {n0 i aid:Nat} {inc:List Nat} {T:Option Nat}
theorem d_keepA2 {d:Nat} {el:TypeId} {es bytes:Nat} {s x:AO} (hl:pN (.app el es bytes s x) inc=true) (hT:tch e (n0+aid) (.app el es bytes s x)=T) (h:sV inc T log=true) (k:appX H el es bytes (s.ev e) (x.ev e) fun v H' => jA inc log H H'∧xH P n0 rd ((i,T) :: log) (put e d v) H' K):xH P n0 (⟨i,aid,⟨some d,.app el es bytes s x,none⟩,inc⟩ :: rd) log e H K:=d_keep hl hT h (x_app k)
theorem d_keepC {d:Nat} {f:AO} {args:List AO} {g:FuncId} {us:List V} (hl:pN (.call f args) inc=true) (hT:tch e (n0+aid) (.call f args)=T) (h:sV inc T log=true) (h1:f.ev e=some (.c (.fn g []))) (h2:evs e args=some us) (k:semH P g us H fun v H' => jA inc log H H'∧xH P n0 rd ((i,T) :: log) (put e d v) H' K):xH P n0 (⟨i,aid,⟨some d,.call f args,none⟩,inc⟩ :: rd) log e H K:=d_keep hl hT h (jX h1 h2 k)
end
def lowLog2 (n:Nat) (log:List (Nat × Option Nat)):Bool:=log.all fun p => match p.2 with
 | none => true
 | some b => Nat.ble (b+1) n
theorem keep_low4 {F R R':Hp} {inc:List Nat} {log:List (Nat × Option Nat)} (h:lowLog2 F.length log=true):jA inc log (F++R) (F++R'):=fun p hp _ b hb => by
 have h2:=List.all_eq_true.1 h p hp
 rw [hb] at h2
 have h3:b<F.length:=Nat.le_of_ble_eq_true h2
 rw [List.getElem?_append_left h3,List.getElem?_append_left h3]
theorem keep_low5 {F R':Hp} {inc:List Nat} {log:List (Nat × Option Nat)} (h:lowLog2 F.length log=true):jA inc log F (F++R'):=by
 have:=keep_low4 (F:=F) (R:=[]) (R':=R') (inc:=inc) h
 rwa [List.append_nil] at this
theorem go12 {A B:Prop} (k:B) (h:Held B→A:=by
 intro hgo
 repeat (first | (refine g_o ?_; first | (refine o_some ?_; try (first | (refine x_q (by rfl) ?_; try (first | refine q_mv (by rfl) ?_ | refine wZ (by rfl) ?_ | (refine tJ ?_; try (first | refine tX (by rfl) (by assumption) ?_ | refine vK (by rfl) (by assumption) ?_ | refine vL (by rfl) ?_ | refine wE (by rfl) ?_ | refine wD (by rfl) ?_)) | (refine tL ?_; try (first | refine tY (by rfl) (by rfl) (by assumption) (by omega) (by omega) ?_ | refine wW (by rfl) (by rfl) (by assumption) (by omega) (by omega) ?_ | refine vJ (by rfl) (by rfl) (by decide) (by decide) ?_ | refine yL (by rfl) (by rfl) (by decide) (by decide) ?_ | refine vD (by rfl) (by rfl) (by decide) (by decide) ?_ | refine yL (by rfl) (by rfl) (by omega) (by omega) ?_)) | refine q_cm (by rfl) (by rfl) ?_ | refine q_ar (by rfl) (by rfl) (by rfl) ?_ | refine vW (by rfl) ?_ | (refine tP ?_; try (first | refine wP (by rfl) ?_ | refine wQ (by rfl) ?_ | refine vM (by rfl) ?_)) | refine tO (by rfl) (by rfl) ?_ | refine wY (by rfl) ?_ | refine vA (by rfl) ?_ | refine tF (by rfl) (by rfl) (by first | decide | omega) ?_ | refine tE (by rfl) (by rfl) (by first | decide | omega) ?_ | refine tQ (by rfl) (by rfl) ?_ | refine tR (by rfl) (by rfl) (by rfl) ?_ | refine tH (by rfl) ?_ | refine tG (by rfl) ?_ | refine wG (by rfl) (by rfl) ?_ | refine wH (by rfl) (by rfl) ?_ | refine tD ?_ | refine tK ?_ | refine tN (by rfl) (by rfl) ?_ | refine vV (by rfl) (by rfl) ?_ | refine wJ (by rfl) ?_ | refine q_mx (by rfl) (by rfl) ?_ | refine q_mn (by rfl) (by rfl) ?_ | refine tI (by rfl) (by rfl) (by rfl) ?_ | refine tM (by rfl) ?_ | refine vX (by rfl) ?_ | refine vY (by rfl) ?_ | refine wI (by rfl) ?_ | refine vB (by rfl) (by rfl) ?_ | refine vC (by rfl) (by rfl) ?_)) | (refine bC ?_; try (first | (refine tS (by rfl) ?_; try (first | refine yU (by rfl) (by rfl) ?_ | refine yM (by rfl) (by rfl) ?_ | refine yU (yJ _ _) (by rfl) ?_ | refine yM (yJ _ _) (by rfl) ?_ | refine yU (wS _ _ _ _) (by rfl) ?_ | refine yM (wS _ _ _ _) (by rfl) ?_ | refine yU (wR _ _ _) (by rfl) ?_ | refine yM (wR _ _ _) (by rfl) ?_)) | (refine tT (by rfl) ?_; try (first | refine qD (by assumption) (by omega) (by omega) (fun _ _ => ?_) | refine uJ (by omega) (by omega) ?_ | refine xZ (Nat.le_of_ble_eq_true (by rfl)) ?_ | refine xC (by rfl) (by rfl) (by rfl) (by omega) ?_)))) | refine tV (by rfl) (by rfl) (by rfl) (by rfl) (Nat.le_of_ble_eq_true (by rfl)) ?_ | (refine pQ (by rfl) (by rfl) ?_; try (first | refine xC (by rfl) (by rfl) (by rfl) (Nat.le_of_ble_eq_true (by rfl)) ?_ | refine xC (by rfl) (by rfl) (by rfl) (by omega) ?_)) | refine jX (by rfl) (by rfl) ?_ | refine x_box (by rfl) (by rfl) ?_ | refine jO ?_ | refine x_frzSl (by rfl) ?_ | refine x_app ?_ | refine bB ?_ | refine jM ?_ | refine jN (by rfl) (by rfl) (by rfl) (by rfl) ?_ | refine qZ (by rfl) (by rfl) (by rfl) ?_)) | (refine o_nil ?_; try (first | refine s_n ?_ | refine s_r ?_ | refine s_e ?_ | refine k_n ?_ | refine k_r ?_ | refine k_e (by rfl) ?_ | refine k_o (by rfl) ?_ | refine l_r ?_ | refine l_e ?_ | refine b_r ?_ | refine b_n ?_)) | refine o_guard (by rfl) ?_ | refine o_guardT (by rfl) ?_ | refine o_none ?_ | refine o_guardN (by rfl) ?_) | (refine g_f ?_; first | refine f_seq ?_ | refine f_reg ?_ | (refine f_cond (by rfl) ?_; try (first | refine c_t (by rfl) ?_ | refine c_f (by rfl) ?_)) | refine f_block ?_ | refine f_skip ?_ | refine f_ret ?_ | refine f_exit ?_ | refine f_regD0 ?_ | refine f_regD ?_) | (refine g_s ?_; first | refine s_n ?_ | refine s_r ?_ | refine s_e ?_) | (refine g_d ?_; first | refine d_keepA2 (T:=none) (by rfl) (by rfl) (by rfl) ?_ | refine d_late (T:=none) (by rfl) (by rfl) (by rfl) (by rfl) ?_ | refine d_keepC (T:=none) (by rfl) (by rfl) (by rfl) (by rfl) (by rfl) ?_ | (refine jZ (T:=none) (by rfl) (by rfl) ?_; try (first | (refine xd_q (by rfl) ?_; try (first | refine q_mv (by rfl) ?_ | refine wZ (by rfl) ?_ | (refine tJ ?_; try (first | refine tX (by rfl) (by assumption) ?_ | refine vK (by rfl) (by assumption) ?_ | refine vL (by rfl) ?_ | refine wE (by rfl) ?_ | refine wD (by rfl) ?_)) | (refine tL ?_; try (first | refine tY (by rfl) (by rfl) (by assumption) (by omega) (by omega) ?_ | refine wW (by rfl) (by rfl) (by assumption) (by omega) (by omega) ?_ | refine vJ (by rfl) (by rfl) (by decide) (by decide) ?_ | refine yL (by rfl) (by rfl) (by decide) (by decide) ?_ | refine vD (by rfl) (by rfl) (by decide) (by decide) ?_ | refine yL (by rfl) (by rfl) (by omega) (by omega) ?_)) | refine q_cm (by rfl) (by rfl) ?_ | refine q_ar (by rfl) (by rfl) (by rfl) ?_ | refine vW (by rfl) ?_ | (refine tP ?_; try (first | refine wP (by rfl) ?_ | refine wQ (by rfl) ?_ | refine vM (by rfl) ?_)) | refine tO (by rfl) (by rfl) ?_ | refine wY (by rfl) ?_ | refine vA (by rfl) ?_ | refine tF (by rfl) (by rfl) (by first | decide | omega) ?_ | refine tE (by rfl) (by rfl) (by first | decide | omega) ?_ | refine tQ (by rfl) (by rfl) ?_ | refine tR (by rfl) (by rfl) (by rfl) ?_ | refine tH (by rfl) ?_ | refine tG (by rfl) ?_ | refine wG (by rfl) (by rfl) ?_ | refine wH (by rfl) (by rfl) ?_ | refine tD ?_ | refine tK ?_ | refine tN (by rfl) (by rfl) ?_ | refine vV (by rfl) (by rfl) ?_ | refine wJ (by rfl) ?_ | refine q_mx (by rfl) (by rfl) ?_ | refine q_mn (by rfl) (by rfl) ?_ | refine tI (by rfl) (by rfl) (by rfl) ?_ | refine tM (by rfl) ?_ | refine vX (by rfl) ?_ | refine vY (by rfl) ?_ | refine wI (by rfl) ?_ | refine vB (by rfl) (by rfl) ?_ | refine vC (by rfl) (by rfl) ?_)) | (refine sL ?_; try (first | (refine tS (by rfl) ?_; try (first | refine yU (by rfl) (by rfl) ?_ | refine yM (by rfl) (by rfl) ?_ | refine yU (yJ _ _) (by rfl) ?_ | refine yM (yJ _ _) (by rfl) ?_ | refine yU (wS _ _ _ _) (by rfl) ?_ | refine yM (wS _ _ _ _) (by rfl) ?_ | refine yU (wR _ _ _) (by rfl) ?_ | refine yM (wR _ _ _) (by rfl) ?_)) | (refine tT (by rfl) ?_; try (first | refine qD (by assumption) (by omega) (by omega) (fun _ _ => ?_) | refine uJ (by omega) (by omega) ?_ | refine xZ (Nat.le_of_ble_eq_true (by rfl)) ?_ | refine xC (by rfl) (by rfl) (by rfl) (by omega) ?_)))) | refine vN (by rfl) (by rfl) (by rfl) (by rfl) (Nat.le_of_ble_eq_true (by rfl)) ?_ | (refine uQ (by rfl) (by rfl) ?_; try (first | refine xC (by rfl) (by rfl) (by rfl) (Nat.le_of_ble_eq_true (by rfl)) ?_ | refine xC (by rfl) (by rfl) (by rfl) (by omega) ?_)) | refine sM (by rfl) (by rfl) ?_ | refine pJ (by rfl) (by rfl) (by rfl) ?_ | refine uR (by rfl) ?_ | refine bK (by rfl) ?_)) | (refine jZ (by rfl) (by rfl) ?_; try (first | (refine xd_q (by rfl) ?_; try (first | refine q_mv (by rfl) ?_ | refine wZ (by rfl) ?_ | (refine tJ ?_; try (first | refine tX (by rfl) (by assumption) ?_ | refine vK (by rfl) (by assumption) ?_ | refine vL (by rfl) ?_ | refine wE (by rfl) ?_ | refine wD (by rfl) ?_)) | (refine tL ?_; try (first | refine tY (by rfl) (by rfl) (by assumption) (by omega) (by omega) ?_ | refine wW (by rfl) (by rfl) (by assumption) (by omega) (by omega) ?_ | refine vJ (by rfl) (by rfl) (by decide) (by decide) ?_ | refine yL (by rfl) (by rfl) (by decide) (by decide) ?_ | refine vD (by rfl) (by rfl) (by decide) (by decide) ?_ | refine yL (by rfl) (by rfl) (by omega) (by omega) ?_)) | refine q_cm (by rfl) (by rfl) ?_ | refine q_ar (by rfl) (by rfl) (by rfl) ?_ | refine vW (by rfl) ?_ | (refine tP ?_; try (first | refine wP (by rfl) ?_ | refine wQ (by rfl) ?_ | refine vM (by rfl) ?_)) | refine tO (by rfl) (by rfl) ?_ | refine wY (by rfl) ?_ | refine vA (by rfl) ?_ | refine tF (by rfl) (by rfl) (by first | decide | omega) ?_ | refine tE (by rfl) (by rfl) (by first | decide | omega) ?_ | refine tQ (by rfl) (by rfl) ?_ | refine tR (by rfl) (by rfl) (by rfl) ?_ | refine tH (by rfl) ?_ | refine tG (by rfl) ?_ | refine wG (by rfl) (by rfl) ?_ | refine wH (by rfl) (by rfl) ?_ | refine tD ?_ | refine tK ?_ | refine tN (by rfl) (by rfl) ?_ | refine vV (by rfl) (by rfl) ?_ | refine wJ (by rfl) ?_ | refine q_mx (by rfl) (by rfl) ?_ | refine q_mn (by rfl) (by rfl) ?_ | refine tI (by rfl) (by rfl) (by rfl) ?_ | refine tM (by rfl) ?_ | refine vX (by rfl) ?_ | refine vY (by rfl) ?_ | refine wI (by rfl) ?_ | refine vB (by rfl) (by rfl) ?_ | refine vC (by rfl) (by rfl) ?_)) | (refine sL ?_; try (first | (refine tS (by rfl) ?_; try (first | refine yU (by rfl) (by rfl) ?_ | refine yM (by rfl) (by rfl) ?_ | refine yU (yJ _ _) (by rfl) ?_ | refine yM (yJ _ _) (by rfl) ?_ | refine yU (wS _ _ _ _) (by rfl) ?_ | refine yM (wS _ _ _ _) (by rfl) ?_ | refine yU (wR _ _ _) (by rfl) ?_ | refine yM (wR _ _ _) (by rfl) ?_)) | (refine tT (by rfl) ?_; try (first | refine qD (by assumption) (by omega) (by omega) (fun _ _ => ?_) | refine uJ (by omega) (by omega) ?_ | refine xZ (Nat.le_of_ble_eq_true (by rfl)) ?_ | refine xC (by rfl) (by rfl) (by rfl) (by omega) ?_)))) | refine vN (by rfl) (by rfl) (by rfl) (by rfl) (Nat.le_of_ble_eq_true (by rfl)) ?_ | (refine uQ (by rfl) (by rfl) ?_; try (first | refine xC (by rfl) (by rfl) (by rfl) (Nat.le_of_ble_eq_true (by rfl)) ?_ | refine xC (by rfl) (by rfl) (by rfl) (by omega) ?_)) | refine sM (by rfl) (by rfl) ?_ | refine pJ (by rfl) (by rfl) (by rfl) ?_ | refine uR (by rfl) ?_ | refine bK (by rfl) ?_)) | (refine d_nil ?_; try (first | refine s_n ?_ | refine s_r ?_ | refine s_e ?_ | refine k_n ?_ | refine k_r ?_ | refine k_e (by rfl) ?_ | refine k_o (by rfl) ?_ | refine l_r ?_ | refine l_e ?_ | refine b_r ?_ | refine b_n ?_)) | refine d_none (by rfl) (by rfl) ?_ | refine d_guard (by rfl) (by rfl) (by rfl) ?_) | (refine g_x ?_; first | (refine x_q (by rfl) ?_; try (first | refine q_mv (by rfl) ?_ | refine wZ (by rfl) ?_ | (refine tJ ?_; try (first | refine tX (by rfl) (by assumption) ?_ | refine vK (by rfl) (by assumption) ?_ | refine vL (by rfl) ?_ | refine wE (by rfl) ?_ | refine wD (by rfl) ?_)) | (refine tL ?_; try (first | refine tY (by rfl) (by rfl) (by assumption) (by omega) (by omega) ?_ | refine wW (by rfl) (by rfl) (by assumption) (by omega) (by omega) ?_ | refine vJ (by rfl) (by rfl) (by decide) (by decide) ?_ | refine yL (by rfl) (by rfl) (by decide) (by decide) ?_ | refine vD (by rfl) (by rfl) (by decide) (by decide) ?_ | refine yL (by rfl) (by rfl) (by omega) (by omega) ?_)) | refine q_cm (by rfl) (by rfl) ?_ | refine q_ar (by rfl) (by rfl) (by rfl) ?_ | refine vW (by rfl) ?_ | (refine tP ?_; try (first | refine wP (by rfl) ?_ | refine wQ (by rfl) ?_ | refine vM (by rfl) ?_)) | refine tO (by rfl) (by rfl) ?_ | refine wY (by rfl) ?_ | refine vA (by rfl) ?_ | refine tF (by rfl) (by rfl) (by first | decide | omega) ?_ | refine tE (by rfl) (by rfl) (by first | decide | omega) ?_ | refine tQ (by rfl) (by rfl) ?_ | refine tR (by rfl) (by rfl) (by rfl) ?_ | refine tH (by rfl) ?_ | refine tG (by rfl) ?_ | refine wG (by rfl) (by rfl) ?_ | refine wH (by rfl) (by rfl) ?_ | refine tD ?_ | refine tK ?_ | refine tN (by rfl) (by rfl) ?_ | refine vV (by rfl) (by rfl) ?_ | refine wJ (by rfl) ?_ | refine q_mx (by rfl) (by rfl) ?_ | refine q_mn (by rfl) (by rfl) ?_ | refine tI (by rfl) (by rfl) (by rfl) ?_ | refine tM (by rfl) ?_ | refine vX (by rfl) ?_ | refine vY (by rfl) ?_ | refine wI (by rfl) ?_ | refine vB (by rfl) (by rfl) ?_ | refine vC (by rfl) (by rfl) ?_)) | (refine bC ?_; try (first | (refine tS (by rfl) ?_; try (first | refine yU (by rfl) (by rfl) ?_ | refine yM (by rfl) (by rfl) ?_ | refine yU (yJ _ _) (by rfl) ?_ | refine yM (yJ _ _) (by rfl) ?_ | refine yU (wS _ _ _ _) (by rfl) ?_ | refine yM (wS _ _ _ _) (by rfl) ?_ | refine yU (wR _ _ _) (by rfl) ?_ | refine yM (wR _ _ _) (by rfl) ?_)) | (refine tT (by rfl) ?_; try (first | refine qD (by assumption) (by omega) (by omega) (fun _ _ => ?_) | refine uJ (by omega) (by omega) ?_ | refine xZ (Nat.le_of_ble_eq_true (by rfl)) ?_ | refine xC (by rfl) (by rfl) (by rfl) (by omega) ?_)))) | refine tV (by rfl) (by rfl) (by rfl) (by rfl) (Nat.le_of_ble_eq_true (by rfl)) ?_ | (refine pQ (by rfl) (by rfl) ?_; try (first | refine xC (by rfl) (by rfl) (by rfl) (Nat.le_of_ble_eq_true (by rfl)) ?_ | refine xC (by rfl) (by rfl) (by rfl) (by omega) ?_)) | refine jX (by rfl) (by rfl) ?_ | refine x_box (by rfl) (by rfl) ?_ | refine jO ?_ | refine x_frzSl (by rfl) ?_ | refine x_app ?_ | refine bB ?_ | refine jM ?_ | refine jN (by rfl) (by rfl) (by rfl) (by rfl) ?_ | refine qZ (by rfl) (by rfl) (by rfl) ?_) | (refine g_q ?_; first | refine q_mv (by rfl) ?_ | refine wZ (by rfl) ?_ | (refine tJ ?_; try (first | refine tX (by rfl) (by assumption) ?_ | refine vK (by rfl) (by assumption) ?_ | refine vL (by rfl) ?_ | refine wE (by rfl) ?_ | refine wD (by rfl) ?_)) | (refine tL ?_; try (first | refine tY (by rfl) (by rfl) (by assumption) (by omega) (by omega) ?_ | refine wW (by rfl) (by rfl) (by assumption) (by omega) (by omega) ?_ | refine vJ (by rfl) (by rfl) (by decide) (by decide) ?_ | refine yL (by rfl) (by rfl) (by decide) (by decide) ?_ | refine vD (by rfl) (by rfl) (by decide) (by decide) ?_ | refine yL (by rfl) (by rfl) (by omega) (by omega) ?_)) | refine q_cm (by rfl) (by rfl) ?_ | refine q_ar (by rfl) (by rfl) (by rfl) ?_ | refine vW (by rfl) ?_ | (refine tP ?_; try (first | refine wP (by rfl) ?_ | refine wQ (by rfl) ?_ | refine vM (by rfl) ?_)) | refine tO (by rfl) (by rfl) ?_ | refine wY (by rfl) ?_ | refine vA (by rfl) ?_ | refine tF (by rfl) (by rfl) (by first | decide | omega) ?_ | refine tE (by rfl) (by rfl) (by first | decide | omega) ?_ | refine tQ (by rfl) (by rfl) ?_ | refine tR (by rfl) (by rfl) (by rfl) ?_ | refine tH (by rfl) ?_ | refine tG (by rfl) ?_ | refine wG (by rfl) (by rfl) ?_ | refine wH (by rfl) (by rfl) ?_ | refine tD ?_ | refine tK ?_ | refine tN (by rfl) (by rfl) ?_ | refine vV (by rfl) (by rfl) ?_ | refine wJ (by rfl) ?_ | refine q_mx (by rfl) (by rfl) ?_ | refine q_mn (by rfl) (by rfl) ?_ | refine tI (by rfl) (by rfl) (by rfl) ?_ | refine tM (by rfl) ?_ | refine vX (by rfl) ?_ | refine vY (by rfl) ?_ | refine wI (by rfl) ?_ | refine vB (by rfl) (by rfl) ?_ | refine vC (by rfl) (by rfl) ?_) | (refine g_c ?_; first | refine c_t (by rfl) ?_ | refine c_f (by rfl) ?_) | (refine g_k ?_; first | refine k_n ?_ | refine k_r ?_ | refine k_e (by rfl) ?_ | refine k_o (by rfl) ?_) | (refine g_lo ?_; first | refine l_r ?_ | refine l_e ?_) | (refine g_xd ?_; first | (refine xd_q (by rfl) ?_; try (first | refine q_mv (by rfl) ?_ | refine wZ (by rfl) ?_ | (refine tJ ?_; try (first | refine tX (by rfl) (by assumption) ?_ | refine vK (by rfl) (by assumption) ?_ | refine vL (by rfl) ?_ | refine wE (by rfl) ?_ | refine wD (by rfl) ?_)) | (refine tL ?_; try (first | refine tY (by rfl) (by rfl) (by assumption) (by omega) (by omega) ?_ | refine wW (by rfl) (by rfl) (by assumption) (by omega) (by omega) ?_ | refine vJ (by rfl) (by rfl) (by decide) (by decide) ?_ | refine yL (by rfl) (by rfl) (by decide) (by decide) ?_ | refine vD (by rfl) (by rfl) (by decide) (by decide) ?_ | refine yL (by rfl) (by rfl) (by omega) (by omega) ?_)) | refine q_cm (by rfl) (by rfl) ?_ | refine q_ar (by rfl) (by rfl) (by rfl) ?_ | refine vW (by rfl) ?_ | (refine tP ?_; try (first | refine wP (by rfl) ?_ | refine wQ (by rfl) ?_ | refine vM (by rfl) ?_)) | refine tO (by rfl) (by rfl) ?_ | refine wY (by rfl) ?_ | refine vA (by rfl) ?_ | refine tF (by rfl) (by rfl) (by first | decide | omega) ?_ | refine tE (by rfl) (by rfl) (by first | decide | omega) ?_ | refine tQ (by rfl) (by rfl) ?_ | refine tR (by rfl) (by rfl) (by rfl) ?_ | refine tH (by rfl) ?_ | refine tG (by rfl) ?_ | refine wG (by rfl) (by rfl) ?_ | refine wH (by rfl) (by rfl) ?_ | refine tD ?_ | refine tK ?_ | refine tN (by rfl) (by rfl) ?_ | refine vV (by rfl) (by rfl) ?_ | refine wJ (by rfl) ?_ | refine q_mx (by rfl) (by rfl) ?_ | refine q_mn (by rfl) (by rfl) ?_ | refine tI (by rfl) (by rfl) (by rfl) ?_ | refine tM (by rfl) ?_ | refine vX (by rfl) ?_ | refine vY (by rfl) ?_ | refine wI (by rfl) ?_ | refine vB (by rfl) (by rfl) ?_ | refine vC (by rfl) (by rfl) ?_)) | (refine sL ?_; try (first | (refine tS (by rfl) ?_; try (first | refine yU (by rfl) (by rfl) ?_ | refine yM (by rfl) (by rfl) ?_ | refine yU (yJ _ _) (by rfl) ?_ | refine yM (yJ _ _) (by rfl) ?_ | refine yU (wS _ _ _ _) (by rfl) ?_ | refine yM (wS _ _ _ _) (by rfl) ?_ | refine yU (wR _ _ _) (by rfl) ?_ | refine yM (wR _ _ _) (by rfl) ?_)) | (refine tT (by rfl) ?_; try (first | refine qD (by assumption) (by omega) (by omega) (fun _ _ => ?_) | refine uJ (by omega) (by omega) ?_ | refine xZ (Nat.le_of_ble_eq_true (by rfl)) ?_ | refine xC (by rfl) (by rfl) (by rfl) (by omega) ?_)))) | refine vN (by rfl) (by rfl) (by rfl) (by rfl) (Nat.le_of_ble_eq_true (by rfl)) ?_ | (refine uQ (by rfl) (by rfl) ?_; try (first | refine xC (by rfl) (by rfl) (by rfl) (Nat.le_of_ble_eq_true (by rfl)) ?_ | refine xC (by rfl) (by rfl) (by rfl) (by omega) ?_)) | refine sM (by rfl) (by rfl) ?_ | refine pJ (by rfl) (by rfl) (by rfl) ?_ | refine uR (by rfl) ?_ | refine bK (by rfl) ?_) | (refine g_l ?_; first | (refine tS (by rfl) ?_; try (first | refine yU (by rfl) (by rfl) ?_ | refine yM (by rfl) (by rfl) ?_ | refine yU (yJ _ _) (by rfl) ?_ | refine yM (yJ _ _) (by rfl) ?_ | refine yU (wS _ _ _ _) (by rfl) ?_ | refine yM (wS _ _ _ _) (by rfl) ?_ | refine yU (wR _ _ _) (by rfl) ?_ | refine yM (wR _ _ _) (by rfl) ?_)) | (refine tT (by rfl) ?_; try (first | refine qD (by assumption) (by omega) (by omega) (fun _ _ => ?_) | refine uJ (by omega) (by omega) ?_ | refine xZ (Nat.le_of_ble_eq_true (by rfl)) ?_ | refine xC (by rfl) (by rfl) (by rfl) (by omega) ?_))) | (refine g_len ?_; first | refine tX (by rfl) (by assumption) ?_ | refine vK (by rfl) (by assumption) ?_ | refine vL (by rfl) ?_ | refine wE (by rfl) ?_ | refine wD (by rfl) ?_) | (refine g_nil ?_; first | refine wP (by rfl) ?_ | refine wQ (by rfl) ?_ | refine vM (by rfl) ?_) | (refine g_iad ?_; first | refine tY (by rfl) (by rfl) (by assumption) (by omega) (by omega) ?_ | refine wW (by rfl) (by rfl) (by assumption) (by omega) (by omega) ?_ | refine vJ (by rfl) (by rfl) (by decide) (by decide) ?_ | refine yL (by rfl) (by rfl) (by decide) (by decide) ?_ | refine vD (by rfl) (by rfl) (by decide) (by decide) ?_ | refine yL (by rfl) (by rfl) (by omega) (by omega) ?_) | (refine g_box ?_; first | refine yU (by rfl) (by rfl) ?_ | refine yM (by rfl) (by rfl) ?_ | refine yU (yJ _ _) (by rfl) ?_ | refine yM (yJ _ _) (by rfl) ?_ | refine yU (wS _ _ _ _) (by rfl) ?_ | refine yM (wS _ _ _ _) (by rfl) ?_ | refine yU (wR _ _ _) (by rfl) ?_ | refine yM (wR _ _ _) (by rfl) ?_) | (refine g_cells ?_; first | refine qD (by assumption) (by omega) (by omega) (fun _ _ => ?_) | refine uJ (by omega) (by omega) ?_ | refine xZ (Nat.le_of_ble_eq_true (by rfl)) ?_) | (refine g_st ?_; first | refine xC (by rfl) (by rfl) (by rfl) (Nat.le_of_ble_eq_true (by rfl)) ?_) | (refine g_b ?_; first | refine b_r ?_ | refine b_n ?_) | (refine g_r ?_; first | refine r_tmp (by rfl) ?_ | refine r_cell ?_ | refine r_nil ?_))
 exact hgo.out):A:=h ⟨k⟩
theorem gM {x k:List Rat} {c:Rat} {i:Nat} (h:k.length=x.length) (hi:i<x.length):(yO x c k)[i]'(by simp [yO]; omega)=x[i]+c*k[i]'(by omega):=by simp [yO]
theorem xE {x k:List Rat} {c:Rat} (h:k.length=x.length):(yO x c k).length=x.length:=by simp [yO]; omega
theorem tU {a b d:Nat} {x k:List Rat} {c:Rat} (hx:CpL a x) (hc:CpL b [c]) (hk:CpL d k):CpL (a+b+d+1) (yO x c k):=by
 obtain ⟨D,h1,h2,h3⟩:=hx
 obtain ⟨E,g1,g2,g3⟩:=hc
 obtain ⟨F,f1,f2,f3⟩:=hk
 refine ⟨D*(E*F),Nat.mul_pos h1 (Nat.mul_pos g1 f1),?_,fun q hq => ?_⟩
 ·refine Nat.le_trans (vH (e:=a+(b+d)) rfl h2 (vH (e:=b+d) rfl g2 f2)) (Nat.pow_le_pow_right (by decide) (by omega))
 ·unfold yO at hq
  obtain ⟨i,hi,rfl⟩:=List.getElem_of_mem hq
  rw [List.getElem_zipWith]
  simp only [List.length_zipWith] at hi
  have c1:=(h3 _ (List.getElem_mem (show i<x.length by omega))).dvd (E:=D*(E*F)) ⟨E*F,rfl⟩
  have c2:=((g3 c (by simp)).mul (f3 _ (List.getElem_mem (show i<k.length by omega)))).dvd (E:=D*(E*F)) ⟨D,Nat.mul_comm _ _⟩
  refine (c1.add c2).mono ?_
  rw [←Nat.pow_add,Nat.pow_succ]
  have e1:=Nat.pow_le_pow_right (show 0<2 by decide) (show a≤a+b+d by omega)
  have e2:=Nat.pow_le_pow_right (show 0<2 by decide) (show b+d≤a+b+d by omega)
  omega
attribute [local irreducible] yA semH semC qLen qNil qIad qSlc qIdx yW yI xA appX appI slcX awpF yP xH xopF xM qval lval seqQ xJ xY xU xR cnd arith IntKind.wrap
theorem nE {cx ck:C} {cc:List C} {x k:List Rat} {c:Rat} {n:Nat} (hx:Ls (elQ 4194304) cx x) (hc:IQ 4194304 cc c) (hk:Ls (elQ 4194304) ck k) (hl:k.length=x.length) (hlen:x.length<1048576) (hb:CpL n (yO x c k)) (hn:n+n<134217728):semC Try.prog n_step_along [.c cx,.agg cc,.c ck] (LsK (elQ 4194304) (yO x c k)):=by
 refine yD ok_step_along rfl (show HFVs [.c cx,.agg cc,.c ck] from ⟨hx.hf,hc.hf,hk.hf,trivial⟩) ?_
 obtain ⟨a0,a1,a2,a3,a4,a5,rfl⟩:=id hc.six
 refine go13 ?_
 refine vQ (by rfl) (by rfl) ⟨by omega,by omega,by omega,by omega⟩ ?_
 refine go13 ?_
 refine goN ?_
 have hal:=xE (c:=c) hl
 refine yX (fun w vs H => ∃ (i:Nat) (cells:List C),vs=[.c cx,.c ck,.c (.ptr 0 0),.c (.sl 1 0 x.length (some x.length) 6),i64 x.length,i64 i]∧H=[.live ⟨[a0,a1,a2,a3,a4,a5],yR,.rw⟩,.live ⟨cells,yR,.rw⟩]∧w=x.length - i∧i≤x.length∧Fill (elQ 4194304) jR x.length cells ((yO x c k).take i)) (by rfl) ⟨0,_,rfl,rfl,rfl,by omega,.zero rfl⟩ ?_
 rintro w vs H ⟨i,cells,rfl,rfl,rfl,i1,i2⟩
 have hcl:cells.length=x.length*6:=i2.len
 have htl:((yO x c k).take i).length=i:=by rw [List.length_take]; omega
 refine go13 ?_
 cases hi:yA Cm.lss (i:Int) (x.length:Int)
 case false =>
  simp [yA] at hi
  have ei:i=x.length:=by omega
  subst ei
  rw [uB (by omega)] at i2
  have h4:=i2.done (by omega)
  have h5:=Ls.imm h4
  rw [hal] at h5
  refine go13 ?_
  exact ⟨_,.c (fz_sl (bx:=⟨cells,yR,.rw⟩) (ds:=cells) (by rfl) (by simp) (by simp) (by rw [List.drop_zero,List.take_of_length_le (by simp only; omega)]) h4.hf),_,rfl,h5⟩
 simp [yA] at hi
 refine go13 ?_
 refine uX hx (i:=i) hi (by omega) rfl (fun cs hcs => ?_)
 refine go13 ?_
 refine uX hk (i:=i) (by omega) (by omega) rfl (fun ds hds => ?_)
 refine go13 ?_
 refine yB (sG hc hds (by decide)) (fun u hu => ?_)
 obtain ⟨es,rfl,g1⟩:=hu
 refine go13 ?_
 refine yB (pR hcs g1 (by decide)) (fun u hu => ?_)
 obtain ⟨gs,rfl,g2⟩:=hu
 rw [←gM hl hi] at g2
 have g2:=g2.tightS (hb.bd (k:=4194304) (by omega) (List.getElem_mem (by omega)))
 obtain ⟨_,_,_,_,_,_,rfl⟩:=id g2.six
 refine go13 ?_
 rw [xL i (by omega)]
 have h4:=i2.put (cs:=_) (a:=_) (by rw [htl]; exact hi) g2
 rw [htl] at h4
 refine l_n (by rfl) (n':=x.length - (i+1)) (by omega) ⟨i+1,_,rfl,by rw [Nat.zero_add,Int.toNat_natCast]; rfl,rfl,by omega,?_⟩
 rw [wA (show i<(yO x c k).length by omega)]
 exact h4
theorem slices_CloneH {k:Nat} {c:C} {l:List Rat} {H:Hp} {K:V→Hp→Prop} (hc:Ls (elQ k) c l) (hl:l.length<1048576) (h:∀ R' c',Out (elQ k) yR H.length (H++R') c' l→K (.c c') (H++R')):semH Try.prog n_slices_Clone_sl_num_Q_num_Q [.c c] H K:=by
 refine nG ok_slices_Clone_sl_num_Q_num_Q rfl ?_
 cases hc with
 | nil =>
  refine go13 ?_
  have:=h [] .nilSl .nil
  rw [List.append_nil] at this
  exact this
 | @imm ds l h' =>
  refine go2 ?_
  refine app_lsS (F:=H) (R:=[.live ⟨[],yR,.rw⟩]) (c:=.sl H.length 0 0 (some 0) 6) (out:=[]) (E:=elQ k) rfl (.sl (cells:=[]) (ds:=[]) (Nat.le_refl _) (yJ _ _) rfl rfl .nil) (by rfl) (by rfl) (.imm h') rfl (by simp; omega) (fun R' c' q => ?_)
  refine go2 ?_
  exact h R' c' q
theorem step_rate {cf cx:C} {ch ct:List C} {f:List Pl} {x:List Rat} {h t:Rat} {n:Nat} (hc:Ls elM cf f) (hf:SysOk (x.length+1) f) (hh:IQ 4194304 ch h) (hx:Ls (elQ 4194304) cx x) (ht:IQ 4194304 ct t) (hl:x.length<1048575) (hb:CpL n (x++[t])) (hn:2446+24*n<134217728):semC Try.prog n_step_system_rate [.agg (cf :: ch),.c cx,.agg ct] (LsK (elQ 4194304) (jG f (x++[t]))):=by
 refine yD ok_step_system_rate rfl (show HFVs [.agg (cf :: ch),.c cx,.agg ct] from ⟨⟨hc.hf,hh.hf⟩,hx.hf,ht.hf,trivial⟩) ?_
 obtain ⟨a0,a1,a2,a3,a4,a5,rfl⟩:=id hh.six
 obtain ⟨b0,b1,b2,b3,b4,b5,rfl⟩:=id ht.six
 refine go12 ?_
 refine slices_CloneH hx (by omega) (fun R c q => ⟨keep_low5 (F:=[.live ⟨[cf,a0,a1,a2,a3,a4,a5],vO,.rw⟩,.live ⟨[b0,b1,b2,b3,b4,b5],yR,.rw⟩]) (by rfl),?_⟩)
 refine go12 ?_
 refine app_imm (bytes:=80) (F:=[.live ⟨[cf,a0,a1,a2,a3,a4,a5],vO,.rw⟩,.live ⟨[b0,b1,b2,b3,b4,b5],yR,.rw⟩]) (R:=R) (a:=t) rfl q (by rfl) (by rfl) rfl ht (by omega) (fun R2 o2 q2 => ?_)
 refine ⟨keep_low4 (F:=[.live ⟨[cf,a0,a1,a2,a3,a4,a5],vO,.rw⟩,.live ⟨[b0,b1,b2,b3,b4,b5],yR,.rw⟩]) (by rfl),?_⟩
 refine go12 ?_
 obtain ⟨bs,d,f1,l1⟩:=q2.closeS
 refine xK bs (.cons (.c (.hf hc.hf)) (.cons (.c f1) .nil)) (step_At hc (by rw [List.length_append]; exact hf) l1 hb hn) (fun u hu => ?_)
 obtain ⟨c3,rfl,h3⟩:=hu
 refine go12 ?_
 exact LsK.fz h3
end Go.Proofs.Ytokckcnfojjpjaa

namespace Go.Proofs.Ytokckcnfojjpjaa
open Go.RowKit
set_option maxRecDepth 20000
def flQ (q:Rat):Int:=(rp q).1 / (rp q).2
noncomputable def nJ (q:Rat) (g:Int):Int:=bif dec ((1:Rat) / 2<q*g - flQ (q*g)∨(q*g - flQ (q*g)=(1:Rat) / 2∧flQ (q*g) % 2=1)) then flQ (q*g)+1 else flQ (q*g)
noncomputable def gQ (q:Rat) (g:Int):Rat:=(nJ q g:Rat) / (g:Rat)
noncomputable def rdV (g:Int) (q:Rat):Rat:=bif dec (0<g) then gQ q g else q
theorem and_u32 {n:Nat} (h:n<4294967296):arith .and .u32 (n:Int) 1=((n % 2:Nat):Int):=by
 show IntKind.u32.wrap (((BitVec.ofInt 32 (n:Int) &&& BitVec.ofInt 32 1).toNat:Nat):Int)=_
 rw [xN]
 have e:(BitVec.ofInt 32 (n:Int) &&& BitVec.ofInt 32 1).toNat=n % 2:=by
  rw [BitVec.toNat_and]
  have e1:(BitVec.ofInt 32 (n:Int)).toNat=n:=by
   rw [BitVec.toNat_ofInt]
   omega
  rw [e1,show (BitVec.ofInt 32 1).toNat=1 by decide,Nat.and_one_is_mod]
 rw [e]
 omega
theorem and_i64 {v:Int}:arith .and .i64 v 1=v % 2:=by
 show IntKind.i64.wrap (((BitVec.ofInt 64 v &&& BitVec.ofInt 64 1).toNat:Nat):Int)=_
 have e:(BitVec.ofInt 64 v &&& BitVec.ofInt 64 1).toNat=(v % 2).toNat:=by
  rw [BitVec.toNat_and,show (BitVec.ofInt 64 1).toNat=1 by decide,Nat.and_one_is_mod,BitVec.toNat_ofInt]
  omega
 rw [e,yG (by omega) (by omega)]
 omega
theorem val_odd {l:List Nat} (h:0<l.length):val l % 2=l[0] % 2:=by
 cases l with
 | nil => cases h
 | cons a l =>
  simp only [List.getElem_cons_zero,val]
  omega
theorem amt_odd (neg:Bool) (n:Nat):(amt neg n % 2=1)↔n % 2=1:=by
 cases neg <;> simp only [amt,cond_false,cond_true] <;> omega
theorem fl_bd {k:Nat} {q:Rat} (h:Bd k (rp q)):Sz k (flQ q):=by
 unfold flQ
 have h1:=h.n
 have h2:=h.pos
 unfold Sz at *
 exact Nat.lt_of_le_of_lt (ediv_le h2) h1
attribute [local irreducible] yA semH semC qLen qNil qIad qSlc qIdx yW yI xA appX appI slcX awpF yP xH xopF xM qval lval seqQ xJ xY xU xR cnd arith IntKind.wrap
theorem jD {a b:Int} (h1:a.natAbs<4294967296) (h2:b.natAbs<4294967296) (h0:b≠0):semC Try.prog n_num_Frac [i64 a,i64 b] (QV 1 ((a:Rat) / (b:Rat))):=by
 refine yD ok_num_Frac rfl (show HFVs [i64 a,i64 b] from ⟨trivial,trivial,trivial⟩) ?_
 have s1:Sz 1 a:=by unfold Sz; simpa using h1
 have s2:Sz 1 b:=by unfold Sz; simpa using h2
 refine go13 ?_
 refine yB (gR a (by omega) (by omega)) (fun u hu => ?_)
 obtain ⟨es,rfl,g1⟩:=hu
 obtain ⟨_,_,_,rfl⟩:=g1.three
 refine go13 ?_
 refine yB (gR b (by omega) (by omega)) (fun u hu => ?_)
 obtain ⟨fs,rfl,g2⟩:=hu
 obtain ⟨_,_,_,rfl⟩:=g2.three
 refine go13 ?_
 refine yB (uO (fun u hu => sC.rat hu h0 (Rat.divInt_eq_div a b) s1 s2) (pC (Sz.cl (n:=1) (by decide)) (quoOk (by decide)) g1 g2 s1 s2 h0)) (fun u hu => ?_)
 obtain ⟨gs,rfl,g3⟩:=hu
 obtain ⟨_,_,_,_,_,_,rfl⟩:=id g3.six
 refine go13 ?_
 exact QV.fz g3
theorem num_Z_Odd {cs:List C} {x:Int} (hx:IsZ cs x):semC Try.prog n_num_Z_Odd [.agg cs] (sJ (x % 2=1)):=by
 refine yD ok_num_Z_Odd rfl (show HFVs [.agg cs] from ⟨hx.hf,trivial⟩) ?_
 rcases hx.look with ⟨rfl,x1,x2⟩ | ⟨lx,nx,rfl,xn,xv,xe⟩
 ·refine go13 ?_
  rw [and_i64]
  cases hq:yA Cm.eql (x % 2) 1
  ·simp [yA] at hq
   exact ⟨_,.c (.hf trivial),false,rfl,⟨fun h => (by cases h),fun h => absurd h hq⟩⟩
  ·simp [yA] at hq
   exact ⟨_,.c (.hf trivial),true,rfl,⟨fun _ => hq,fun _ => rfl⟩⟩
 ·have hl:0<lx.length:=by
   rcases Nat.eq_zero_or_pos lx.length with h | h
   ·have:=List.eq_nil_of_length_eq_zero h
    subst this
    simp [val] at xv
   ·exact h
  have hw:Wd (.imm lx.length (lx.map W)) lx:=.imm lx
  have ha:at0 lx 0=lx[0]:=by simp [at0,hl]
  have hlt:at0 lx 0<4294967296:=by rw [ha]; exact xn.1 _ (List.getElem_mem hl)
  have ho:(x % 2=1)↔at0 lx 0 % 2=1:=by rw [xe,amt_odd,val_odd hl,ha]
  refine go13 ?_
  rw [show ((0:Int).toNat)=0 from rfl,and_u32 hlt]
  cases hq:yA Cm.eql ((at0 lx 0 % 2:Nat):Int) 1
  ·simp [yA] at hq
   refine go13 ?_
   exact ⟨_,.c (.hf trivial),false,rfl,⟨fun h => (by cases h),fun h => absurd (ho.1 h) (by omega)⟩⟩
  ·simp [yA] at hq
   refine go13 ?_
   exact ⟨_,.c (.hf trivial),true,rfl,⟨fun _ => ho.2 (by omega),fun _ => rfl⟩⟩
theorem num_Q_Round {k:Nat} {cs:List C} {q:Rat} {g:Int} (hx:IQ k cs q) (hg:0<g) (hg2:g<4294967296) (hk:3*k+8≤134217728):semC Try.prog n_num_Q_Round [.agg cs,i64 g] (QV (k+3) (gQ q g)):=by
 refine yD ok_num_Q_Round rfl (show HFVs [.agg cs,i64 g] from ⟨hx.hf,trivial,trivial⟩) ?_
 obtain ⟨a0,a1,a2,a3,a4,a5,rfl⟩:=id hx.six
 refine go13 ?_
 refine yS (sA (g:=g) (by omega)) (fun u hu => ?_)
 obtain ⟨es,rfl,g1⟩:=hu
 refine go13 ?_
 refine yS (sG hx g1 (by omega)) (fun u hu => ?_)
 obtain ⟨fs,rfl,g2⟩:=hu
 have e:(q*((g:Int):Rat))=q*(g:Rat):=rfl
 obtain ⟨f0,f1,f2,f3,f4,f5,rfl⟩:=id g2.six
 refine go13 ?_
 refine goN ?_
 refine yB (num_Q_Floor (Sz.cl (n:=k+1) (by omega)) (quoOk (by omega)) g2.is g2.bd.n g2.bd.d g2.bd.pos) (fun u hu => ?_)
 obtain ⟨ks,rfl,g3⟩:=hu
 obtain ⟨k0,k1,k2,rfl⟩:=g3.three
 have sk:Sz (k+1) (flQ (q*g)):=fl_bd g2.bd
 refine go13 ?_
 refine goN ?_
 refine yS (gR 1 (by decide) (by decide)) (fun u hu => ?_)
 obtain ⟨os,rfl,go⟩:=hu
 obtain ⟨o0,o1,o2,rfl⟩:=go.three
 have hI:IQ (k+1) [k0,k1,k2,o0,o1,o2] ((flQ (q*g):Int):Rat):=⟨by rw [rp_int]; exact .mk (p:=(flQ (q*g),1)) g3 go,by rw [rp_int]; exact ⟨sk,(Sz.one (n:=0)).up (by omega),by simp⟩⟩
 refine go13 ?_
 refine yB (q_Sub2 g2 hI (by omega)) (fun u hu => ?_)
 obtain ⟨ds,rfl,g4⟩:=hu
 refine go13 ?_
 refine yB (jD (a:=1) (b:=2) (by decide) (by decide) (by decide)) (fun u hu => ?_)
 obtain ⟨hs,rfl,g5⟩:=hu
 refine go13 ?_
 refine yB (q_Cmp2 g4 g5 (by omega)) (fun u hu => ?_)
 obtain rfl:=hu
 have e12:((1:Int):Rat) / ((2:Int):Rat)=(1:Rat) / 2:=by simp
 refine go13 ?_
 rw [cq_gtr,e12]
 have sg:Sz (k+3) g:=(show Sz 1 g by unfold Sz; simp; omega).up (by omega)
 cases c1:dec ((1:Rat) / 2<q*g - flQ (q*g))
 case true =>
  have c1:=yE.1 c1
  have hr:nJ q g=flQ (q*g)+1:=by
   unfold nJ
   rw [yE.2 (by first | exact .inl c1 | exact .inr ⟨c2,hz⟩)]
   rfl
  refine go13 ?_
  refine yS (gR 1 (by decide) (by decide)) (fun u hu => ?_)
  obtain ⟨us,rfl,gu⟩:=hu
  obtain ⟨_,_,_,rfl⟩:=gu.three
  refine go13 ?_
  refine yB (gI (n:=k+1) g3 gu sk ((Sz.one (n:=0)).up (by omega)) (by omega)) (fun u hu => ?_)
  obtain ⟨ws,rfl,gw⟩:=hu
  obtain ⟨_,_,_,rfl⟩:=gw.three
  have sN:Sz (k+3) (flQ (q*g)+1):=sk.add2 ((Sz.one (n:=0)).up (show 1≤k+1 by omega)) (by omega)
  refine go13 ?_
  refine yS (gR g (by omega) (by omega)) (fun u hu => ?_)
  obtain ⟨ps,rfl,g7⟩:=hu
  refine go13 ?_
  refine yB (uO (fun u hu => sC.rat hu (Int.ne_of_gt hg) (Rat.divInt_eq_div _ _) sN sg) (pC (Sz.cl (n:=k+3) (by omega)) (quoOk (by omega)) gw g7 sN sg (Int.ne_of_gt hg))) (fun u hu => ?_)
  obtain ⟨gs,rfl,g8⟩:=hu
  obtain ⟨_,_,_,_,_,_,rfl⟩:=id g8.six
  refine go13 ?_
  rw [show gQ q g=((flQ (q*g)+1:Int):Rat) / ((g:Int):Rat) by unfold gQ; rw [hr]]
  exact QV.fz g8
 have c1:=yK.1 c1
 refine go13 ?_
 rw [cq_eql]
 cases c2:dec (q*g - flQ (q*g)=(1:Rat) / 2)
 case false =>
  have c2:=yK.1 c2
  have hr:nJ q g=flQ (q*g):=by
   unfold nJ
   rw [yK.2 (by rintro (h | ⟨h,_⟩) <;> contradiction)]
   rfl
  have sN:Sz (k+3) (flQ (q*g)):=sk.up (by omega)
  refine go13 ?_
  refine yS (gR g (by omega) (by omega)) (fun u hu => ?_)
  obtain ⟨ps,rfl,g7⟩:=hu
  refine go13 ?_
  refine yB (uO (fun u hu => sC.rat hu (Int.ne_of_gt hg) (Rat.divInt_eq_div _ _) sN sg) (pC (Sz.cl (n:=k+3) (by omega)) (quoOk (by omega)) g3 g7 sN sg (Int.ne_of_gt hg))) (fun u hu => ?_)
  obtain ⟨gs,rfl,g8⟩:=hu
  obtain ⟨_,_,_,_,_,_,rfl⟩:=id g8.six
  refine go13 ?_
  rw [show gQ q g=((flQ (q*g):Int):Rat) / ((g:Int):Rat) by unfold gQ; rw [hr]]
  exact QV.fz g8
 have c2:=yE.1 c2
 refine go13 ?_
 refine yB (num_Z_Odd g3) (fun u hu => ?_)
 obtain ⟨z,rfl,hz⟩:=hu
 cases z
 case false =>
  have hr:nJ q g=flQ (q*g):=by
   unfold nJ
   rw [yK.2 (by
    rintro (h | ⟨_,h⟩)
    ·exact c1 h
    ·cases hz.2 h)]
   rfl
  have sN:Sz (k+3) (flQ (q*g)):=sk.up (by omega)
  refine go13 ?_
  refine yS (gR g (by omega) (by omega)) (fun u hu => ?_)
  obtain ⟨ps,rfl,g7⟩:=hu
  refine go13 ?_
  refine yB (uO (fun u hu => sC.rat hu (Int.ne_of_gt hg) (Rat.divInt_eq_div _ _) sN sg) (pC (Sz.cl (n:=k+3) (by omega)) (quoOk (by omega)) g3 g7 sN sg (Int.ne_of_gt hg))) (fun u hu => ?_)
  obtain ⟨gs,rfl,g8⟩:=hu
  obtain ⟨_,_,_,_,_,_,rfl⟩:=id g8.six
  refine go13 ?_
  rw [show gQ q g=((flQ (q*g):Int):Rat) / ((g:Int):Rat) by unfold gQ; rw [hr]]
  exact QV.fz g8
 have hz:=hz.1 rfl
 have hr:nJ q g=flQ (q*g)+1:=by
  unfold nJ
  rw [yE.2 (by first | exact .inl c1 | exact .inr ⟨c2,hz⟩)]
  rfl
 refine go13 ?_
 refine yS (gR 1 (by decide) (by decide)) (fun u hu => ?_)
 obtain ⟨us,rfl,gu⟩:=hu
 obtain ⟨_,_,_,rfl⟩:=gu.three
 refine go13 ?_
 refine yB (gI (n:=k+1) g3 gu sk ((Sz.one (n:=0)).up (by omega)) (by omega)) (fun u hu => ?_)
 obtain ⟨ws,rfl,gw⟩:=hu
 obtain ⟨_,_,_,rfl⟩:=gw.three
 have sN:Sz (k+3) (flQ (q*g)+1):=sk.add2 ((Sz.one (n:=0)).up (show 1≤k+1 by omega)) (by omega)
 refine go13 ?_
 refine yS (gR g (by omega) (by omega)) (fun u hu => ?_)
 obtain ⟨ps,rfl,g7⟩:=hu
 refine go13 ?_
 refine yB (uO (fun u hu => sC.rat hu (Int.ne_of_gt hg) (Rat.divInt_eq_div _ _) sN sg) (pC (Sz.cl (n:=k+3) (by omega)) (quoOk (by omega)) gw g7 sN sg (Int.ne_of_gt hg))) (fun u hu => ?_)
 obtain ⟨gs,rfl,g8⟩:=hu
 obtain ⟨_,_,_,_,_,_,rfl⟩:=id g8.six
 refine go13 ?_
 rw [show gQ q g=((flQ (q*g)+1:Int):Rat) / ((g:Int):Rat) by unfold gQ; rw [hr]]
 exact QV.fz g8
end Go.Proofs.Ytokckcnfojjpjaa

namespace Go.Proofs.Ytokckcnfojjpjaa
open Go.RowKit
set_option maxRecDepth 20000
theorem fit_ratS {q:Rat} (h:fitR (rp q)=true):wL (rp q).1 (rp q).2:=by
 unfold fitR at h
 have h1:=yE.1 h
 have h2:=rp_good q
 exact ⟨by have:=h2.1; omega,h1.2.2,h1.1,h1.2.1,h2.2⟩
def pY (m:List Rat):Prop:=∀ q∈m,fitR (rp q)=true
def RdK (m:List Rat) (u:V):Prop:=(pY m∧∃ c,u=.tup [.c c,.c (.bool true)]∧Ls (elQ 2) c m)∨(¬ pY m∧u=.tup [.c .nilSl,.c (.bool false)])
theorem rd_pos {g:Int} {q:Rat} (h:0<g):rdV g q=gQ q g:=by
 unfold rdV
 rw [yE.2 h]
 rfl
theorem rd_none {g:Int} {q:Rat} (h:¬ 0<g):rdV g q=q:=by
 unfold rdV
 rw [yK.2 h]
 rfl
attribute [local irreducible] yA semH semC qLen qNil qIad qSlc qIdx yW yI xA appX appI slcX awpF yP xH xopF xM qval lval seqQ xJ xY xU xR cnd arith IntKind.wrap
theorem nD {cx:C} {x:List Rat} {g:Int} (hx:Ls (elQ 4194304) cx x) (hl:x.length<1048576) (hg:g<4294967296):semC Try.prog n_step_rounded [.c cx,i64 g] (RdK (x.map (rdV g))):=by
 refine yD ok_step_rounded rfl (show HFVs [.c cx,i64 g] from ⟨hx.hf,trivial,trivial⟩) ?_
 refine go13 ?_
 refine vQ (by rfl) (by rfl) ⟨by omega,by omega,by omega,by omega⟩ ?_
 refine go13 ?_
 refine goN ?_
 refine yX (fun w vs H => ∃ (i:Nat) (cells:List C) (R:Hp),vs=[.c cx,i64 g,.c (.sl 0 0 x.length (some x.length) 6),i64 x.length,i64 i]∧H=.live ⟨cells,yR,.rw⟩ :: R∧w=x.length - i∧i≤x.length∧Fill (elQ 2) jR x.length cells ((x.map (rdV g)).take i)∧∀ q∈(x.map (rdV g)).take i,fitR (rp q)=true) (by rfl) ⟨0,_,[],rfl,rfl,rfl,by omega,.zero rfl,by simp⟩ ?_
 rintro w vs H ⟨i,cells,R,rfl,rfl,rfl,i1,i2,i3⟩
 have hcl:cells.length=x.length*6:=i2.len
 have hfl:(x.map (rdV g)).length=x.length:=by simp
 have htl:((x.map (rdV g)).take i).length=i:=by rw [List.length_take]; omega
 refine go13 ?_
 cases hi:yA Cm.lss (i:Int) (x.length:Int)
 case false =>
  simp [yA] at hi
  have ei:i=x.length:=by omega
  subst ei
  rw [uB (by omega)] at i2 i3
  have h4:=i2.done (by omega)
  have h5:=Ls.imm h4
  rw [hfl] at h5
  refine go13 ?_
  exact ⟨_,.tup (.cons (.c (fz_sl (bx:=⟨cells,yR,.rw⟩) (ds:=cells) (by rfl) (by simp) (by simp) (by rw [List.drop_zero,List.take_of_length_le (by simp only; omega)]) h4.hf)) (.cons (.c (.hf trivial)) .nil)),.inl ⟨i3,_,rfl,h5⟩⟩
 simp [yA] at hi
 refine go13 ?_
 refine uX hx (i:=i) hi (by omega) rfl (fun cs hcs => ?_)
 obtain ⟨e0,e1,e2,e3,e4,e5,rfl⟩:=id (show IQ 4194304 _ _ from hcs).six
 refine go13 ?_
 rw [show 0+(i:Int).toNat*6=i*6 by omega]
 cases hg0:yA Cm.gtr g 0
 case false =>
  simp [yA] at hg0
  have g1:IQ 4194307 [e0,e1,e2,e3,e4,e5] (rdV g x[i]):=by
   rw [rd_none (by omega)]
   exact (show IQ 4194304 _ _ from hcs).up (by decide)
  refine go13 ?_
  refine ld_splice (cells:=cells) (off:=i*6) (cs:=[e0,e1,e2,e3,e4,e5]) (by rfl) (by rfl) (by omega) (by omega) ?_
  refine go13 ?_
  refine yB (num_Q_Out g1.is (nI _)) (fun u hu => ?_)
  obtain rfl:=hu
  unfold outV
  cases hf:fitR (rp (rdV g x[i]))
  case false =>
   have hno:¬ pY (x.map (rdV g)):=fun h => by
    have:=h (rdV g x[i]) (List.mem_map_of_mem (wX hi))
    rw [hf] at this
    cases this
   refine go13 ?_
   exact ⟨_,.tup (.cons (.c (.hf trivial)) (.cons (.c (.hf trivial)) .nil)),.inr ⟨hno,rfl⟩⟩
  refine go13 ?_
  rw [xL i (by omega)]
  have g2:=g1.tightS (fit_ratS hf).bd
  have h4:=i2.put (cs:=[e0,e1,e2,e3,e4,e5]) (a:=rdV g x[i]) (by rw [htl]; exact hi) g2
  rw [htl] at h4
  refine l_n (by rfl) (n':=x.length - (i+1)) (by omega) ⟨i+1,_,_,rfl,rfl,rfl,by omega,?_,fun q hq => ?_⟩
  ·rw [wA (show i<(x.map (rdV g)).length by simpa using hi),List.getElem_map]
   exact h4
  ·rw [wA (show i<(x.map (rdV g)).length by simpa using hi),List.getElem_map] at hq
   rcases List.mem_append.1 hq with hq | hq
   ·exact i3 q hq
   ·simp at hq
    subst hq
    exact hf
 simp [yA] at hg0
 refine go13 ?_
 refine uX hx (i:=i) hi (by omega) rfl (fun cs hcs => ?_)
 refine go13 ?_
 refine yB (num_Q_Round (show IQ 4194304 _ _ from hcs) hg0 hg (by decide)) (fun u hu => ?_)
 obtain ⟨es,rfl,g1⟩:=hu
 rw [←rd_pos hg0] at g1
 obtain ⟨f0,f1,f2,f3,f4,f5,rfl⟩:=id g1.six
 refine go13 ?_
 refine xC (cs:=splice cells (i*6) [e0,e1,e2,e3,e4,e5]) (by rfl) (by rfl) (by rfl) (by rw [pK (by simp only [List.length_cons,List.length_nil]; omega)]; omega) ?_
 rw [show 0+(i:Int).toNat*6=i*6 by omega,nF (by omega) (by rfl)]
 clear hcs
 refine go13 ?_
 refine ld_splice (cells:=cells) (off:=i*6) (cs:=[f0,f1,f2,f3,f4,f5]) (by rfl) (by rfl) (by omega) (by omega) ?_
 refine go13 ?_
 refine yB (num_Q_Out g1.is (nI _)) (fun u hu => ?_)
 obtain rfl:=hu
 unfold outV
 cases hf:fitR (rp (rdV g x[i]))
 case false =>
  have hno:¬ pY (x.map (rdV g)):=fun h => by
   have:=h (rdV g x[i]) (List.mem_map_of_mem (wX hi))
   rw [hf] at this
   cases this
  refine go13 ?_
  exact ⟨_,.tup (.cons (.c (.hf trivial)) (.cons (.c (.hf trivial)) .nil)),.inr ⟨hno,rfl⟩⟩
 refine go13 ?_
 rw [xL i (by omega)]
 have g2:=g1.tightS (fit_ratS hf).bd
 have h4:=i2.put (cs:=[f0,f1,f2,f3,f4,f5]) (a:=rdV g x[i]) (by rw [htl]; exact hi) g2
 rw [htl] at h4
 refine l_n (by rfl) (n':=x.length - (i+1)) (by omega) ⟨i+1,_,_,rfl,rfl,rfl,by omega,?_,fun q hq => ?_⟩
 ·rw [wA (show i<(x.map (rdV g)).length by simpa using hi),List.getElem_map]
  exact h4
 ·rw [wA (show i<(x.map (rdV g)).length by simpa using hi),List.getElem_map] at hq
  rcases List.mem_append.1 hq with hq | hq
  ·exact i3 q hq
  ·simp at hq
   subst hq
   exact hf
end Go.Proofs.Ytokckcnfojjpjaa

namespace Go.Proofs.Ytokckcnfojjpjaa
open Go.RowKit
set_option maxRecDepth 20000
noncomputable def valS (f:List Pl):Int:=sysE 1 ((f.length:Int)+1) true f
def ValK (f:List Pl) (v:V):Prop:=∃ e:Int,v=i64 e∧(jW f→e=valS f)∧(e=0→jW f)∧0≤e∧e≤3
def AffS (f:List Pl):Prop:=∀ p∈f,∀ t∈p,sumP (t.2.take (t.2.length - 1))≤1
structure RunOk (m:Int) (f:List Pl) (t:R2) (x:List R2) (h:R2) (g n:Int):Prop where
 sys:valS f=0
 ht:wL t.1 t.2
 hx:tA x
 hh:wL h.1 h.2
 m0:0≤m
 m6:m≤6
 hp:0<h.1
 g0:0≤g
 gm:g≤1000000
 n0:0≤n
 nm:n≤60
 len:x.length=f.length
 aff:m=4∨m=5→AffS f
theorem val_sys {f:List Pl} (h:valS f=0):SysOk (f.length+1) f∧1≤f.length:=by
 obtain ⟨h1,h2,h3⟩:=sys_zero h
 refine ⟨⟨by omega,fun p hp => ⟨?_,fun t ht => ?_⟩⟩,by omega⟩
 ·exact Classical.byContradiction fun h => h2 ⟨p,hp,.inl (by omega)⟩
 ·have hb:¬ BadT ((f.length:Int)+1) t:=fun h => by
   obtain ⟨j,hj,rfl⟩:=List.getElem_of_mem ht
   exact h3 ⟨p,hp,j,hj,.inl h⟩
  have hw:¬ WideT true t:=fun h => h2 ⟨p,hp,.inr ⟨t,ht,h⟩⟩
  refine ⟨?_,Classical.byContradiction fun h => hb (.inr (.inl h)),fun k hk => ?_,?_⟩
  ·have:(t.2.length:Int)=(f.length:Int)+1:=Classical.byContradiction fun h => hb (.inl h)
   omega
  ·exact Classical.byContradiction fun h => hb (.inr (.inr (.inr ⟨k,hk,by omega⟩)))
  ·exact Classical.byContradiction fun h => hw (.inl (by omega))
noncomputable def qW (m:Int) (f:List Pl) (t:R2) (x:List R2) (h:R2) (g n:Int):Int :=
 bif dec (valS f=0) then bif dec (wL t.1 t.2∧tA x∧wL h.1 h.2) then bif dec (m<0∨6<m∨h.1≤0∨g<0∨1000000<g∨n<0∨60<n) then 1 else
  bif dec (x.length=f.length) then bif dec ((m=4∨m=5)∧¬ AffS f) then 6 else 0 else 8 else 1 else valS f
section
variable {m:Int} {f:List Pl} {t:R2} {x:List R2} {h:R2} {g n:Int}
theorem known_sys (h1:valS f≠0):qW m f t x h g n=valS f:=by
 unfold qW
 rw [yK.2 h1]
 rfl
theorem known_rat (h1:valS f=0) (h2:¬ (wL t.1 t.2∧tA x∧wL h.1 h.2)):qW m f t x h g n=1:=by
 unfold qW
 rw [yE.2 h1,yK.2 h2]
 rfl
theorem jF (h1:valS f=0) (h3:m<0∨6<m∨h.1≤0∨g<0∨1000000<g∨n<0∨60<n):qW m f t x h g n=1:=by
 by_cases h2:wL t.1 t.2∧tA x∧wL h.1 h.2
 ·unfold qW
  rw [yE.2 h1,yE.2 h2,yE.2 h3]
  rfl
 ·exact known_rat h1 h2
theorem known_fit (h1:valS f=0) (h2:wL t.1 t.2∧tA x∧wL h.1 h.2) (h3:¬ (m<0∨6<m∨h.1≤0∨g<0∨1000000<g∨n<0∨60<n)) (h4:x.length≠f.length):qW m f t x h g n=8:=by
 unfold qW
 rw [yE.2 h1,yE.2 h2,yK.2 h3,yK.2 h4]
 rfl
theorem known_aff (h1:valS f=0) (h2:wL t.1 t.2∧tA x∧wL h.1 h.2) (h3:¬ (m<0∨6<m∨h.1≤0∨g<0∨1000000<g∨n<0∨60<n)) (h4:x.length=f.length) (h5:(m=4∨m=5)∧¬ AffS f):qW m f t x h g n=6:=by
 unfold qW
 rw [yE.2 h1,yE.2 h2,yK.2 h3,yE.2 h4,yE.2 h5]
 rfl
theorem known_ok (h1:valS f=0) (h2:wL t.1 t.2∧tA x∧wL h.1 h.2) (h3:¬ (m<0∨6<m∨h.1≤0∨g<0∨1000000<g∨n<0∨60<n)) (h4:x.length=f.length) (h5:¬ ((m=4∨m=5)∧¬ AffS f)):qW m f t x h g n=0∧RunOk m f t x h g n:=by
 refine ⟨?_,h1,h2.1,h2.2.1,h2.2.2,by omega,by omega,by omega,by omega,by omega,by omega,by omega,h4,fun hm => Classical.byContradiction fun h => h5 ⟨hm,h⟩⟩
 unfold qW
 rw [yE.2 h1,yE.2 h2,yK.2 h3,yE.2 h4,yK.2 h5]
 rfl
end
def qO (m:Int) (f:List Pl) (t:R2) (x:List R2) (h:R2) (g n:Int) (v:V):Prop:=∃ e:Int,v=i64 e∧(jW f→e=qW m f t x h g n)∧(e=0→RunOk m f t x h g n)
theorem qO.of {m:Int} {f:List Pl} {t:R2} {x:List R2} {h:R2} {g n e:Int} {H:Hp} (h1:jW f→e=qW m f t x h g n) (h2:e≠0):∃ d,FzV H (i64 e) d∧qO m f t x h g n d:=⟨_,.c (.hf trivial),e,rfl,h1,fun h => absurd h h2⟩
theorem sumP_append:∀ (l m:List Int),sumP (l++m)=sumP l+sumP m
 | [],m => by simp [sumP]
 | x :: l,m => by simp only [List.cons_append,sumP,sumP_append l m]; omega
theorem neq_decS (a b:Int):yA Cm.neq a b=dec (a≠b):=rfl
attribute [local irreducible] yA semH semC qLen qNil qIad qSlc qIdx yW yI xA appX appI slcX awpF yP xH xopF xM qval lval seqQ xJ xY xU xR cnd arith IntKind.wrap
theorem step_Validate {c:C} {f:List Pl} (hc:Ls elM c f) (hf:f.length<vZ):semC Try.prog n_step_Validate [.c c] (ValK f):=by
 refine yD ok_step_Validate rfl (show HFVs [.c c] from ⟨hc.hf,trivial⟩) ?_
 have hw:f.length≤3→arith .add .i64 (f.length:Int) 1=(f.length:Int)+1:=fun h => by rw [xD]; exact yG (by omega) (by omega)
 refine go13 ?_
 generalize arith .add .i64 (f.length:Int) 1=u at hw
 refine yB (step_Check 1 u true hc hf (fun h => by rw [hw h]; omega)) (fun u hu => ?_)
 obtain ⟨e,rfl,h1,h2,h3⟩:=hu
 refine go13 ?_
 refine ⟨_,.c (.hf trivial),e,rfl,fun hS => ?_,h2,h3⟩
 rw [h1 hS]
 unfold valS
 rcases Nat.lt_or_ge 3 f.length with h | h
 ·rw [bM (.inr h),bM (.inr h)]
 ·rw [hw h]
theorem step_isAffine {c:C} {f:List Pl} {m:Nat} (hc:Ls elM c f) (hf:SysOk m f) (hm:1≤m∧m≤1024):semC Try.prog n_step_isAffine [.c c] (sJ (AffS f)):=by
 refine yD ok_step_isAffine rfl (show HFVs [.c c] from ⟨hc.hf,trivial⟩) ?_
 have hlen:=hf.len
 refine go13 ?_
 refine yX (fun w vs H => ∃ (i:Nat),vs=[.c c,i64 f.length,i64 i]∧w=f.length - i∧i≤f.length∧∀ p∈f.take i,∀ t∈p,sumP (t.2.take (t.2.length - 1))≤1) (by rfl) ⟨0,rfl,rfl,by omega,by simp⟩ ?_
 rintro w vs H ⟨i,rfl,rfl,i1,i2⟩
 refine go13 ?_
 cases hi:yA Cm.lss (i:Int) (f.length:Int)
 case false =>
  simp [yA] at hi
  rw [uB (by omega)] at i2
  refine go13 ?_
  exact ⟨_,.c (.hf trivial),true,rfl,⟨fun _ => i2,fun _ => rfl⟩⟩
 simp [yA] at hi
 refine go13 ?_
 refine uX hc (i:=i) hi (by omega) rfl (fun cs hcs => ?_)
 obtain ⟨d,rfl,hd,hdl⟩:=hcs
 have hp:=hf.poly f[i] (wX hi)
 have hpl:=hp.len
 refine go13 ?_
 refine yX (fun w vs H => ∃ (j:Nat),vs=[.c c,i64 f.length,i64 i,.c d,i64 f[i].length,i64 j]∧w=f[i].length - j∧j≤f[i].length∧∀ t∈f[i].take j,sumP (t.2.take (t.2.length - 1))≤1) (by rfl) ⟨0,rfl,rfl,by omega,by simp⟩ ?_
 rintro w vs H ⟨j,rfl,rfl,j1,j2⟩
 refine go13 ?_
 cases hj:yA Cm.lss (j:Int) (f[i].length:Int)
 case false =>
  simp [yA] at hj
  rw [uB (by omega)] at j2
  refine go13 ?_
  rw [xL i (by omega)]
  refine l_n (by rfl) (n':=f.length - (i+1)) (by omega) ⟨i+1,rfl,rfl,by omega,fun p hp => ?_⟩
  rw [wA hi] at hp
  rcases List.mem_append.1 hp with hp | hp
  ·exact i2 p hp
  ·simp at hp
   subst hp
   exact j2
 simp [yA] at hj
 refine go13 ?_
 refine uX hd (i:=j) hj (by omega) rfl (fun cs hcs => ?_)
 obtain ⟨e,rfl,he,hel⟩:=hcs
 have ht:=hp.term f[i][j] (wX hj)
 have hxl:=ht.len
 refine go13 ?_
 rw [bN _ (by omega) (by omega)]
 refine slc_ls (l:=f[i][j].2) (a:=0) (b:=((f[i][j].2.length - 1:Nat):Int)) (by rfl) he rfl (by rfl) (by rfl) (by omega) (by omega) (by omega) (fun a1 ha1 => ?_)
 rw [show (f[i][j].2.drop (0:Int).toNat).take (((f[i][j].2.length - 1:Nat):Int).toNat - (0:Int).toNat)=f[i][j].2.take (f[i][j].2.length - 1) by simp] at ha1
 obtain ⟨L,hL⟩:∃ L,L=f[i][j].2.take (f[i][j].2.length - 1):=⟨_,rfl⟩
 rw [←hL] at ha1
 have hLl:L.length≤1024:=by rw [hL,List.length_take]; omega
 have hLn:∀ k∈L,0≤k:=fun k hk => ht.nn k (List.mem_of_mem_take (by rw [←hL]; exact hk))
 have hLs:sumP L≤12:=by rw [hL]; exact Int.le_trans (sumP_take _ _) ht.deg
 refine go13 ?_
 refine yX (fun w vs H => ∃ (k:Nat),vs=[i64 (sumP (L.take k)),.c c,i64 f.length,i64 i,.c d,i64 f[i].length,i64 j,.c a1,i64 L.length,i64 k]∧w=L.length - k∧k≤L.length) (by rfl) ⟨0,by simp [sumP,i64],rfl,by omega⟩ ?_
 rintro w vs H ⟨k,rfl,rfl,k1⟩
 refine go13 ?_
 cases hk:yA Cm.lss (k:Int) (L.length:Int)
 case false =>
  simp [yA] at hk
  rw [uB (by omega)]
  refine go13 ?_
  cases hg:yA Cm.gtr (sumP L) 1
  case true =>
   simp [yA] at hg
   refine go13 ?_
   refine ⟨_,.c (.hf trivial),false,rfl,⟨fun h => (by cases h),fun h => ?_⟩⟩
   have:=h f[i] (wX hi) f[i][j] (wX hj)
   rw [←hL] at this
   omega
  simp [yA] at hg
  refine go13 ?_
  rw [xL j (by omega)]
  refine l_n (by rfl) (n':=f[i].length - (j+1)) (by omega) ⟨j+1,rfl,rfl,by omega,fun t ht => ?_⟩
  rw [wA hj] at ht
  rcases List.mem_append.1 ht with ht | ht
  ·exact j2 t ht
  ·simp at ht
   subst ht
   rw [←hL]
   exact hg
 simp [yA] at hk
 have hn:=hLn _ (wX hk)
 have hs:arith .add .i64 (sumP (L.take k)) L[k]=sumP (L.take (k+1)):=by
  have h1:=sumP_take L (k+1)
  have h0:=sumP_nn (L.take k)
  rw [wA hk,sumP_append] at h1
  rw [wA hk,sumP_append,xD]
  have h2:sumP [L[k]]=L[k]:=by
   simp only [sumP]
   split <;> omega
  rw [h2] at h1 ⊢
  exact yG (by omega) (by omega)
 refine go13 ?_
 rw [hs,xL k (by omega)]
 exact l_n (by rfl) (n':=L.length - (k+1)) (by omega) ⟨k+1,rfl,rfl,by omega⟩
theorem step_known {cf cx:C} {f:List Pl} {x:List R2} (m:Int) (t h:R2) (g n:Int) (hc:Ls elM cf f) (hf:f.length<vZ) (hx:Ls elP cx x) (hxl:x.length<vZ):semC Try.prog n_step_known [i64 m,.c cf,.agg (ratC t),.c cx,.agg (ratC h),i64 g,i64 n] (qO m f t x h g n):=by
 refine yD ok_step_known rfl (show HFVs [i64 m,.c cf,.agg (ratC t),.c cx,.agg (ratC h),i64 g,i64 n] from ⟨trivial,hc.hf,qU _,hx.hf,qU _,trivial,trivial,trivial⟩) ?_
 refine go13 ?_
 refine yB (step_Validate hc hf) (fun u hu => ?_)
 obtain ⟨e,rfl,v1,v2,v3⟩:=hu
 refine go13 ?_
 rw [neq_decS]
 cases h1:dec (e≠0)
 case true =>
  have h1:=yE.1 h1
  refine go13 ?_
  exact qO.of (fun hS => by rw [v1 hS] at h1 ⊢; rw [known_sys h1]) h1
 have h1:e=0:=Classical.byContradiction (yK.1 h1)
 have hS:=v2 h1
 have hv:valS f=0:=by rw [←v1 hS,h1]
 obtain ⟨hsys,hf1⟩:=val_sys hv
 have hsl:=hsys.len
 refine go13 ?_
 refine yB (bQ t.1 t.2) (fun u hu => ?_)
 obtain ⟨z1,rfl,k1⟩:=hu
 cases z1
 case false =>
  refine go13 ?_
  exact qO.of (fun _ => (known_rat hv (fun h => by cases k1.2 h.1)).symm) (by decide)
 refine go13 ?_
 refine yB (bE hx hxl) (fun u hu => ?_)
 obtain ⟨z2,rfl,k2⟩:=hu
 cases z2
 case false =>
  refine go13 ?_
  exact qO.of (fun _ => (known_rat hv (fun h => by cases k2.2 h.2.1)).symm) (by decide)
 refine go13 ?_
 refine yB (bQ h.1 h.2) (fun u hu => ?_)
 obtain ⟨z3,rfl,k3⟩:=hu
 cases z3
 case false =>
  refine go13 ?_
  exact qO.of (fun _ => (known_rat hv (fun h => by cases k3.2 h.2.2)).symm) (by decide)
 have hr:wL t.1 t.2∧tA x∧wL h.1 h.2:=⟨k1.1 rfl,k2.1 rfl,k3.1 rfl⟩
 refine go13 ?_
 cases c1:yA Cm.lss m 0
 case true =>
  simp [yA] at c1
  refine go13 ?_
  exact qO.of (fun _ => (jF hv (by omega)).symm) (by decide)
 simp [yA] at c1
 refine go13 ?_
 cases c2:yA Cm.gtr m 6
 case true =>
  simp [yA] at c2
  refine go13 ?_
  exact qO.of (fun _ => (jF hv (by omega)).symm) (by decide)
 simp [yA] at c2
 refine go13 ?_
 cases c3:yA Cm.leq h.1 0
 case true =>
  simp [yA] at c3
  refine go13 ?_
  exact qO.of (fun _ => (jF hv (by omega)).symm) (by decide)
 simp [yA] at c3
 refine go13 ?_
 cases c4:yA Cm.lss g 0
 case true =>
  simp [yA] at c4
  refine go13 ?_
  exact qO.of (fun _ => (jF hv (by omega)).symm) (by decide)
 simp [yA] at c4
 refine go13 ?_
 cases c5:yA Cm.gtr g 1000000
 case true =>
  simp [yA] at c5
  refine go13 ?_
  exact qO.of (fun _ => (jF hv (by omega)).symm) (by decide)
 simp [yA] at c5
 refine go13 ?_
 cases c6:yA Cm.lss n 0
 case true =>
  simp [yA] at c6
  refine go13 ?_
  exact qO.of (fun _ => (jF hv (by omega)).symm) (by decide)
 simp [yA] at c6
 refine go13 ?_
 cases c7:yA Cm.gtr n 60
 case true =>
  simp [yA] at c7
  refine go13 ?_
  exact qO.of (fun _ => (jF hv (by omega)).symm) (by decide)
 simp [yA] at c7
 have hno:¬ (m<0∨6<m∨h.1≤0∨g<0∨1000000<g∨n<0∨60<n):=by omega
 refine go13 ?_
 cases c8:yA Cm.neq (x.length:Int) (f.length:Int)
 case true =>
  simp [yA] at c8
  refine go13 ?_
  exact qO.of (fun _ => (known_fit hv hr hno (by omega)).symm) (by decide)
 simp [yA] at c8
 refine go13 ?_
 cases c9:yA Cm.eql m 4
 case true =>
  simp [yA] at c9
  refine go13 ?_
  refine yB (step_isAffine hc hsys (by omega)) (fun u hu => ?_)
  obtain ⟨za,rfl,ka⟩:=hu
  cases za
  case false =>
   refine go13 ?_
   exact qO.of (fun _ => (known_aff hv hr hno (by omega) ⟨by omega,fun h => by cases ka.2 h⟩).symm) (by decide)
  refine go13 ?_
  have hk:=known_ok (x:=x) hv hr hno (by omega) (fun h => h.2 (ka.1 rfl))
  exact ⟨_,.c (.hf trivial),0,rfl,fun _ => hk.1.symm,fun _ => hk.2⟩
 simp [yA] at c9
 refine go13 ?_
 cases c10:yA Cm.eql m 5
 case true =>
  simp [yA] at c10
  refine go13 ?_
  refine yB (step_isAffine hc hsys (by omega)) (fun u hu => ?_)
  obtain ⟨za,rfl,ka⟩:=hu
  cases za
  case false =>
   refine go13 ?_
   exact qO.of (fun _ => (known_aff hv hr hno (by omega) ⟨by omega,fun h => by cases ka.2 h⟩).symm) (by decide)
  refine go13 ?_
  have hk:=known_ok (x:=x) hv hr hno (by omega) (fun h => h.2 (ka.1 rfl))
  exact ⟨_,.c (.hf trivial),0,rfl,fun _ => hk.1.symm,fun _ => hk.2⟩
 simp [yA] at c10
 refine go13 ?_
 have hk:=known_ok (x:=x) hv hr hno (by omega) (by omega)
 exact ⟨_,.c (.hf trivial),0,rfl,fun _ => hk.1.symm,fun _ => hk.2⟩
end Go.Proofs.Ytokckcnfojjpjaa

namespace Go.Proofs.Ytokckcnfojjpjaa
open Go.RowKit
set_option maxRecDepth 20000
theorem bG {a b:Nat} {p q:Rat} (h1:CpL a [p]) (h2:CpL b [q]):CpL (a+b+1) [p+q]:=by
 obtain ⟨D,g1,g2,g3⟩:=h1.append h2
 have c1:=g3 p (by simp)
 have c2:=g3 q (by simp)
 refine ⟨D,g1,Nat.le_trans g2 (Nat.pow_le_pow_right (by decide) (by omega)),fun r hr => ?_⟩
 simp at hr
 subst hr
 refine (c1.add c2).mono ?_
 rw [Nat.pow_succ]
 omega
theorem hU {a b:Nat} {p q:Rat} (h1:CpL a [p]) (h2:CpL b [q]):CpL (a+b) [p*q]:=by
 obtain ⟨D,g1,g2,g3⟩:=h1
 obtain ⟨E,f1,f2,f3⟩:=h2
 refine ⟨D*E,Nat.mul_pos g1 f1,vH rfl g2 f2,fun r hr => ?_⟩
 simp at hr
 subst hr
 rw [Nat.pow_add]
 exact (g3 p (by simp)).mul (f3 q (by simp))
theorem cp_frac {a b n:Nat} (h0:0<b) (h1:a≤2 ^ n) (h2:b≤2 ^ n) (s:Bool):CpL n [(((bif s then -(a:Int) else (a:Int)):Int):Rat) / ((b:Int):Rat)]:=by
 refine ⟨b,h0,h2,fun r hr => ?_⟩
 simp at hr
 subst hr
 have hb:(b:Rat)≠0:=by
  intro h
  have:b=0:=by exact_mod_cast h
  omega
 refine ⟨bif s then -(a:Int) else (a:Int),?_,?_⟩
 ·rw [Rat.intCast_natCast,Rat.div_mul_cancel hb]
 ·refine Nat.le_trans (show _≤a by cases s <;> simp) (Nat.le_trans h1 (Nat.le_mul_of_pos_right _ h0))
def xI (f:List Pl) (x:List Rat) (t:Rat):List Rat:=jG f (x++[t])
theorem uS {a b m:Nat} {f:List Pl} {x:List Rat} {t:Rat} (hf:SysOk m f) (hx:CpL a x) (ht:CpL b [t]):CpL (7200+12*(a+b)) (xI f x t):=field_cpl hf (hx.append ht)
theorem vT {f:List Pl} {x:List Rat} {t:Rat}:(xI f x t).length=f.length:=by simp [xI,jG]
def vG:Rat:=((1:Int):Rat) / ((2:Int):Rat)
theorem half_cp:CpL 1 [vG]:=cp_frac (a:=1) (b:=2) (n:=1) (by decide) (by decide) (by decide) false
theorem bF {z:Int} {n:Nat} (h:z.natAbs≤2 ^ n):CpL n [(z:Rat)]:=by
 refine ⟨1,by decide,Nat.one_le_two_pow,fun r hr => ?_⟩
 simp at hr
 subst hr
 exact (Cap.int z).mono h
def eulerV (f:List Pl) (h t:Rat) (x:List Rat):List Rat:=yO x h (xI f x t)
def heunV (f:List Pl) (h t:Rat) (x:List Rat):List Rat:=yO x (h*vG) (yO (xI f x t) ((1:Int):Rat) (xI f (yO x h (xI f x t)) (t+h)))
def midV (f:List Pl) (h t:Rat) (x:List Rat):List Rat:=yO x h (xI f (yO x (h*vG) (xI f x t)) (t+h*vG))
def k1V (f:List Pl) (h t:Rat) (x:List Rat):List Rat:=xI f x t
def k2V (f:List Pl) (h t:Rat) (x:List Rat):List Rat:=xI f (yO x (h*vG) (k1V f h t x)) (t+h*vG)
def k3V (f:List Pl) (h t:Rat) (x:List Rat):List Rat:=xI f (yO x (h*vG) (k2V f h t x)) (t+h*vG)
def k4V (f:List Pl) (h t:Rat) (x:List Rat):List Rat:=xI f (yO x h (k3V f h t x)) (t+h)
def sumV (f:List Pl) (h t:Rat) (x:List Rat):List Rat:=yO (yO (yO (k1V f h t x) ((2:Int):Rat) (k2V f h t x)) ((2:Int):Rat) (k3V f h t x)) ((1:Int):Rat) (k4V f h t x)
def bU (f:List Pl) (h t:Rat) (x:List Rat):List Rat:=yO x (h / ((6:Int):Rat)) (sumV f h t x)
def OneK (r:Option (List Rat)) (u:V):Prop:=(∃ y c,r=some y∧u=.tup [.c c,.c (.bool true)]∧Ls (elQ 4194304) c y)∨(r=none∧u=.tup [.c .nilSl,.c (.bool false)])
theorem OneK.fz {y:List Rat} {c:C} {H:Hp} (h:Ls (elQ 4194304) c y):∃ d,FzV H (.tup [.c c,.c (.bool true)]) d∧OneK (some y) d:=⟨_,.tup (.cons (.c (.hf h.hf)) (.cons (.c (.hf trivial)) .nil)),.inl ⟨y,c,rfl,rfl,h⟩⟩
structure qY (cf cx:C) (ch ct:List C) (f:List Pl) (x:List Rat) (h t:Rat):Prop where
 hc:Ls elM cf f
 hf:SysOk (x.length+1) f
 hl:f.length=x.length
 hh:IQ 4194304 ch h
 hx:Ls (elQ 4194304) cx x
 ht:IQ 4194304 ct t
 bx:CpL 120 x
 bt:CpL 90 [t]
 bh:CpL 45 [h]
section
variable {cf cx:C} {ch ct:List C} {f:List Pl} {x:List Rat} {h t:Rat}
theorem qY.x3 (hi:qY cf cx ch ct f x h t):x.length≤3:=by rw [←hi.hl]; exact hi.hf.len
theorem qY.hfv (hi:qY cf cx ch ct f x h t):HFVs [.agg (cf :: ch),.c cx,.agg ct]:=⟨⟨hi.hc.hf,hi.hh.hf⟩,hi.hx.hf,hi.ht.hf,trivial⟩
end
theorem sQ {m n:Nat} {f:List Pl} (h:SysOk m f) (e:m=n):SysOk n f:=by rwa [←e]
attribute [local irreducible] yA semH semC qLen qNil qIad qSlc qIdx yW yI xA appX appI slcX awpF yP xH xopF xM qval lval seqQ xJ xY xU xR cnd arith IntKind.wrap
section
variable {cf cx:C} {ch ct:List C} {f:List Pl} {x:List Rat} {h t:Rat}
theorem pH (hi:qY cf cx ch ct f x h t) {cy:C} {cs:List C} {y:List Rat} {s:Rat} {a b:Nat} (ly:Ls (elQ 4194304) cy y) (hy:y.length=x.length) (gs:IQ 4194304 cs s) (bY:CpL a y) (bS:CpL b [s]) (hn:2446+24*(a+b)<134217728):semC Try.prog n_step_system_rate [.agg (cf :: ch),.c cy,.agg cs] (LsK (elQ 4194304) (xI f y s)) :=
 step_rate hi.hc (sQ hi.hf (by rw [hy])) hi.hh ly gs (by have:=hi.x3; omega) (bY.append bS) hn
theorem uT {x3:x.length≤3} (hx:Ls (elQ 4194304) cx x) {cc:List C} {ck:C} {k:List Rat} {c:Rat} {a d e:Nat} (bx:CpL a x) (hc:IQ 4194304 cc c) (bc:CpL d [c]) (lk:Ls (elQ 4194304) ck k) (hk:k.length=x.length) (bk:CpL e k) (hn:(a+d+e+1)+(a+d+e+1)<134217728):semC Try.prog n_step_along [.c cx,.agg cc,.c ck] (LsK (elQ 4194304) (yO x c k)) :=
 nE hx hc lk hk (by omega) (tU bx bc bk) hn
theorem half_up {cs:List C} {q:Rat} {n:Nat} (h:IQ n cs q) (hn:n≤4194304):IQ 4194304 cs q:=h.up hn
theorem step_euler (hi:qY cf cx ch ct f x h t):semC Try.prog n_step_method_2 [.agg (cf :: ch),.c cx,.agg ct] (OneK (some (eulerV f h t x))):=by
 refine yD ok_step_method_2 rfl hi.hfv ?_
 have h3:=hi.x3
 obtain ⟨a0,a1,a2,a3,a4,a5,rfl⟩:=id hi.hh.six
 obtain ⟨b0,b1,b2,b3,b4,b5,rfl⟩:=id hi.ht.six
 have c1:CpL 9720 (xI f x t):=(uS hi.hf hi.bx hi.bt).mono (by decide)
 have n1:(xI f x t).length=x.length:=by rw [vT,hi.hl]
 refine go13 ?_
 refine yS (pH hi hi.hx rfl hi.ht hi.bx hi.bt (by decide)) (fun u hu => ?_)
 obtain ⟨r1,rfl,l1⟩:=hu
 refine go13 ?_
 refine yB (uT (x3:=h3) hi.hx hi.bx hi.hh hi.bh l1 n1 c1 (by decide)) (fun u hu => ?_)
 obtain ⟨r2,rfl,l2⟩:=hu
 refine go13 ?_
 exact OneK.fz l2
theorem step_heun {hs:List C} (hi:qY cf cx ch ct f x h t) (hhs:IQ 1 hs vG):semC Try.prog n_step_method_1 [.agg (cf :: ch),.c cx,.agg ct,.c (.ipt hs)] (OneK (some (heunV f h t x))):=by
 refine yD ok_step_method_1 rfl (show HFVs [.agg (cf :: ch),.c cx,.agg ct,.c (.ipt hs)] from ⟨⟨hi.hc.hf,hi.hh.hf⟩,hi.hx.hf,hi.ht.hf,hhs.hf,trivial⟩) ?_
 have h3:=hi.x3
 obtain ⟨a0,a1,a2,a3,a4,a5,rfl⟩:=id hi.hh.six
 obtain ⟨b0,b1,b2,b3,b4,b5,rfl⟩:=id hi.ht.six
 obtain ⟨d0,d1,d2,d3,d4,d5,rfl⟩:=id hhs.six
 have c1:CpL 9720 (xI f x t):=(uS hi.hf hi.bx hi.bt).mono (by decide)
 have n1:(xI f x t).length=x.length:=by rw [vT,hi.hl]
 have c2:CpL 10000 (yO x h (xI f x t)):=(tU hi.bx hi.bh c1).mono (by decide)
 have n2:(yO x h (xI f x t)).length=x.length:=xE n1
 have ct':CpL 140 [t+h]:=(bG hi.bt hi.bh).mono (by decide)
 have c3:CpL 130000 (xI f (yO x h (xI f x t)) (t+h)):=(uS (sQ hi.hf (show _=(yO x h (xI f x t)).length+1 by rw [n2])) c2 ct').mono (by decide)
 have n3:(xI f (yO x h (xI f x t)) (t+h)).length=x.length:=by rw [vT,hi.hl]
 have c4:CpL 140000 (yO (xI f x t) ((1:Int):Rat) (xI f (yO x h (xI f x t)) (t+h))):=(tU c1 (bF (n:=1) (by decide)) c3).mono (by decide)
 have n4:(yO (xI f x t) ((1:Int):Rat) (xI f (yO x h (xI f x t)) (t+h))).length=x.length:=by rw [xE (by rw [n1,n3]),n1]
 refine go13 ?_
 refine yB (pH hi hi.hx rfl hi.ht hi.bx hi.bt (by decide)) (fun u hu => ?_)
 obtain ⟨r1,rfl,l1⟩:=hu
 refine go13 ?_
 refine yS (uT (x3:=h3) hi.hx hi.bx hi.hh hi.bh l1 n1 c1 (by decide)) (fun u hu => ?_)
 obtain ⟨r2,rfl,l2⟩:=hu
 refine go13 ?_
 refine yS (pR hi.ht hi.hh (by decide)) (fun u hu => ?_)
 obtain ⟨r3,rfl,g3⟩:=hu
 have g3:=g3.tightS (ct'.bd (k:=4194304) (by decide) (by simp))
 refine go13 ?_
 refine yB (pH hi l2 n2 g3 c2 ct' (by decide)) (fun u hu => ?_)
 obtain ⟨r4,rfl,l4⟩:=hu
 refine go13 ?_
 refine yB (sG hi.hh hhs (by decide)) (fun u hu => ?_)
 obtain ⟨r5,rfl,g5⟩:=hu
 have g5:=g5.tightS ((hU hi.bh half_cp).bd (k:=4194304) (by decide) (by simp))
 refine go13 ?_
 refine yB (sA (g:=1) (by decide)) (fun u hu => ?_)
 obtain ⟨r6,rfl,g6⟩:=hu
 refine go13 ?_
 refine yB (uT (x3:=by omega) l1 c1 (half_up g6 (by decide)) (bF (n:=1) (by decide)) l4 (by rw [n3,n1]) c3 (by decide)) (fun u hu => ?_)
 obtain ⟨r7,rfl,l7⟩:=hu
 refine go13 ?_
 refine yB (uT (x3:=h3) hi.hx hi.bx g5 (hU hi.bh half_cp) l7 n4 c4 (by decide)) (fun u hu => ?_)
 obtain ⟨r8,rfl,l8⟩:=hu
 refine go13 ?_
 exact OneK.fz l8
theorem step_mid {hs:List C} (hi:qY cf cx ch ct f x h t) (hhs:IQ 1 hs vG):semC Try.prog n_step_method_3 [.agg (cf :: ch),.c cx,.agg ct,.c (.ipt hs)] (OneK (some (midV f h t x))):=by
 refine yD ok_step_method_3 rfl (show HFVs [.agg (cf :: ch),.c cx,.agg ct,.c (.ipt hs)] from ⟨⟨hi.hc.hf,hi.hh.hf⟩,hi.hx.hf,hi.ht.hf,hhs.hf,trivial⟩) ?_
 have h3:=hi.x3
 obtain ⟨a0,a1,a2,a3,a4,a5,rfl⟩:=id hi.hh.six
 obtain ⟨b0,b1,b2,b3,b4,b5,rfl⟩:=id hi.ht.six
 obtain ⟨d0,d1,d2,d3,d4,d5,rfl⟩:=id hhs.six
 have c1:CpL 9720 (xI f x t):=(uS hi.hf hi.bx hi.bt).mono (by decide)
 have n1:(xI f x t).length=x.length:=by rw [vT,hi.hl]
 have bh2:=hU hi.bh half_cp
 have c2:CpL 10000 (yO x (h*vG) (xI f x t)):=(tU hi.bx bh2 c1).mono (by decide)
 have n2:(yO x (h*vG) (xI f x t)).length=x.length:=xE n1
 have ct':CpL 140 [t+h*vG]:=(bG hi.bt bh2).mono (by decide)
 have c3:CpL 130000 (xI f (yO x (h*vG) (xI f x t)) (t+h*vG)):=(uS (sQ hi.hf (show _=(yO x (h*vG) (xI f x t)).length+1 by rw [n2])) c2 ct').mono (by decide)
 have n3:(xI f (yO x (h*vG) (xI f x t)) (t+h*vG)).length=x.length:=by rw [vT,hi.hl]
 refine go13 ?_
 refine yB (sG hi.hh hhs (by decide)) (fun u hu => ?_)
 obtain ⟨r5,rfl,g5⟩:=hu
 have g5:=g5.tightS (bh2.bd (k:=4194304) (by decide) (by simp))
 obtain ⟨e0,e1,e2,e3,e4,e5,rfl⟩:=id g5.six
 refine go13 ?_
 refine yS (pH hi hi.hx rfl hi.ht hi.bx hi.bt (by decide)) (fun u hu => ?_)
 obtain ⟨r1,rfl,l1⟩:=hu
 refine go13 ?_
 refine yS (uT (x3:=h3) hi.hx hi.bx g5 bh2 l1 n1 c1 (by decide)) (fun u hu => ?_)
 obtain ⟨r2,rfl,l2⟩:=hu
 refine go13 ?_
 refine yS (pR hi.ht g5 (by decide)) (fun u hu => ?_)
 obtain ⟨r3,rfl,g3⟩:=hu
 have g3:=g3.tightS (ct'.bd (k:=4194304) (by decide) (by simp))
 refine go13 ?_
 refine yS (pH hi l2 n2 g3 c2 ct' (by decide)) (fun u hu => ?_)
 obtain ⟨r4,rfl,l4⟩:=hu
 refine go13 ?_
 refine yB (uT (x3:=h3) hi.hx hi.bx hi.hh hi.bh l4 n3 c3 (by decide)) (fun u hu => ?_)
 obtain ⟨r8,rfl,l8⟩:=hu
 refine go13 ?_
 exact OneK.fz l8
theorem step_classic {hs:List C} (hi:qY cf cx ch ct f x h t) (hhs:IQ 1 hs vG):semC Try.prog n_step_method_4 [.agg (cf :: ch),.c cx,.agg ct,.c (.ipt hs)] (OneK (some (bU f h t x))):=by
 refine yD ok_step_method_4 rfl (show HFVs [.agg (cf :: ch),.c cx,.agg ct,.c (.ipt hs)] from ⟨⟨hi.hc.hf,hi.hh.hf⟩,hi.hx.hf,hi.ht.hf,hhs.hf,trivial⟩) ?_
 have h3:=hi.x3
 obtain ⟨a0,a1,a2,a3,a4,a5,rfl⟩:=id hi.hh.six
 obtain ⟨b0,b1,b2,b3,b4,b5,rfl⟩:=id hi.ht.six
 obtain ⟨d0,d1,d2,d3,d4,d5,rfl⟩:=id hhs.six
 have bh2:=hU hi.bh half_cp
 have ct2:CpL 140 [t+h*vG]:=(bG hi.bt bh2).mono (by decide)
 have ct1:CpL 140 [t+h]:=(bG hi.bt hi.bh).mono (by decide)
 have c1:CpL 9720 (k1V f h t x):=(uS hi.hf hi.bx hi.bt).mono (by decide)
 have n1:(k1V f h t x).length=x.length:=by rw [k1V,vT,hi.hl]
 have p1:CpL 10000 (yO x (h*vG) (k1V f h t x)):=(tU hi.bx bh2 c1).mono (by decide)
 have m1:(yO x (h*vG) (k1V f h t x)).length=x.length:=xE n1
 have c2:CpL 130000 (k2V f h t x):=(uS (sQ hi.hf (show _=(yO x (h*vG) (k1V f h t x)).length+1 by rw [m1])) p1 ct2).mono (by decide)
 have n2:(k2V f h t x).length=x.length:=by rw [k2V,vT,hi.hl]
 have p2:CpL 131000 (yO x (h*vG) (k2V f h t x)):=(tU hi.bx bh2 c2).mono (by decide)
 have m2:(yO x (h*vG) (k2V f h t x)).length=x.length:=xE n2
 have c3:CpL 1600000 (k3V f h t x):=(uS (sQ hi.hf (show _=(yO x (h*vG) (k2V f h t x)).length+1 by rw [m2])) p2 ct2).mono (by decide)
 have n3:(k3V f h t x).length=x.length:=by rw [k3V,vT,hi.hl]
 have p3:CpL 1610000 (yO x h (k3V f h t x)):=(tU hi.bx hi.bh c3).mono (by decide)
 have m3:(yO x h (k3V f h t x)).length=x.length:=xE n3
 have c4:CpL 19400000 (k4V f h t x):=(uS (sQ hi.hf (show _=(yO x h (k3V f h t x)).length+1 by rw [m3])) p3 ct1).mono (by decide)
 have n4:(k4V f h t x).length=x.length:=by rw [k4V,vT,hi.hl]
 have s1:CpL 140000 (yO (k1V f h t x) ((2:Int):Rat) (k2V f h t x)):=(tU c1 (bF (n:=1) (by decide)) c2).mono (by decide)
 have q1:(yO (k1V f h t x) ((2:Int):Rat) (k2V f h t x)).length=x.length:=by rw [xE (by rw [n1,n2]),n1]
 have s2:CpL 1800000 (yO (yO (k1V f h t x) ((2:Int):Rat) (k2V f h t x)) ((2:Int):Rat) (k3V f h t x)):=(tU s1 (bF (n:=1) (by decide)) c3).mono (by decide)
 have q2:(yO (yO (k1V f h t x) ((2:Int):Rat) (k2V f h t x)) ((2:Int):Rat) (k3V f h t x)).length=x.length:=by rw [xE (by rw [q1,n3]),q1]
 have s3:CpL 22000000 (sumV f h t x):=(tU s2 (bF (n:=1) (by decide)) c4).mono (by decide)
 have q3:(sumV f h t x).length=x.length:=by rw [sumV,xE (by rw [q2,n4]),q2]
 refine go13 ?_
 refine yB (sG hi.hh hhs (by decide)) (fun u hu => ?_)
 obtain ⟨r5,rfl,g5⟩:=hu
 have g5:=g5.tightS (bh2.bd (k:=4194304) (by decide) (by simp))
 obtain ⟨e0,e1,e2,e3,e4,e5,rfl⟩:=id g5.six
 refine go13 ?_
 refine yB (pH hi hi.hx rfl hi.ht hi.bx hi.bt (by decide)) (fun u hu => ?_)
 obtain ⟨r1,rfl,l1⟩:=hu
 have l1:Ls (elQ 4194304) r1 (k1V f h t x):=l1
 refine go13 ?_
 refine yS (uT (x3:=h3) hi.hx hi.bx g5 bh2 l1 n1 c1 (by decide)) (fun u hu => ?_)
 obtain ⟨r2,rfl,l2⟩:=hu
 refine go13 ?_
 refine yS (pR hi.ht g5 (by decide)) (fun u hu => ?_)
 obtain ⟨r3,rfl,g3⟩:=hu
 have g3:=g3.tightS (ct2.bd (k:=4194304) (by decide) (by simp))
 refine go13 ?_
 refine yB (pH hi l2 m1 g3 p1 ct2 (by decide)) (fun u hu => ?_)
 obtain ⟨r4,rfl,l4⟩:=hu
 have l4:Ls (elQ 4194304) r4 (k2V f h t x):=l4
 refine go13 ?_
 refine goN ?_
 refine yS (uT (x3:=h3) hi.hx hi.bx g5 bh2 l4 n2 c2 (by decide)) (fun u hu => ?_)
 obtain ⟨r6,rfl,l6⟩:=hu
 refine go13 ?_
 refine yS (pR hi.ht g5 (by decide)) (fun u hu => ?_)
 obtain ⟨r7,rfl,g7⟩:=hu
 have g7:=g7.tightS (ct2.bd (k:=4194304) (by decide) (by simp))
 refine go13 ?_
 refine yB (pH hi l6 m2 g7 p2 ct2 (by decide)) (fun u hu => ?_)
 obtain ⟨r8,rfl,l8⟩:=hu
 have l8:Ls (elQ 4194304) r8 (k3V f h t x):=l8
 refine go13 ?_
 refine goN ?_
 refine yS (uT (x3:=h3) hi.hx hi.bx hi.hh hi.bh l8 n3 c3 (by decide)) (fun u hu => ?_)
 obtain ⟨r9,rfl,l9⟩:=hu
 refine go13 ?_
 refine yS (pR hi.ht hi.hh (by decide)) (fun u hu => ?_)
 obtain ⟨r10,rfl,g10⟩:=hu
 have g10:=g10.tightS (ct1.bd (k:=4194304) (by decide) (by simp))
 refine go13 ?_
 refine yB (pH hi l9 m3 g10 p3 ct1 (by decide)) (fun u hu => ?_)
 obtain ⟨r11,rfl,l11⟩:=hu
 have l11:Ls (elQ 4194304) r11 (k4V f h t x):=l11
 refine go13 ?_
 refine goN ?_
 refine yS (sA (g:=2) (by decide)) (fun u hu => ?_)
 obtain ⟨r12,rfl,g12⟩:=hu
 refine go13 ?_
 refine yS (uT (x3:=by omega) l1 c1 (half_up g12 (by decide)) (bF (n:=1) (by decide)) l4 (by rw [n2,n1]) c2 (by decide)) (fun u hu => ?_)
 obtain ⟨r13,rfl,l13⟩:=hu
 have l13:Ls (elQ 4194304) r13 (yO (k1V f h t x) ((2:Int):Rat) (k2V f h t x)):=l13
 refine go13 ?_
 refine yS (sA (g:=2) (by decide)) (fun u hu => ?_)
 obtain ⟨r14,rfl,g14⟩:=hu
 refine go13 ?_
 refine yS (uT (x3:=by omega) l13 s1 (half_up g14 (by decide)) (bF (n:=1) (by decide)) l8 (by rw [q1,n3]) c3 (by decide)) (fun u hu => ?_)
 obtain ⟨r15,rfl,l15⟩:=hu
 have l15:Ls (elQ 4194304) r15 (yO (yO (k1V f h t x) ((2:Int):Rat) (k2V f h t x)) ((2:Int):Rat) (k3V f h t x)):=l15
 refine go13 ?_
 refine yS (sA (g:=1) (by decide)) (fun u hu => ?_)
 obtain ⟨r16,rfl,g16⟩:=hu
 refine go13 ?_
 refine yB (uT (x3:=by omega) l15 s2 (half_up g16 (by decide)) (bF (n:=1) (by decide)) l11 (by rw [q2,n4]) c4 (by decide)) (fun u hu => ?_)
 obtain ⟨r17,rfl,l17⟩:=hu
 have l17:Ls (elQ 4194304) r17 (sumV f h t x):=l17
 refine go13 ?_
 refine yS (sA (g:=6) (by decide)) (fun u hu => ?_)
 obtain ⟨r18,rfl,g18⟩:=hu
 refine go13 ?_
 refine yB (q_Div2 hi.hh g18 (by decide) (by decide)) (fun u hu => ?_)
 obtain ⟨r19,rfl,g19⟩:=hu
 have b19:CpL 49 [h / ((6:Int):Rat)]:=by
  have:=hU hi.bh (cp_frac (a:=1) (b:=6) (n:=3) (by decide) (by decide) (by decide) false)
  have e:h*((((bif false then -((1:Nat):Int) else ((1:Nat):Int)):Int):Rat) / (((6:Nat):Int):Rat))=h / ((6:Int):Rat):=by
   simp only [cond_false]
   grind
  rw [e] at this
  exact this.mono (by decide)
 have g19:=g19.tightS (b19.bd (k:=4194304) (by decide) (by simp))
 refine go13 ?_
 refine yB (uT (x3:=h3) hi.hx hi.bx g19 b19 l17 q3 s3 (by decide)) (fun u hu => ?_)
 obtain ⟨r20,rfl,l20⟩:=hu
 refine go13 ?_
 exact OneK.fz l20
end
end Go.Proofs.Ytokckcnfojjpjaa

namespace Go.Proofs.Ytokckcnfojjpjaa
open Go.RowKit
set_option maxRecDepth 20000
abbrev Mx:=Nat→Nat→Rat
def uL (M:Mx) (k p:Nat):Mx:=fun i => if i=k then M p else if i=p then M k else M i
noncomputable def qE (M:Mx) (k:Nat):Mx:=fun i j => bif dec (i=k∨M i k=0∨j<k) then M i j else M i j - M i k / M k k*M k j
def pW (M:Mx) (n k p:Nat):Prop:=k≤p∧p<n∧M p k≠0∧∀ i,k≤i→i<p→M i k=0
noncomputable def sF (n k:Nat) (M:Mx):Option Mx:=bif dec (∃ p,pW M n k p) then some (qE (uL M k (Classical.epsilon fun p => pW M n k p)) k) else none
noncomputable def wK (n:Nat) (M:Mx):Nat→Option Mx
 | 0 => some M
 | k+1 => (wK n M k).bind (sF n k)
noncomputable def qV (n:Nat) (M:Mx):Option (List Rat):=(wK n M n).map fun R => (List.range n).map fun i => R i n / R i i
def sD (n k:Nat):List Rat:=(List.replicate n (0:Rat)).set k 1
noncomputable def impM (f:List Pl) (x:List Rat) (a t:Rat):Mx:=fun i j =>
 if j<x.length then (if i=j then -(a*((xI f (sD x.length j) t).getD i 0 - (xI f (List.replicate x.length 0) t).getD i 0))+1 else -(a*((xI f (sD x.length j) t).getD i 0 - (xI f (List.replicate x.length 0) t).getD i 0)))
 else x.getD i 0+a*(xI f (List.replicate x.length 0) t).getD i 0
noncomputable def qA (f:List Pl) (x:List Rat) (a t:Rat):Option (List Rat):=qV x.length (impM f x a t)
noncomputable def gN (f:List Pl) (h t:Rat) (x:List Rat):Option (List Rat):=qA f (yO x (h*vG) (xI f x t)) (h*vG) (t+h)
noncomputable def uV (m:Int) (f:List Pl) (h t:Rat) (x:List Rat):Option (List Rat) :=
 bif dec (m=0) then some (eulerV f h t x) else bif dec (m=1∨m=6) then some (heunV f h t x) else bif dec (m=2) then some (midV f h t x) else
  bif dec (m=3) then some (bU f h t x) else bif dec (m=4) then qA f x h (t+h) else gN f h t x
def DoK (m:Int) (u:V):Prop:=∃ g caps,u=.c (.fn g caps)∧HFL caps∧∀ {cf cx:C} {ch ct:List C} {f:List Pl} {x:List Rat} {h t:Rat},qY cf cx ch ct f x h t→(m=4∨m=5→AffS f)→semC Try.prog g ([.agg (cf :: ch),.c cx,.agg ct]++caps.map .c) (OneK (uV m f h t x))
def ImpOk (m:Int):Prop:=∀ {cf cx:C} {ch ct hs:List C} {f:List Pl} {x:List Rat} {h t:Rat},qY cf cx ch ct f x h t→AffS f→IQ 1 hs vG→(m=4→semC Try.prog n_step_method_5 [.agg (cf :: ch),.c cx,.agg ct] (OneK (qA f x h (t+h))))∧(m=5→semC Try.prog n_step_method_6 [.agg (cf :: ch),.c cx,.agg ct,.c (.ipt hs)] (OneK (gN f h t x)))
theorem DoK.fn {m:Int} {H:Hp} {g:FuncId} (h:∀ {cf cx:C} {ch ct:List C} {f:List Pl} {x:List Rat} {h t:Rat},qY cf cx ch ct f x h t→(m=4∨m=5→AffS f)→semC Try.prog g [.agg (cf :: ch),.c cx,.agg ct] (OneK (uV m f h t x))):∃ d,FzV H (.c (.fn g [])) d∧DoK m d:=⟨_,.c (.fn .nil),g,[],rfl,trivial,h⟩
theorem DoK.fnP {m:Int} {H:Hp} {g:FuncId} {b:Nat} {hs:List C} {el:TypeId} (hb:H[b]?=some (.live ⟨hs,el,.rw⟩)) (hh:IQ 1 hs vG) (h:∀ {cf cx:C} {ch ct:List C} {f:List Pl} {x:List Rat} {h t:Rat},qY cf cx ch ct f x h t→(m=4∨m=5→AffS f)→semC Try.prog g [.agg (cf :: ch),.c cx,.agg ct,.c (.ipt hs)] (OneK (uV m f h t x))):∃ d,FzV H (.c (.fn g [.ptr b 0])) d∧DoK m d :=
 ⟨_,.c (.fn (.cons (.ptr hb (by simp) (by simp) (.hf hh.hf)) .nil)),g,[.ipt hs],rfl,⟨hh.hf,trivial⟩,h⟩
theorem one_0 {f:List Pl} {h t:Rat} {x:List Rat}:uV 0 f h t x=some (eulerV f h t x):=by simp [uV,dec]
theorem one_1 {f:List Pl} {h t:Rat} {x:List Rat}:uV 1 f h t x=some (heunV f h t x):=by simp [uV,dec]
theorem one_6 {f:List Pl} {h t:Rat} {x:List Rat}:uV 6 f h t x=some (heunV f h t x):=by simp [uV,dec]
theorem one_2 {f:List Pl} {h t:Rat} {x:List Rat}:uV 2 f h t x=some (midV f h t x):=by simp [uV,dec]
theorem one_3 {f:List Pl} {h t:Rat} {x:List Rat}:uV 3 f h t x=some (bU f h t x):=by simp [uV,dec]
theorem one_4 {f:List Pl} {h t:Rat} {x:List Rat}:uV 4 f h t x=qA f x h (t+h):=by simp [uV,dec]
theorem one_5 {f:List Pl} {h t:Rat} {x:List Rat}:uV 5 f h t x=gN f h t x:=by simp [uV,dec]
attribute [local irreducible] yA semH semC qLen qNil qIad qSlc qIdx yW yI xA appX appI slcX awpF yP xH xopF xM qval lval seqQ xJ xY xU xR cnd arith IntKind.wrap
theorem step_method {m:Int} (h0:0≤m) (h6:m≤6) (hi:ImpOk m):semC Try.prog n_step_method [i64 m] (DoK m):=by
 refine yD ok_step_method rfl (show HFVs [i64 m] from ⟨trivial,trivial⟩) ?_
 have hm:m=0∨m=1∨m=2∨m=3∨m=4∨m=5∨m=6:=by omega
 refine go13 ?_
 refine yB (jD (a:=1) (b:=2) (by decide) (by decide) (by decide)) (fun u hu => ?_)
 obtain ⟨hs,rfl,g1⟩:=hu
 obtain ⟨a0,a1,a2,a3,a4,a5,rfl⟩:=id g1.six
 have g1:IQ 1 [a0,a1,a2,a3,a4,a5] vG:=g1
 rcases hm with rfl | rfl | rfl | rfl | rfl | rfl | rfl
 case inl =>
  refine go13 ?_
  exact DoK.fn (fun hj _ => by rw [one_0]; exact step_euler hj)
 case inr.inl =>
  refine go13 ?_
  exact DoK.fnP (by rfl) g1 (fun hj _ => by rw [one_1]; exact step_heun hj g1)
 case inr.inr.inl =>
  refine go13 ?_
  exact DoK.fnP (by rfl) g1 (fun hj _ => by rw [one_2]; exact step_mid hj g1)
 case inr.inr.inr.inl =>
  refine go13 ?_
  exact DoK.fnP (by rfl) g1 (fun hj _ => by rw [one_3]; exact step_classic hj g1)
 case inr.inr.inr.inr.inl =>
  refine go13 ?_
  exact DoK.fn (fun hj ha => by rw [one_4]; exact (hi hj (ha (.inl rfl)) g1).1 rfl)
 case inr.inr.inr.inr.inr.inl =>
  refine go13 ?_
  exact DoK.fnP (by rfl) g1 (fun hj ha => by rw [one_5]; exact (hi hj (ha (.inr rfl)) g1).2 rfl)
 case inr.inr.inr.inr.inr.inr =>
  refine go13 ?_
  exact DoK.fnP (by rfl) g1 (fun hj _ => by rw [one_6]; exact step_heun hj g1)
end Go.Proofs.Ytokckcnfojjpjaa

namespace Go.Proofs.Ytokckcnfojjpjaa
open Go.RowKit
set_option maxRecDepth 20000
theorem pigeon:∀ (M N:Nat) (f:Nat→Nat),(∀ i,i<N→f i<M)→M<N→∃ i j,i<j∧j<N∧f i=f j
 | 0,N,f,h,hn => absurd (h 0 hn) (by omega)
 | M+1,N,f,h,hn => by
  obtain ⟨K,rfl⟩:∃ K,N=K+1:=⟨N - 1,by omega⟩
  by_cases hK:f K=M
  ·by_cases hx:∃ i,i<K∧f i=M
   ·obtain ⟨i,h1,h2⟩:=hx
    exact ⟨i,K,h1,by omega,by rw [h2,hK]⟩
   ·obtain ⟨i,j,h1,h2,h3⟩:=pigeon M K f (fun i hi => by
     have:=h i (by omega)
     have:f i≠M:=fun e => hx ⟨i,hi,e⟩
     omega) (by omega)
    exact ⟨i,j,h1,by omega,h3⟩
  ·have hK':=h K (by omega)
   obtain ⟨i,j,h1,h2,h3⟩:=pigeon M K (fun i => if f i=M then f K else f i) (fun i hi => by
    have:=h i (by omega)
    split <;> omega) (by omega)
   split at h3 <;> split at h3 <;> rename_i a b
   ·exact ⟨i,j,h1,by omega,by rw [a,b]⟩
   ·exact ⟨j,K,h2,by omega,h3.symm⟩
   ·exact ⟨i,K,by omega,by omega,h3⟩
   ·exact ⟨i,j,h1,by omega,h3⟩
def sumI:Nat→(Nat→Int)→Int
 | 0,_ => 0
 | n+1,f => sumI n f+f n
theorem sumI_congr {n:Nat} {f g:Nat→Int} (h:∀ l,l<n→f l=g l):sumI n f=sumI n g:=by
 induction n with
 | zero => rfl
 | succ n ih => rw [sumI,sumI,ih (fun l hl => h l (by omega)),h n (by omega)]
theorem sumI_sub {n:Nat} {f g:Nat→Int}:sumI n (fun l => f l - g l)=sumI n f - sumI n g:=by
 induction n with
 | zero => rfl
 | succ n ih => rw [sumI,sumI,sumI,ih]; omega
theorem sumI_abs {n B:Nat} {f:Nat→Int} (h:∀ l,l<n→(f l).natAbs≤B):(sumI n f).natAbs≤n*B:=by
 induction n with
 | zero => simp [sumI]
 | succ n ih =>
  rw [sumI,Nat.add_mul]
  have h1:=ih (fun l hl => h l (by omega))
  have h2:=h n (by omega)
  have:=Int.natAbs_add_le (sumI n f) (f n)
  omega
theorem dig_ne {P:Nat} (hP:0<P):∀ (w a b:Nat),a<P ^ w→b<P ^ w→(∀ l,l<w→a / P ^ l % P=b / P ^ l % P)→a=b
 | 0,a,b,ha,hb,_ => by simp at ha hb; omega
 | w+1,a,b,ha,hb,h => by
  have h0:=h 0 (by omega)
  simp at h0
  rw [Nat.pow_succ,Nat.mul_comm] at ha hb
  have:=dig_ne hP w (a / P) (b / P) (Nat.div_lt_of_lt_mul ha) (Nat.div_lt_of_lt_mul hb) (fun l hl => by
   have:=h (l+1) (by omega)
   rw [Nat.pow_succ,Nat.mul_comm,←Nat.div_div_eq_div_mul,←Nat.div_div_eq_div_mul] at this
   exact this)
  rw [←Nat.div_add_mod a P,←Nat.div_add_mod b P,this,h0]
def encN (P:Nat):Nat→(Nat→Nat)→Nat
 | 0,_ => 0
 | n+1,f => encN P n f+f n*P ^ n
theorem encN_lt {P:Nat}:∀ {n:Nat} {f:Nat→Nat},(∀ r,r<n→f r<P)→encN P n f<P ^ n
 | 0,f,_ => by simp [encN]
 | n+1,f,h => by
  have h1:=encN_lt (n:=n) (f:=f) (fun r hr => h r (by omega))
  have h2:f n+1≤P:=h n (by omega)
  have h3:=Nat.mul_le_mul_right (P ^ n) h2
  rw [Nat.add_mul,Nat.one_mul] at h3
  rw [encN,Nat.pow_succ,Nat.mul_comm (P ^ n) P]
  omega
theorem encN_inj {P:Nat}:∀ {n:Nat} {f g:Nat→Nat},(∀ r,r<n→f r<P)→(∀ r,r<n→g r<P)→encN P n f=encN P n g→∀ r,r<n→f r=g r
 | 0,f,g,_,_,_ => fun r hr => by omega
 | n+1,f,g,hf,hg,h => by
  have h1:=encN_lt (n:=n) (f:=f) (fun r hr => hf r (by omega))
  have h2:=encN_lt (n:=n) (f:=g) (fun r hr => hg r (by omega))
  rw [encN,encN] at h
  have hP:0<P ^ n:=by omega
  have e1:f n=g n:=by
   have q1:(encN P n f+f n*P ^ n) / P ^ n=f n:=by rw [Nat.add_mul_div_right _ _ hP,Nat.div_eq_of_lt h1,Nat.zero_add]
   have q2:(encN P n g+g n*P ^ n) / P ^ n=g n:=by rw [Nat.add_mul_div_right _ _ hP,Nat.div_eq_of_lt h2,Nat.zero_add]
   rw [←q1,←q2,h]
  rw [e1] at h
  have e2:encN P n f=encN P n g:=by omega
  intro r hr
  rcases Nat.lt_or_ge r n with hr' | hr'
  ·exact encN_inj (fun r hr => hf r (by omega)) (fun r hr => hg r (by omega)) e2 r hr'
  ·have:r=n:=by omega
   rw [this,e1]
theorem siegel (k:Nat) (A:Nat→Nat→Int) (B:Nat) (hA:∀ r l,r<k→l<k+1→(A r l).natAbs≤B) :
  ∃ z:Nat→Int,(∃ l,l<k+1∧z l≠0)∧(∀ l,l<k+1→(z l).natAbs≤(2*((k+1)*B)+1) ^ k)∧∀ r,r<k→sumI (k+1) (fun l => A r l*z l)=0:=by
 obtain ⟨X,hX⟩:∃ X,X=(2*((k+1)*B)+1) ^ k:=⟨_,rfl⟩
 obtain ⟨S,hS⟩:∃ S,S=(k+1)*(B*X):=⟨_,rfl⟩
 obtain ⟨P,hP⟩:∃ P,P=2*S+1:=⟨_,rfl⟩
 have hX1:1≤X:=by rw [hX]; exact Nat.pow_pos (by omega)
 have hd:∀ c l:Nat,c / (X+1) ^ l % (X+1)≤X:=fun c l => Nat.le_of_lt_succ (Nat.mod_lt _ (by omega))
 have hs:∀ c r:Nat,r<k→(sumI (k+1) (fun l => A r l*((c / (X+1) ^ l % (X+1):Nat):Int))).natAbs≤S:=fun c r hr => by
  rw [hS]
  refine sumI_abs (fun l hl => ?_)
  rw [Int.natAbs_mul,Int.natAbs_natCast]
  exact Nat.mul_le_mul (hA r l hr hl) (hd c l)
 have hlt:P ^ k<(X+1) ^ (k+1):=by
  rcases Nat.eq_zero_or_pos k with h0 | h0
  ·subst h0
   simp
   omega
  ·have h1:P≤(2*((k+1)*B)+1)*X:=by
    rw [hP,hS,Nat.add_mul (2*((k+1)*B)),Nat.one_mul,Nat.mul_assoc 2,Nat.mul_assoc (k+1)]
    omega
   have h2:=Nat.pow_le_pow_left h1 k
   rw [Nat.mul_pow,←hX] at h2
   have h3:X ^ k≤(X+1) ^ k:=Nat.pow_le_pow_left (by omega) k
   have h4:X*X ^ k≤X*(X+1) ^ k:=Nat.mul_le_mul_left _ h3
   have h5:0<(X+1) ^ k:=Nat.pow_pos (by omega)
   rw [Nat.pow_succ,Nat.mul_comm,Nat.add_mul,Nat.one_mul]
   omega
 obtain ⟨i,j,h1,h2,h3⟩:=pigeon (P ^ k) ((X+1) ^ (k+1)) (fun c => encN P k (fun r => (sumI (k+1) (fun l => A r l*((c / (X+1) ^ l % (X+1):Nat):Int))+S).toNat)) (fun c hc => encN_lt (fun r hr => by
  have:=hs c r hr
  omega)) hlt
 have h4:=encN_inj (fun r hr => by have:=hs i r hr; omega) (fun r hr => by have:=hs j r hr; omega) h3
 refine ⟨fun l => ((i / (X+1) ^ l % (X+1):Nat):Int) - ((j / (X+1) ^ l % (X+1):Nat):Int),?_,fun l hl => ?_,fun r hr => ?_⟩
 ·refine Classical.byContradiction fun hn => ?_
  have:i=j:=dig_ne (P:=X+1) (by omega) (k+1) i j (by omega) h2 (fun l hl => Classical.byContradiction fun hne => hn ⟨l,hl,fun e => hne (by simp only at e; omega)⟩)
  omega
 ·have:=hd i l
  have:=hd j l
  rw [←hX]
  show (((i / (X+1) ^ l % (X+1):Nat):Int) - ((j / (X+1) ^ l % (X+1):Nat):Int)).natAbs≤X
  omega
 ·have h5:=h4 r hr
  have h6:=hs i r hr
  have h7:=hs j r hr
  rw [sumI_congr (g:=fun l => A r l*((i / (X+1) ^ l % (X+1):Nat):Int) - A r l*((j / (X+1) ^ l % (X+1):Nat):Int)) (fun l hl => Int.mul_sub _ _ _),sumI_sub]
  omega
def sumF:Nat→(Nat→Rat)→Rat
 | 0,_ => 0
 | n+1,f => sumF n f+f n
theorem qG {n:Nat} {f g:Nat→Rat} (h:∀ l,l<n→f l=g l):sumF n f=sumF n g:=by
 induction n with
 | zero => rfl
 | succ n ih => rw [sumF,sumF,ih (fun l hl => h l (by omega)),h n (by omega)]
theorem sumF_zero {n:Nat} {f:Nat→Rat} (h:∀ l,l<n→f l=0):sumF n f=0:=by
 induction n with
 | zero => rfl
 | succ n ih => rw [sumF,ih (fun l hl => h l (by omega)),h n (by omega)]; grind
theorem sumF_lin {n:Nat} {f g:Nat→Rat} {a:Rat}:sumF n (fun l => f l - a*g l)=sumF n f - a*sumF n g:=by
 induction n with
 | zero => simp only [sumF]; grind
 | succ n ih => rw [sumF,sumF,sumF,ih]; grind
theorem sumF_mul {n:Nat} {f:Nat→Rat} {a:Rat}:sumF n (fun l => f l*a)=sumF n f*a:=by
 induction n with
 | zero => simp only [sumF]; grind
 | succ n ih => rw [sumF,sumF,ih]; grind
theorem sumF_one {n j:Nat} {f:Nat→Rat} (hj:j<n) (h:∀ l,l<n→l≠j→f l=0):sumF n f=f j:=by
 induction n with
 | zero => omega
 | succ n ih =>
  rw [sumF]
  by_cases e:j=n
  ·subst e
   rw [sumF_zero (fun l hl => h l (by omega) (by omega))]
   grind
  ·rw [ih (by omega) (fun l hl hn => h l (by omega) hn),h n (by omega) (fun x => e x.symm)]
   grind
theorem sumF_low {n k j:Nat} {f:Nat→Rat} (hk:k≤j) (hj:j<n) (h:∀ l,k≤l→l<n→l≠j→f l=0):sumF n f=sumF k f+f j:=by
 induction n with
 | zero => omega
 | succ n ih =>
  rw [sumF]
  by_cases e:j=n
  ·subst e
   congr 1
   clear ih
   have h2:∀ m,k≤m→m≤j→sumF m f=sumF k f:=by
    intro m hm
    induction m with
    | zero =>
     intro _
     have:k=0:=by omega
     rw [this]
    | succ m ih2 =>
     intro hmj
     by_cases e2:k=m+1
     ·rw [e2]
     ·rw [sumF,ih2 (by omega) (by omega),h m (by omega) (by omega) (by omega)]
      grind
   exact h2 j hk (Nat.le_refl _)
  ·rw [ih (by omega) (fun l h1 h2 h3 => h l h1 (by omega) h3),h n (by omega) (by omega) (fun x => e x.symm)]
   grind
structure Gs (n k:Nat) (M R:Mx) (s:Nat→Nat):Prop where
 dg:∀ l,l<k→R l l≠0
 zr:∀ i c,i<n→c<k→i≠c→R i c=0
 sg:∀ i,i<n→s i<n
 ker:∀ (v:Nat→Rat) (W:Nat),(∀ l,l<k→sumF W (fun j => M (s l) j*v j)=0)→(∀ l,l<k→sumF W (fun j => R l j*v j)=0)∧∀ i,k≤i→i<n→sumF W (fun j => R i j*v j)=sumF W (fun j => M (s i) j*v j)
 piv:∀ l,l<k→∃ Q p,wK n M l=some Q∧l≤p∧p<n∧R l l=Q p l
theorem stage_pick {n k:Nat} {M R:Mx} (h:sF n k M=some R):∃ p,pW M n k p∧R=qE (uL M k p) k:=by
 unfold sF at h
 cases hd:dec (∃ p,pW M n k p)
 ·rw [hd] at h
  cases h
 ·rw [hd] at h
  have:=Classical.epsilon_spec (yE.1 hd)
  exact ⟨_,this,by simpa using h.symm⟩
theorem elim_rowG {M:Mx} {k i:Nat} (hik:i≠k) (hz:∀ j,j<k→M k j=0):∀ j,qE M k i j=M i j - M i k / M k k*M k j:=by
 intro j
 unfold qE
 cases hd:dec (i=k∨M i k=0∨j<k)
 ·rfl
 ·rcases yE.1 hd with h | h | h
  ·exact absurd h hik
  ·rw [h]
   simp only [cond_true]
   grind
  ·rw [hz j h]
   simp only [cond_true]
   grind
theorem elim_own {M:Mx} {k:Nat}:qE M k k=M k:=by
 funext j
 unfold qE
 rw [yE.2 (.inl rfl)]
 rfl
theorem gs_of {n:Nat} {M:Mx}:∀ {k:Nat} {R:Mx},k≤n→wK n M k=some R→∃ s,Gs n k M R s
 | 0,R,_,h => by
  cases h
  exact ⟨id,fun l h => by omega,fun i c _ h => by omega,fun i h => h,fun v W _ => ⟨fun l h => by omega,fun i _ _ => rfl⟩,fun l h => by omega⟩
 | k+1,R,hk,h => by
  obtain ⟨Q,hQ,hs⟩:∃ Q,wK n M k=some Q∧sF n k Q=some R:=by
   have h:(wK n M k).bind (sF n k)=some R:=h
   cases hg:wK n M k with
   | none => rw [hg] at h; cases h
   | some Q => rw [hg] at h; exact ⟨Q,rfl,h⟩
  obtain ⟨s,g⟩:=gs_of (by omega) hQ
  obtain ⟨p,⟨p1,p2,p3,p4⟩,rfl⟩:=stage_pick hs
  obtain ⟨S,hS⟩:∃ S,S=uL Q k p:=⟨_,rfl⟩
  obtain ⟨s',hs'⟩:∃ s':Nat→Nat,s'=fun i => if i=k then s p else if i=p then s k else s i:=⟨_,rfl⟩
  rw [←hS]
  have sk:S k=Q p:=by rw [hS]; simp [uL]
  have slow:∀ l,l<k→S l=Q l:=fun l hl => by
   rw [hS]
   simp only [uL]
   rw [if_neg (by omega),if_neg (by omega)]
  have s'k:s' k=s p:=by rw [hs']; simp
  have s'low:∀ l,l<k→s' l=s l:=fun l hl => by
   rw [hs']
   simp only
   rw [if_neg (by omega),if_neg (by omega)]
  have shi:∀ i,k≤i→i<n→∃ q,k≤q∧q<n∧S i=Q q∧s' i=s q:=fun i h1 h2 => by
   by_cases e1:i=k
   ·subst e1
    exact ⟨p,p1,p2,sk,s'k⟩
   ·by_cases e2:i=p
    ·subst e2
     exact ⟨k,Nat.le_refl _,by omega,by rw [hS]; simp [uL,e1],by rw [hs']; simp [e1]⟩
    ·exact ⟨i,h1,h2,by rw [hS]; simp [uL,e1,e2],by rw [hs']; simp [e1,e2]⟩
  have skk:S k k≠0:=by rw [sk]; exact p3
  have skz:∀ j,j<k→S k j=0:=fun j hj => by rw [sk]; exact g.zr p j p2 hj (by omega)
  have sz:∀ i c,i<n→c<k→i≠c→S i c=0:=fun i c hi hc hic => by
   rcases Nat.lt_or_ge i k with h1 | h1
   ·rw [slow i h1]
    exact g.zr i c hi hc hic
   ·obtain ⟨q,q1,q2,q3,_⟩:=shi i h1 hi
    rw [q3]
    exact g.zr q c q2 hc (by omega)
  have el:∀ i,i≠k→∀ j,qE S k i j=S i j - S i k / S k k*S k j:=fun i hi => elim_rowG hi skz
  refine ⟨s',fun l hl => ?_,fun i c hi hc hic => ?_,fun i hi => ?_,fun v W hv => ?_,fun l hl => ?_⟩
  ·by_cases e:l=k
   ·subst e
    rw [elim_own]
    exact skk
   ·rw [el l e l,skz l (by omega),slow l (by omega)]
    have:=g.dg l (by omega)
    grind
  ·by_cases e:i=k
   ·subst e
    rw [elim_own]
    exact skz c (by omega)
   ·rw [el i e c]
    by_cases e2:c=k
    ·subst e2
     rw [Rat.div_mul_cancel skk]
     grind
    ·rw [skz c (by omega),sz i c hi (by omega) hic]
     grind
  ·rw [hs']
   simp only
   split
   ·exact g.sg p p2
   ·split
    ·exact g.sg k (by omega)
    ·exact g.sg i hi
  ·obtain ⟨g1,g2⟩:=g.ker v W (fun l hl => by rw [←s'low l hl]; exact hv l (by omega))
   have ek:sumF W (fun j => S k j*v j)=0:=by
    rw [sk,g2 p p1 p2,←s'k]
    exact hv k (by omega)
   have er:∀ i,i≠k→sumF W (fun j => qE S k i j*v j)=sumF W (fun j => S i j*v j):=fun i hi => by
    rw [qG (g:=fun j => S i j*v j - S i k / S k k*(S k j*v j)) (fun j _ => by rw [el i hi j]; grind),sumF_lin,ek]
    grind
   refine ⟨fun l hl => ?_,fun i h1 h2 => ?_⟩
   ·by_cases e:l=k
    ·subst e
     rw [elim_own]
     exact ek
    ·rw [er l e,slow l (by omega)]
     exact g1 l (by omega)
   ·rw [er i (by omega)]
    obtain ⟨q,q1,q2,q3,q4⟩:=shi i (by omega) h2
    rw [q3,q4]
    exact g2 q q1 q2
  ·by_cases e:l=k
   ·subst e
    refine ⟨Q,p,hQ,p1,p2,?_⟩
    rw [elim_own,sk]
   ·obtain ⟨Q',p',h1,h2,h3,h4⟩:=g.piv l (by omega)
    refine ⟨Q',p',h1,h2,h3,?_⟩
    rw [←h4,el l e l,skz l (by omega),slow l (by omega)]
    grind
theorem sumI_cast {n:Nat} {f:Nat→Int}:((sumI n f:Int):Rat)=sumF n (fun l => (f l:Rat)):=by
 induction n with
 | zero => rfl
 | succ n ih => rw [sumI,sumF,←ih,Rat.intCast_add]
theorem low_sol {n k j B:Nat} {M R:Mx} {s:Nat→Nat} {N:Nat→Nat→Int} {D:Nat→Nat} (g:Gs n k M R s) (hk:k≤n) (hj:k≤j) (hD:∀ r,r<n→D r≠0)
  (hN:∀ r c,r<n→(c<k∨c=j)→M r c*((D r:Nat):Rat)=(N r c:Rat)) (hB:∀ r c,r<n→(c<k∨c=j)→(N r c).natAbs≤B) :
  ∃ z:Nat→Int,z k≠0∧(∀ l,l<k+1→(z l).natAbs≤(2*((k+1)*B)+1) ^ k)∧(∀ l,l<k→R l j*(z k:Rat) = -(R l l*(z l:Rat))) ∧
   ∀ i,k≤i→i<n→R i j*(z k:Rat)=sumF k (fun c => M (s i) c*(z c:Rat))+M (s i) j*(z k:Rat):=by
 obtain ⟨z,z1,z2,z3⟩:=siegel k (fun r l => N (s r) (if l<k then l else j)) B (fun r l hr hl => hB _ _ (g.sg r (by omega)) (by split <;> simp_all))
 obtain ⟨v,hv⟩:∃ v:Nat→Rat,v=fun c => if c<k then (z c:Rat) else if c=j then (z k:Rat) else 0:=⟨_,rfl⟩
 have vlow:∀ c,c<k→v c=(z c:Rat):=fun c hc => by rw [hv]; simp [hc]
 have vj:v j=(z k:Rat):=by rw [hv]; show (if j<k then _ else if j=j then _ else _)=_; rw [if_neg (by omega),if_pos rfl]
 have vhi:∀ c,k≤c→c≠j→v c=0:=fun c h1 h2 => by rw [hv]; show (if c<k then _ else if c=j then _ else _)=_; rw [if_neg (by omega),if_neg h2]
 have hsum:∀ a:Nat→Rat,sumF (j+1) (fun c => a c*v c)=sumF k (fun c => a c*(z c:Rat))+a j*(z k:Rat):=fun a => by
  rw [sumF_low hj (by omega) (fun l h1 h2 h3 => by rw [vhi l h1 h3]; grind),vj,qG (fun c hc => by rw [vlow c hc])]
 have hker:∀ l,l<k→sumF (j+1) (fun c => M (s l) c*v c)=0:=fun l hl => by
  rw [hsum]
  have h1:=z3 l hl
  have h2:((sumI (k+1) (fun l' => N (s l) (if l'<k then l' else j)*z l'):Int):Rat)=0:=by
   rw [h1]
   rfl
  have hsl:=g.sg l (by omega)
  have hd:((D (s l):Nat):Rat)≠0:=by
   intro h
   exact hD _ hsl (by exact_mod_cast h)
  rw [sumI_cast,sumF] at h2
  simp only [Nat.lt_irrefl,if_false,Rat.intCast_mul] at h2
  have e1:sumF k (fun l' => ((N (s l) (if l'<k then l' else j):Int):Rat)*((z l':Int):Rat))=sumF k (fun c => M (s l) c*(z c:Rat))*((D (s l):Nat):Rat):=by
   rw [←sumF_mul]
   refine qG (fun c hc => ?_)
   rw [if_pos hc,←hN _ _ hsl (.inl hc)]
   grind
  rw [e1,←hN _ _ hsl (.inr rfl)] at h2
  have h3:(sumF k (fun c => M (s l) c*(z c:Rat))+M (s l) j*(z k:Rat))*((D (s l):Nat):Rat)=0:=by
   rw [←h2]
   grind
  rcases Rat.mul_eq_zero.1 h3 with h | h
  ·exact h
  ·exact absurd h hd
 obtain ⟨k1,k2⟩:=g.ker v (j+1) hker
 have hrow:∀ l,l<k→R l l*(z l:Rat)+R l j*(z k:Rat)=0:=fun l hl => by
  have:=k1 l hl
  rw [hsum,sumF_one hl (fun c hc hne => by rw [g.zr l c (by omega) hc (Ne.symm hne)]; grind)] at this
  exact this
 refine ⟨z,fun h0 => ?_,z2,fun l hl => ?_,fun i h1 h2 => ?_⟩
 ·obtain ⟨l,hl,hz⟩:=z1
  by_cases e:l=k
  ·subst e
   exact hz h0
  ·have h1:=hrow l (by omega)
   rw [h0] at h1
   have h2:R l l*(z l:Rat)=0:=by
    rw [←h1]
    have:((0:Int):Rat)=0:=rfl
    rw [this]
    grind
   rcases Rat.mul_eq_zero.1 h2 with h | h
   ·exact g.dg l (by omega) h
   ·exact hz (by exact_mod_cast h)
 ·have:=hrow l hl
  grind
 ·have h3:=k2 i h1 h2
  rw [hsum,hsum,sumF_zero (fun c hc => by rw [g.zr i c h2 hc (by omega)]; grind)] at h3
  rw [←h3]
  grind
theorem gauss_agree {n:Nat} {M M':Mx} (h:∀ i j,j≤n→M i j=M' i j):∀ {k:Nat} {R:Mx},k≤n→wK n M k=some R→∃ R',wK n M' k=some R'∧∀ i j,j≤n→R i j=R' i j
 | 0,R,_,hR => by cases hR; exact ⟨M',rfl,h⟩
 | k+1,R,hk,hR => by
  obtain ⟨Q,hQ,hs⟩:∃ Q,wK n M k=some Q∧sF n k Q=some R:=by
   have hR:(wK n M k).bind (sF n k)=some R:=hR
   cases hg:wK n M k with
   | none => rw [hg] at hR; cases hR
   | some Q => rw [hg] at hR; exact ⟨Q,rfl,hR⟩
  obtain ⟨Q',hQ',hq⟩:=gauss_agree h (by omega) hQ
  have hp:(fun p => pW Q n k p)=fun p => pW Q' n k p:=by
   funext p
   unfold pW
   simp only [hq _ k (by omega)]
  have hex:∃ p,pW Q n k p:=by
   obtain ⟨p,h1,_⟩:=stage_pick hs
   exact ⟨p,h1⟩
  have hex':∃ p,pW Q' n k p:=by
   obtain ⟨p,h1⟩:=hex
   exact ⟨p,(congrFun hp p) ▸ h1⟩
  unfold sF at hs
  rw [yE.2 hex] at hs
  have hs:qE (uL Q k (Classical.epsilon fun p => pW Q n k p)) k=R:=by simpa using hs
  refine ⟨qE (uL Q' k (Classical.epsilon fun p => pW Q' n k p)) k,?_,fun i j hj => ?_⟩
  ·show (wK n M' k).bind (sF n k)=_
   rw [hQ']
   show sF n k Q'=_
   unfold sF
   rw [yE.2 hex']
   rfl
  ·rw [←hs,←hp]
   generalize (Classical.epsilon fun p => pW Q n k p)=p
   have e:∀ i j,j≤n→uL Q k p i j=uL Q' k p i j:=fun i j hj => by
    unfold uL
    split
    ·exact hq _ _ hj
    ·split <;> exact hq _ _ hj
   unfold qE
   simp only [e _ j hj,e _ k (show k≤n by omega)]
def augV (n:Nat) (M:Mx):Mx:=fun i j => if j≤n then M i j else if j=n+1+i then 1 else 0
theorem aug_lin {n:Nat} {M:Mx}:∀ {k:Nat} {R:Mx},k≤n→wK n (augV n M) k=some R→∀ i j,i<n→R i j=sumF n (fun r => R i (n+1+r)*augV n M r j)
 | 0,R,_,hR,i,j,hi => by
  cases hR
  rw [sumF_one hi (fun l hl hne => by
   have:augV n M i (n+1+l)=0:=by
    unfold augV
    rw [if_neg (by omega),if_neg (by omega)]
   rw [this]
   grind)]
  have:augV n M i (n+1+i)=1:=by
   unfold augV
   rw [if_neg (by omega),if_pos rfl]
  rw [this]
  grind
 | k+1,R,hk,hR,i,j,hi => by
  obtain ⟨Q,hQ,hs⟩:∃ Q,wK n (augV n M) k=some Q∧sF n k Q=some R:=by
   have hR:(wK n (augV n M) k).bind (sF n k)=some R:=hR
   cases hg:wK n (augV n M) k with
   | none => rw [hg] at hR; cases hR
   | some Q => rw [hg] at hR; exact ⟨Q,rfl,hR⟩
  have ih:=fun i j hi => aug_lin (k:=k) (by omega) hQ i j hi
  obtain ⟨s,g⟩:=gs_of (by omega) hQ
  obtain ⟨p,⟨p1,p2,p3,p4⟩,rfl⟩:=stage_pick hs
  obtain ⟨S,hS⟩:∃ S,S=uL Q k p:=⟨_,rfl⟩
  rw [←hS]
  have sr:∀ i,i<n→∃ q,q<n∧S i=Q q:=fun i hi => by
   rw [hS]
   unfold uL
   by_cases e1:i=k
   ·exact ⟨p,p2,by rw [if_pos e1]⟩
   ·by_cases e2:i=p
    ·exact ⟨k,by omega,by rw [if_neg e1,if_pos e2]⟩
    ·exact ⟨i,hi,by rw [if_neg e1,if_neg e2]⟩
  have hSl:∀ i j,i<n→S i j=sumF n (fun r => S i (n+1+r)*augV n M r j):=fun i j hi => by
   obtain ⟨q,h1,h2⟩:=sr i hi
   rw [h2]
   exact ih q j h1
  have sk:S k=Q p:=by rw [hS]; simp [uL]
  by_cases e:i=k
  ·subst e
   rw [elim_own]
   exact hSl _ j hi
  ·have el:=elim_rowG (M:=S) e (fun j hj => by rw [sk]; exact g.zr p j p2 hj (by omega))
   rw [el j,qG (g:=fun r => S i (n+1+r)*augV n M r j - S i k / S k k*(S k (n+1+r)*augV n M r j)) (fun r _ => by rw [el]; grind),sumF_lin,←hSl i j hi,←hSl k j (by omega)]
def prodI:Nat→(Nat→Int)→Int
 | 0,_ => 1
 | n+1,f => prodI n f*f n
theorem prodI_ne {n:Nat} {f:Nat→Int} (h:∀ l,l<n→f l≠0):prodI n f≠0:=by
 induction n with
 | zero => intro h; cases h
 | succ n ih => exact Int.mul_ne_zero (ih fun l hl => h l (by omega)) (h n (by omega))
theorem prodI_abs {n W:Nat} {f:Nat→Int} (h:∀ l,l<n→(f l).natAbs≤W):(prodI n f).natAbs≤W ^ n:=by
 induction n with
 | zero => exact Nat.le_refl _
 | succ n ih =>
  rw [prodI,Int.natAbs_mul,Nat.pow_succ]
  exact Nat.mul_le_mul (ih fun l hl => h l (by omega)) (h n (by omega))
theorem sum_int {T G W:Nat} {c b:Nat→Rat} {z:Nat→Int} {E F:Int} (hW:1≤W):∀ {m:Nat},(∀ r,r<m→∃ t:Int,c r*((z r:Int):Rat)*((E:Int):Rat)=(t:Rat)∧t.natAbs≤T)→(∀ r,r<m→∃ t:Int,b r*((F:Int):Rat)=(t:Rat)∧t.natAbs≤G)→(∀ r,r<m→(z r).natAbs≤W) →
  ∃ N:Int,sumF m (fun r => c r*b r)*(((E*F*prodI m z:Int)):Rat)=(N:Rat)∧N.natAbs≤m*(T*G*W ^ m)
 | 0,_,_,_ => ⟨0,by simp only [sumF]; grind,by simp⟩
 | m+1,h1,h2,h3 => by
  obtain ⟨N,n1,n2⟩:=sum_int hW (m:=m) (fun r hr => h1 r (by omega)) (fun r hr => h2 r (by omega)) (fun r hr => h3 r (by omega))
  obtain ⟨t,t1,t2⟩:=h1 m (by omega)
  obtain ⟨u,u1,u2⟩:=h2 m (by omega)
  have z1:=h3 m (by omega)
  refine ⟨N*z m+t*u*prodI m z,?_,?_⟩
  ·rw [sumF,prodI]
   simp only [Rat.intCast_mul,Rat.intCast_add] at *
   rw [←n1,←t1,←u1]
   grind
  ·refine Nat.le_trans (Int.natAbs_add_le _ _) ?_
   rw [Int.natAbs_mul,Int.natAbs_mul,Int.natAbs_mul]
   have p1:=prodI_abs (n:=m) (fun r hr => h3 r (by omega))
   have q1:N.natAbs*(z m).natAbs≤m*(T*G*W ^ m)*W:=Nat.mul_le_mul n2 z1
   have q2:t.natAbs*u.natAbs*(prodI m z).natAbs≤T*G*W ^ m:=Nat.mul_le_mul (Nat.mul_le_mul t2 u2) p1
   have q3:T*G*W ^ m≤T*G*W ^ m*W:=Nat.le_mul_of_pos_right _ hW
   rw [Nat.pow_succ,Nat.add_mul,Nat.one_mul,←Nat.mul_assoc (T*G),Nat.mul_assoc m] at *
   omega
structure RowI (n B G:Nat) (M:Mx) (N:Nat→Nat→Int) (D:Nat→Nat) (F:Int) (g:Nat→Int):Prop where
 d0:∀ r,r<n→D r≠0
 dB:∀ r,r<n→D r≤B
 eq:∀ r c,r<n→c<n→M r c*((D r:Nat):Rat)=(N r c:Rat)
 nB:∀ r c,r<n→c<n→(N r c).natAbs≤B
 f0:F≠0
 fG:F.natAbs≤G
 ge:∀ r,r<n→M r n*(F:Rat)=(g r:Rat)
 gG:∀ r,r<n→(g r).natAbs≤G
def wN (n B:Nat):Nat:=(2*((n+1)*B)+1) ^ n
theorem wN_pos {n B:Nat}:1≤wN n B:=Nat.pow_pos (by omega)
theorem wN_up {n k B:Nat} (h:k≤n):(2*((k+1)*B)+1) ^ k≤wN n B:=by
 have h1:(k+1)*B≤(n+1)*B:=Nat.mul_le_mul_right _ (by omega)
 exact Nat.le_trans (Nat.pow_le_pow_left (by omega) k) (Nat.pow_le_pow_right (by omega) h)
def FrQ (T:Nat) (q:Rat):Prop:=∃ N d:Int,d≠0∧q*(d:Rat)=(N:Rat)∧N.natAbs≤T∧d.natAbs≤T
theorem FrQ.mono {T U:Nat} {q:Rat} (h:FrQ T q) (hT:T≤U):FrQ U q:=by
 obtain ⟨N,d,h1,h2,h3,h4⟩:=h
 exact ⟨N,d,h1,h2,Nat.le_trans h3 hT,Nat.le_trans h4 hT⟩
theorem frq_zero {T:Nat} (h:1≤T):FrQ T 0:=⟨0,1,by decide,by rw [Rat.zero_mul]; rfl,by simp,by simpa using h⟩
section
variable {n k j B W:Nat} {M R:Mx} {s:Nat→Nat} {N:Nat→Nat→Int} {D:Nat→Nat}
theorem low_num (hW:(2*((k+1)*B)+1) ^ k≤W) (g:Gs n k M R s) (hk:k≤n) (hj:k≤j) (hD:∀ r,r<n→D r≠0)
  (hN:∀ r c,r<n→(c<k∨c=j)→M r c*((D r:Nat):Rat)=(N r c:Rat)) (hB:∀ r c,r<n→(c<k∨c=j)→(N r c).natAbs≤B) :
  ∃ z:Nat→Int,z k≠0∧(∀ l,l<k+1→(z l).natAbs≤W)∧(∀ l,l<k→R l j*(z k:Rat) = -(R l l*(z l:Rat))) ∧
   ∀ i,k≤i→i<n→∃ P:Int,R i j*(z k:Rat)*((D (s i):Nat):Rat)=(P:Rat)∧P.natAbs≤(n+1)*(B*W):=by
 obtain ⟨z,z0,z1,z2,z3⟩:=low_sol g hk hj hD hN hB
 have z1:=fun l hl => Nat.le_trans (z1 l hl) hW
 refine ⟨z,z0,z1,z2,fun i h1 h2 => ⟨sumI k (fun c => N (s i) c*z c)+N (s i) j*z k,?_,?_⟩⟩
 ·have e1:sumF k (fun c => ((N (s i) c*z c:Int):Rat))=sumF k (fun c => M (s i) c*(z c:Rat))*((D (s i):Nat):Rat):=by
   rw [←sumF_mul]
   exact qG (fun c hc => by rw [Rat.intCast_mul,←hN _ _ (g.sg i h2) (.inl hc)]; grind)
  rw [z3 i h1 h2,Rat.intCast_add,sumI_cast,Rat.intCast_mul,←hN _ _ (g.sg i h2) (.inr rfl),e1]
  grind
 ·refine Nat.le_trans (Int.natAbs_add_le _ _) ?_
  have h3:(sumI k (fun c => N (s i) c*z c)).natAbs≤k*(B*W):=sumI_abs (fun c hc => by
   rw [Int.natAbs_mul]
   exact Nat.mul_le_mul (hB _ _ (g.sg i h2) (.inl hc)) (z1 c (by omega)))
  have h4:(N (s i) j*z k).natAbs≤B*W:=by
   rw [Int.natAbs_mul]
   exact Nat.mul_le_mul (hB _ _ (g.sg i h2) (.inr rfl)) (z1 k (by omega))
  have h5:k*(B*W)≤n*(B*W):=Nat.mul_le_mul_right _ hk
  rw [Nat.add_mul,Nat.one_mul]
  omega
end
section
variable {n B G:Nat} {M:Mx} {N:Nat→Nat→Int} {D:Nat→Nat} {F:Int} {g:Nat→Int}
theorem num_low {k i j:Nat} {R:Mx} (h:RowI n B G M N D F g) (hk:k≤n) (hR:wK n M k=some R) (hi:k≤i) (hin:i<n) (hj:k≤j) (hjn:j<n) :
  ∃ P d:Int,d≠0∧R i j*(d:Rat)=(P:Rat)∧P.natAbs≤(n+1)*(B*wN n B)∧d.natAbs≤B*wN n B:=by
 obtain ⟨s,gs⟩:=gs_of hk hR
 obtain ⟨z,z0,z1,z2,z3⟩:=low_num (wN_up hk) gs hk hj h.d0 (fun r c hr hc => h.eq r c hr (by omega)) (fun r c hr hc => h.nB r c hr (by omega))
 obtain ⟨P,p1,p2⟩:=z3 i hi hin
 have hs:=gs.sg i hin
 have hd0:=h.d0 _ hs
 refine ⟨P,z k*(D (s i):Int),Int.mul_ne_zero z0 (by omega),?_,p2,?_⟩
 ·rw [←p1,Rat.intCast_mul,Rat.intCast_natCast]
  grind
 ·rw [Int.natAbs_mul,Int.natAbs_natCast,Nat.mul_comm]
  exact Nat.mul_le_mul (h.dB _ hs) (z1 k (by omega))
theorem num_piv {k l:Nat} {R:Mx} (h:RowI n B G M N D F g) (hk:k≤n) (hR:wK n M k=some R) (hl:l<k) :
  ∃ P d:Int,d≠0∧R l l*(d:Rat)=(P:Rat)∧P.natAbs≤(n+1)*(B*wN n B)∧d.natAbs≤B*wN n B:=by
 obtain ⟨s,gs⟩:=gs_of hk hR
 obtain ⟨Q,p,h1,h2,h3,h4⟩:=gs.piv l hl
 rw [h4]
 exact num_low h (by omega) h1 h2 h3 (Nat.le_refl _) (by omega)
theorem num_all {k i j:Nat} {R:Mx} (h:RowI n B G M N D F g) (hB:1≤B) (hk:k≤n) (hR:wK n M k=some R) (hi:i<n) (hj:j<n):FrQ ((n+1)*(B*wN n B)*wN n B) (R i j):=by
 obtain ⟨s,gs⟩:=gs_of hk hR
 have hW:=wN_pos (n:=n) (B:=B)
 have u0:B*wN n B≤(n+1)*(B*wN n B):=Nat.le_mul_of_pos_left _ (by omega)
 have u1:(n+1)*(B*wN n B)≤(n+1)*(B*wN n B)*wN n B:=Nat.le_mul_of_pos_right _ hW
 have u2:B*wN n B*wN n B≤(n+1)*(B*wN n B)*wN n B:=Nat.mul_le_mul_right _ u0
 have up:(∃ P d:Int,d≠0∧R i j*(d:Rat)=(P:Rat)∧P.natAbs≤(n+1)*(B*wN n B)∧d.natAbs≤B*wN n B)→FrQ ((n+1)*(B*wN n B)*wN n B) (R i j):=by
  rintro ⟨P,d,h1,h2,h3,h4⟩
  exact ⟨P,d,h1,h2,by omega,by omega⟩
 rcases Nat.lt_or_ge j k with hjk | hjk
 ·by_cases e:i=j
  ·subst e
   exact up (num_piv h hk hR hjk)
  ·rw [gs.zr i j hi hjk e]
   have:1≤B*wN n B:=Nat.mul_pos hB hW
   exact frq_zero (by omega)
 ·rcases Nat.lt_or_ge i k with hik | hik
  ·obtain ⟨z,z0,z1,z2,z3⟩:=low_num (wN_up hk) gs hk hjk h.d0 (fun r c hr hc => h.eq r c hr (by omega)) (fun r c hr hc => h.nB r c hr (by omega))
   obtain ⟨P,d,d0,h2,h3,h4⟩:=num_piv h hk hR hik
   refine ⟨-(P*z i),z k*d,Int.mul_ne_zero z0 d0,?_,?_,?_⟩
   ·rw [Rat.intCast_mul,Rat.intCast_neg,Rat.intCast_mul,←h2]
    have:=z2 i hik
    grind
   ·rw [Int.natAbs_neg,Int.natAbs_mul]
    exact Nat.mul_le_mul h3 (z1 i (by omega))
   ·rw [Int.natAbs_mul,Nat.mul_comm]
    exact Nat.le_trans (Nat.mul_le_mul h4 (z1 k (by omega))) u2
  ·exact up (num_low h hk hR hik hi hjk hj)
theorem aug_sol {k:Nat} {R:Mx} (h:RowI n B G M N D F g) (hB:1≤B) (hk:k≤n) (hR:wK n (augV n M) k=some R) {s:Nat→Nat} (gs:Gs n k (augV n M) R s) (r:Nat) :
  ∃ z:Nat→Int,z k≠0∧(∀ l,l<k+1→(z l).natAbs≤wN n B)∧(∀ l,l<k→R l (n+1+r)*(z k:Rat) = -(R l l*(z l:Rat))) ∧
   ∀ i,k≤i→i<n→∃ P:Int,R i (n+1+r)*(z k:Rat)*((D (s i):Nat):Rat)=(P:Rat)∧P.natAbs≤(n+1)*(B*wN n B):=by
 refine low_num (N:=fun r' c => if c<n then N r' c else if c=n+1+r' then (D r':Int) else 0) (wN_up hk) gs hk (by omega) h.d0 (fun r' c hr hc => ?_) (fun r' c hr hc => ?_)
 ·unfold augV
  rcases hc with hc | hc
  ·rw [if_pos (by omega),if_pos (by omega)]
   exact h.eq r' c hr (by omega)
  ·rw [if_neg (show ¬ c≤n by omega),if_neg (show ¬ c<n by omega)]
   by_cases e:c=n+1+r'
   ·rw [if_pos e,if_pos e,Rat.intCast_natCast]
    grind
   ·rw [if_neg e,if_neg e]
    have:((0:Int):Rat)=0:=rfl
    rw [this]
    grind
 ·split
  ·exact h.nB r' c hr (by assumption)
  ·split
   ·rw [Int.natAbs_natCast]
    exact h.dB r' hr
   ·simp
theorem aug_z {k:Nat} {R:Mx} (h:RowI n B G M N D F g) (hB:1≤B) (hk:k≤n) (hR:wK n (augV n M) k=some R) {s:Nat→Nat} (gs:Gs n k (augV n M) R s) :
  ∃ z:Nat→Nat→Int,∀ r,z r k≠0∧(∀ l,l<k+1→(z r l).natAbs≤wN n B)∧(∀ l,l<k→R l (n+1+r)*(z r k:Rat) = -(R l l*(z r l:Rat))) ∧
   ∀ i,k≤i→i<n→∃ P:Int,R i (n+1+r)*(z r k:Rat)*((D (s i):Nat):Rat)=(P:Rat)∧P.natAbs≤(n+1)*(B*wN n B) :=
 Classical.axiomOfChoice fun r => aug_sol h hB hk hR gs r
theorem aug_I (h:RowI n B G M N D F g):RowI n B G (augV n M) N D F g :=
 ⟨h.d0,h.dB,fun r c hr hc => by unfold augV; rw [if_pos (by omega)]; exact h.eq r c hr hc,h.nB,h.f0,h.fG,fun r hr => by unfold augV; rw [if_pos (Nat.le_refl _)]; exact h.ge r hr,h.gG⟩
theorem num_last {k i:Nat} {R:Mx} (h:RowI n B G M N D F g) (hB:1≤B) (hk:k≤n) (hR:wK n M k=some R) (hi:i<n):FrQ (n*((n+1)*(B*wN n B)*wN n B*G*wN n B ^ n)) (R i n):=by
 obtain ⟨S,hS,hag⟩:=gauss_agree (M':=augV n M) (fun i j hj => by unfold augV; rw [if_pos hj]) hk hR
 obtain ⟨s,gs⟩:=gs_of hk hS
 obtain ⟨z,hz⟩:=aug_z h hB hk hS gs
 rw [hag i n (Nat.le_refl _),aug_lin hk hS i n hi]
 have hW:=wN_pos (n:=n) (B:=B)
 have u0:B*wN n B≤(n+1)*(B*wN n B):=Nat.le_mul_of_pos_left _ (by omega)
 have u1:(n+1)*(B*wN n B)≤(n+1)*(B*wN n B)*wN n B:=Nat.le_mul_of_pos_right _ hW
 have hE:∃ E:Int,E≠0∧E.natAbs≤(n+1)*(B*wN n B)*wN n B∧∀ r,r<n→∃ t:Int,S i (n+1+r)*((z r k:Int):Rat)*((E:Int):Rat)=(t:Rat)∧t.natAbs≤(n+1)*(B*wN n B)*wN n B:=by
  rcases Nat.lt_or_ge i k with hik | hik
  ·obtain ⟨P,d,d0,h2,h3,h4⟩:=num_piv (aug_I h) hk hS hik
   refine ⟨d,d0,by omega,fun r hr => ⟨-(P*z r i),?_,?_⟩⟩
   ·rw [(hz r).2.2.1 i hik,Rat.intCast_neg,Rat.intCast_mul,←h2]
    grind
   ·rw [Int.natAbs_neg,Int.natAbs_mul]
    exact Nat.mul_le_mul h3 ((hz r).2.1 i (by omega))
  ·have hs:=gs.sg i hi
   have hd0:=h.d0 _ hs
   have hdB:=h.dB _ hs
   have:B≤B*wN n B:=Nat.le_mul_of_pos_right _ hW
   refine ⟨(D (s i):Int),by omega,by rw [Int.natAbs_natCast]; omega,fun r hr => ?_⟩
   obtain ⟨P,p1,p2⟩:=(hz r).2.2.2 i hik hi
   exact ⟨P,by rw [Rat.intCast_natCast]; exact p1,by omega⟩
 obtain ⟨E,E0,E1,E2⟩:=hE
 obtain ⟨Q,q1,q2⟩:=sum_int (F:=F) (b:=fun r => augV n M r n) hW E2 (fun r hr => ⟨g r,(aug_I h).ge r hr,h.gG r hr⟩) (fun r hr => (hz r).2.1 k (by omega))
 refine ⟨Q,E*F*prodI n (fun r => z r k),Int.mul_ne_zero (Int.mul_ne_zero E0 h.f0) (prodI_ne fun r hr => (hz r).1),q1,q2,?_⟩
 rw [Int.natAbs_mul,Int.natAbs_mul]
 have p1:=prodI_abs (n:=n) (f:=fun r => z r k) (fun r hr => (hz r).2.1 k (by omega))
 exact Nat.le_trans (Nat.mul_le_mul (Nat.mul_le_mul E1 h.fG) p1) (Nat.le_mul_of_pos_left _ (by omega))
theorem num_sol {R:Mx} (h:RowI n B G M N D F g) (hB:1≤B) (hR:wK n M n=some R):∃ d:Int,d≠0∧d.natAbs≤F.natAbs*wN n B ^ n∧F.natAbs≤d.natAbs∧∀ i,i<n→∃ P:Int,R i n / R i i*(d:Rat)=(P:Rat)∧P.natAbs≤n*(wN n B*G*wN n B ^ n):=by
 obtain ⟨S,hS,hag⟩:=gauss_agree (M':=augV n M) (fun i j hj => by unfold augV; rw [if_pos hj]) (Nat.le_refl _) hR
 obtain ⟨s,gs⟩:=gs_of (Nat.le_refl _) hS
 obtain ⟨z,hz⟩:=aug_z h hB (Nat.le_refl _) hS gs
 have hW:=wN_pos (n:=n) (B:=B)
 have hp0:prodI n (fun r => z r n)≠0:=prodI_ne fun r hr => (hz r).1
 refine ⟨1*F*prodI n (fun r => z r n),Int.mul_ne_zero (Int.mul_ne_zero (by decide) h.f0) hp0,?_,?_,fun i hi => ?_⟩
 ·rw [Int.natAbs_mul,Int.one_mul]
  exact Nat.mul_le_mul (Nat.le_refl _) (prodI_abs (fun r hr => (hz r).2.1 n (by omega)))
 ·rw [Int.natAbs_mul,Int.one_mul]
  exact Nat.le_mul_of_pos_right _ (Int.natAbs_pos.2 hp0)
 ·rw [hag i n (Nat.le_refl _),hag i i (by omega),aug_lin (Nat.le_refl _) hS i n hi]
  have hd:=gs.dg i hi
  obtain ⟨Q,q1,q2⟩:=sum_int (E:=1) (F:=F) (c:=fun r => S i (n+1+r) / S i i) (T:=wN n B) (b:=fun r => augV n M r n) (z:=fun r => z r n) hW (fun r hr => ⟨-(z r i),by
   have h1:=(hz r).2.2.1 i hi
   have h2:((1:Int):Rat)=1:=rfl
   rw [Rat.intCast_neg,h2,Rat.div_def]
   have h3:S i i*(S i i)⁻¹=1:=Rat.mul_inv_cancel _ hd
   grind,by rw [Int.natAbs_neg]; exact (hz r).2.1 i (by omega)⟩) (fun r hr => ⟨g r,(aug_I h).ge r hr,h.gG r hr⟩) (fun r hr => (hz r).2.1 n (by omega))
  refine ⟨Q,?_,q2⟩
  rw [←q1]
  congr 1
  rw [Rat.div_def,←sumF_mul]
  exact qG (fun r _ => by rw [Rat.div_def]; grind)
end
end Go.Proofs.Ytokckcnfojjpjaa

namespace Go.Proofs.Ytokckcnfojjpjaa
open Go.RowKit
set_option maxRecDepth 20000
def rowQ (bx:Nat→Nat) (co:Nat→Option Nat) (w i:Nat):C:=.sl (bx i) 0 w (co i) 6
def updQ (A:Mx) (i j:Nat) (a:Rat):Mx:=fun i' j' => if i'=i∧j'=j then a else A i' j'
structure Mt (K o:Nat) (bx:Nat→Nat) (co:Nat→Option Nat) (ds:Nat→List C) (L:Nat) (H:Hp) (m w:Nat) (M:Mx):Prop where
 T:H[o]?=some (.live ⟨(List.range m).map (rowQ bx co w),qM,.rw⟩)
 oL:o<L
 pos:∀ i,i<m→bx i≠o∧bx i<L
 row:∀ i,i<m→H[bx i]?=some (.live ⟨ds i,yR,.rw⟩)
 len:∀ i,i<m→(ds i).length=w*6
 at_:∀ i j,i<m→j<w→IQ K (((ds i).drop (j*6)).take 6) (M i j)
 inj:∀ i k,i<m→k<m→bx i=bx k→i=k
section
variable {K o:Nat} {bx:Nat→Nat} {co:Nat→Option Nat} {ds:Nat→List C} {L:Nat} {H:Hp} {m w:Nat} {M:Mx}
theorem Mt.congr {M':Mx} (h:Mt K o bx co ds L H m w M) (hv:∀ i j,i<m→j<w→M i j=M' i j):Mt K o bx co ds L H m w M' :=
 ⟨h.T,h.oL,h.pos,h.row,h.len,fun i j hi hj => by rw [←hv i j hi hj]; exact h.at_ i j hi hj,h.inj⟩
theorem Mt.grow {X:Hp} (h:Mt K o bx co ds L H m w M):Mt K o bx co ds L (H++X) m w M :=
 ⟨by rw [List.getElem?_append_left (lt_of_getElem? h.T)]; exact h.T,h.oL,h.pos,fun i hi => by rw [List.getElem?_append_left (lt_of_getElem? (h.row i hi))]; exact h.row i hi,h.len,h.at_,h.inj⟩
theorem Mt.other {p:Nat} {s:Slot} (h:Mt K o bx co ds L H m w M) (hp:L≤p):Mt K o bx co ds L (H.set p s) m w M :=
 ⟨by rw [List.getElem?_set_ne (by have:=h.oL; omega)]; exact h.T,h.oL,h.pos,fun i hi => by rw [List.getElem?_set_ne (by have:=h.pos i hi; omega)]; exact h.row i hi,h.len,h.at_,h.inj⟩
theorem splice_otherQ {cells cs:List C} {i j:Nat} (h:j*6+6≤cells.length) (hl:cs.length=6) (hij:i≠j):((splice cells (j*6) cs).drop (i*6)).take 6=(cells.drop (i*6)).take 6:=by
 unfold splice
 apply List.ext_getElem?
 intro n
 simp only [List.getElem?_take,List.getElem?_drop]
 split
 ·rename_i hn
  rcases Nat.lt_or_ge i j with h1 | h1
  ·rw [List.append_assoc,List.getElem?_append_left (by simp; omega),List.getElem?_take,if_pos (by omega)]
  ·rw [List.getElem?_append_right (by simp; omega),List.getElem?_drop]
   congr 1
   simp
   omega
 ·rfl
theorem Mt.put {i j:Nat} {a:Rat} {cs:List C} (h:Mt K o bx co ds L H m w M) (hi:i<m) (hj:j<w) (hc:IQ K cs a) :
  Mt K o bx co (fun i' => if i'=i then splice (ds i) (j*6) cs else ds i') L (H.set (bx i) (.live ⟨splice (ds i) (j*6) cs,yR,.rw⟩)) m w (updQ M i j a):=by
 have hlt:=lt_of_getElem? (h.row i hi)
 have hcl:cs.length=6:=(elQ K).len (show (elQ K).p cs a from hc)
 have hle:j*6+6≤(ds i).length:=by
  rw [h.len i hi]
  omega
 refine ⟨?_,h.oL,h.pos,fun i' hi' => ?_,fun i' hi' => ?_,fun i' j' hi' hj' => ?_,h.inj⟩
 ·rw [List.getElem?_set_ne (h.pos i hi).1]
  exact h.T
 ·by_cases e:i'=i
  ·subst e
   rw [List.getElem?_set_self hlt,if_pos rfl]
  ·rw [List.getElem?_set_ne (fun x => e (h.inj i' i hi' hi x.symm)),if_neg e]
   exact h.row i' hi'
 ·by_cases e:i'=i
  ·subst e
   rw [if_pos rfl,pK (by rw [hcl]; exact hle)]
   exact h.len i' hi'
  ·rw [if_neg e]
   exact h.len i' hi'
 ·unfold updQ
  by_cases e:i'=i
  ·subst e
   rw [if_pos rfl]
   by_cases e2:j'=j
   ·subst e2
    rw [if_pos ⟨rfl,rfl⟩,get_splice (by omega) hcl]
    exact hc
   ·rw [if_neg (fun x => e2 x.2),splice_otherQ hle hcl e2]
    exact h.at_ i' j' hi' hj'
  ·rw [if_neg e,if_neg (fun x => e x.1)]
   exact h.at_ i' j' hi' hj'
def sigQ (r k i:Nat):Nat:=if i=r then k else if i=k then r else i
theorem sigQ_lt {r k i m:Nat} (hr:r<m) (hk:k<m) (hi:i<m):sigQ r k i<m:=by
 unfold sigQ
 split
 ·exact hk
 ·split
  ·exact hr
  ·exact hi
theorem sigQ_inj {r k i l:Nat} (h:sigQ r k i=sigQ r k l):i=l:=by
 unfold sigQ at h
 split at h <;> split at h <;> (try split at h) <;> (try split at h) <;> omega
def gO {α:Type} (f:Nat→α) (r k:Nat):Nat→α:=fun i => if i=r then f k else if i=k then f r else f i
theorem swapQ_sig {α:Type} (f:Nat→α) (r k i:Nat):gO f r k i=f (sigQ r k i):=by
 unfold gO sigQ
 split
 ·rfl
 ·split <;> rfl
theorem Mt.swap {r k:Nat} (h:Mt K o bx co ds L H m w M) (hr:r<m) (hk:k<m) :
  Mt K o (gO bx r k) (gO co r k) (gO ds r k) L (H.set o (.live ⟨splice (splice ((List.range m).map (rowQ bx co w)) r [rowQ bx co w k]) k [rowQ bx co w r],qM,.rw⟩)) m w (uL M r k):=by
 have hlt:=lt_of_getElem? h.T
 have sw:∀ {α:Type} (f:Nat→α) (p:α→Prop) (i:Nat),i<m→(∀ i,i<m→p (f i))→p (gO f r k i):=by
  intro α f p i hi hp
  unfold gO
  split
  ·exact hp k hk
  ·split
   ·exact hp r hr
   ·exact hp i hi
 have hpos:∀ i,i<m→gO bx r k i≠o∧gO bx r k i<L:=fun i hi => sw bx (fun b => b≠o∧b<L) i hi h.pos
 refine ⟨?_,h.oL,hpos,fun i hi => ?_,fun i hi => sw ds (fun d => d.length=w*6) i hi h.len,fun i j hi hj => ?_,fun i l hi hl he => ?_⟩
 ·rw [List.getElem?_set_self hlt]
  congr 3
  have e1:∀ (cells:List C) (i:Nat) (c:C),i<cells.length→splice cells i [c]=cells.set i c:=by
   intro cells i c hi
   unfold splice
   rw [List.set_eq_take_append_cons_drop,if_pos hi]
   simp
  rw [e1 _ r _ (by simp; omega),e1 _ k _ (by simp; omega)]
  apply List.ext_getElem
  ·simp
  ·intro i h1 h2
   simp only [List.getElem_map,List.getElem_range,List.getElem_set]
   unfold rowQ gO
   by_cases e:k=i
   ·subst e
    by_cases e2:k=r
    ·subst e2
     simp
    ·simp [e2]
   ·by_cases e2:r=i
    ·subst e2
     simp [e]
    ·simp [e,e2,Ne.symm e,Ne.symm e2,show ¬ i=r from fun x => e2 x.symm,show ¬ i=k from fun x => e x.symm]
 ·rw [List.getElem?_set_ne (fun x => (hpos i hi).1 x.symm)]
  unfold gO
  split
  ·exact h.row k hk
  ·split
   ·exact h.row r hr
   ·exact h.row i hi
 ·unfold gO uL
  by_cases c1:i=r
  ·rw [if_pos c1,if_pos c1]
   exact h.at_ k j hk hj
  ·rw [if_neg c1,if_neg c1]
   by_cases c2:i=k
   ·rw [if_pos c2,if_pos c2]
    exact h.at_ r j hr hj
   ·rw [if_neg c2,if_neg c2]
    exact h.at_ i j hi hj
 ·rw [swapQ_sig,swapQ_sig] at he
  exact sigQ_inj (h.inj _ _ (sigQ_lt hr hk hi) (sigQ_lt hr hk hl) he)
theorem Mt.ldT {off i:Nat} {Q:V→Prop} (h:Mt K o bx co ds L H m w M) (hi:i<m) (ho:off=i) (k:Q (.c (rowQ bx co w i))):yW H[o]? false 1 off Q:=by
 subst ho
 refine yU h.T ?_ k
 simp [hi]
theorem Mt.ldE {off i j:Nat} {Q:V→Prop} (h:Mt K o bx co ds L H m w M) (hi:i<m) (hj:j<w) (ho:off=j*6) (k:∀ cs,IQ K cs (M i j)→Q (.agg cs)):yW H[bx i]? true 6 off Q:=by
 subst ho
 have hl:=h.len i hi
 refine yM (h.row i hi) (Nat.ble_eq_true_of_le (by simp only; omega)) (k _ (h.at_ i j hi hj))
theorem Mt.st {off i j:Nat} {cs:List C} {a:Rat} {ds':Option (List C)} {Q:Nat→Slot→Prop} (h:Mt K o bx co ds L H m w M) (hi:i<m) (hj:j<w) (ho:off=j*6) (hd:ds'=some cs) (hc:IQ K cs a) (k:Q (bx i) (.live ⟨splice (ds i) (j*6) cs,yR,.rw⟩)):xA H[bx i]? (bx i) 6 off ds' Q:=by
 subst ho
 have hl:=h.len i hi
 have hcl:cs.length=6:=(elQ K).len (show (elQ K).p cs a from hc)
 exact xC (h.row i hi) hd (by rw [hcl]; rfl) (by omega) k
end
theorem piv_uniq {M:Mx} {n k p q:Nat} (h1:pW M n k p) (h2:pW M n k q):p=q:=by
 rcases Nat.lt_trichotomy p q with h | h | h
 ·exact absurd (h2.2.2.2 p h1.1 h) h1.2.2.1
 ·exact h
 ·exact absurd (h1.2.2.2 q h2.1 h) h2.2.2.1
theorem stage_some {M:Mx} {n k p:Nat} (h:pW M n k p):sF n k M=some (qE (uL M k p) k):=by
 unfold sF
 rw [yE.2 ⟨p,h⟩]
 have:=Classical.epsilon_spec (p:=fun p => pW M n k p) ⟨p,h⟩
 rw [piv_uniq this h]
 rfl
theorem stage_none {M:Mx} {n k:Nat} (h:∀ i,k≤i→i<n→M i k=0):sF n k M=none:=by
 unfold sF
 rw [yK.2 (fun ⟨p,h1,h2,h3,_⟩ => h3 (h p h1 h2))]
 rfl
theorem gauss_none {n:Nat} {M:Mx} {k l:Nat} (h:wK n M k=none) (hl:k≤l):wK n M l=none:=by
 induction l with
 | zero =>
  have:k=0:=by omega
  subst this
  exact h
 | succ l ih =>
  rcases Nat.lt_or_ge k (l+1) with h1 | h1
  ·simp only [wK,ih (by omega),Option.bind_none]
  ·have:k=l+1:=by omega
   subst this
   exact h
theorem elim_row {M:Mx} {k j:Nat}:qE M k k j=M k j:=by
 unfold qE
 rw [yE.2 (.inl rfl)]
 rfl
theorem elim_zero {M:Mx} {k i j:Nat} (h:M i k=0):qE M k i j=M i j:=by
 unfold qE
 rw [yE.2 (.inr (.inl h))]
 rfl
theorem elim_left {M:Mx} {k i j:Nat} (h:j<k):qE M k i j=M i j:=by
 unfold qE
 rw [yE.2 (.inr (.inr h))]
 rfl
theorem elim_else {M:Mx} {k i j:Nat} (h1:i≠k) (h2:M i k≠0) (h3:k≤j):qE M k i j=M i j - M i k / M k k*M k j:=by
 unfold qE
 rw [yK.2 (by rintro (h | h | h); exact h1 h; exact h2 h; omega)]
 rfl
def GB (K n:Nat) (M:Mx):Prop:=∀ k R,k≤n→wK n M k=some R→∀ i j,i<n→j≤n→Bd K (rp (R i j))
end Go.Proofs.Ytokckcnfojjpjaa
