/-
  Parts of the proof: Lists of numbers: all valid, as numbers of any size, rising, the same.
-/
import Derived.Test.YtokckcnfojjpjaaGreatNe20
import Derived.Test.YtokckcnfojjpjaaGreatNe21
set_option linter.unusedVariables false
set_option linter.unusedSimpArgs false
namespace Go.Proofs.YtokckcnfojjpjaaGreat
open Go.RowKit
set_option maxRecDepth 20000
theorem go5 {A B:Prop} (k:B) (h:Held B→A:=by
 intro hgo
 repeat (first | (refine g_o ?_; first | (refine o_some ?_; try (first | (refine x_q (by rfl) ?_; try (first | refine q_mv (by rfl) ?_ | refine vL (by rfl) ?_ | (refine sC ?_; try (first | refine sX (by rfl) (by assumption) ?_ | refine vS (by rfl) (by assumption) ?_ | refine vT (by rfl) ?_ | refine wM (by rfl) ?_ | refine wL (by rfl) ?_)) | (refine sE ?_; try (first | refine sY (by rfl) (by rfl) (by assumption) (by omega) (by omega) ?_ | refine vI (by rfl) (by rfl) (by assumption) (by omega) (by omega) ?_ | refine vR (by rfl) (by rfl) (by decide) (by decide) ?_ | refine yK (by rfl) (by rfl) (by decide) (by decide) ?_ | refine vP (by rfl) (by rfl) (by decide) (by decide) ?_ | refine yK (by rfl) (by rfl) (by omega) (by omega) ?_)) | refine q_cm (by rfl) (by rfl) ?_ | refine q_ar (by rfl) (by rfl) (by rfl) ?_ | refine uF (by rfl) ?_ | (refine sI ?_; try (first | refine wX (by rfl) ?_ | refine wY (by rfl) ?_ | refine vU (by rfl) ?_)) | refine sH (by rfl) (by rfl) ?_ | refine vK (by rfl) ?_ | refine vM (by rfl) ?_ | refine tR (by rfl) (by rfl) (by first | decide | omega) ?_ | refine tY (by rfl) (by rfl) (by first | decide | omega) ?_ | refine sJ (by rfl) (by rfl) ?_ | refine sK (by rfl) (by rfl) (by rfl) ?_ | refine sA (by rfl) ?_ | refine tZ (by rfl) ?_ | refine wP (by rfl) (by rfl) ?_ | refine wQ (by rfl) (by rfl) ?_ | refine tX ?_ | refine sD ?_ | refine sG (by rfl) (by rfl) ?_ | refine uE (by rfl) (by rfl) ?_ | refine wS (by rfl) ?_ | refine q_mx (by rfl) (by rfl) ?_ | refine q_mn (by rfl) (by rfl) ?_ | refine sB (by rfl) (by rfl) (by rfl) ?_ | refine sF (by rfl) ?_ | refine uG (by rfl) ?_ | refine uH (by rfl) ?_ | refine wR (by rfl) ?_ | refine vN (by rfl) (by rfl) ?_ | refine vO (by rfl) (by rfl) ?_)) | (refine nU ?_; try (first | (refine sL (by rfl) ?_; try (first | refine xA (by rfl) (by rfl) ?_ | refine yJ (by rfl) (by rfl) ?_ | refine xA (yL _ _) (by rfl) ?_ | refine yJ (yL _ _) (by rfl) ?_)) | (refine sM (by rfl) ?_; try (first | refine uU (by omega) (by omega) ?_ | refine wH (Nat.le_of_ble_eq_true (by rfl)) ?_ | refine yY (by rfl) (by rfl) (by rfl) (by omega) ?_)))) | refine sQ (by rfl) (by rfl) (by rfl) (by rfl) (Nat.le_of_ble_eq_true (by rfl)) ?_ | (refine jI (by rfl) (by rfl) ?_; try (first | refine yY (by rfl) (by rfl) (by rfl) (Nat.le_of_ble_eq_true (by rfl)) ?_ | refine yY (by rfl) (by rfl) (by rfl) (by omega) ?_)) | refine gX (by rfl) (by rfl) ?_ | refine x_box (by rfl) (by rfl) ?_ | refine gI ?_ | refine bM (by rfl) ?_ | refine x_app ?_ | refine nT ?_ | refine gG ?_ | refine gH (by rfl) (by rfl) (by rfl) (by rfl) ?_ | refine pR (by rfl) (by rfl) (by rfl) ?_)) | (refine o_nil ?_; try (first | refine s_n ?_ | refine s_r ?_ | refine s_e ?_ | refine k_n ?_ | refine k_r ?_ | refine k_e (by rfl) ?_ | refine k_o (by rfl) ?_ | refine l_r ?_ | refine l_e ?_ | refine b_r ?_ | refine b_n ?_)) | refine o_guard (by rfl) ?_ | refine o_guardT (by rfl) ?_ | refine o_none ?_ | refine o_guardN (by rfl) ?_) | (refine g_f ?_; first | refine f_seq ?_ | refine f_reg ?_ | (refine f_cond (by rfl) ?_; try (first | refine c_t (by rfl) ?_ | refine c_f (by rfl) ?_)) | refine f_block ?_ | refine f_skip ?_ | refine f_ret ?_ | refine f_exit ?_ | refine f_regD0 ?_ | refine f_regD ?_) | (refine g_s ?_; first | refine s_n ?_ | refine s_r ?_ | refine s_e ?_) | (refine g_d ?_; first | (refine gD (T:=none) (by rfl) (by rfl) ?_; try (first | (refine xd_q (by rfl) ?_; try (first | refine q_mv (by rfl) ?_ | refine vL (by rfl) ?_ | (refine sC ?_; try (first | refine sX (by rfl) (by assumption) ?_ | refine vS (by rfl) (by assumption) ?_ | refine vT (by rfl) ?_ | refine wM (by rfl) ?_ | refine wL (by rfl) ?_)) | (refine sE ?_; try (first | refine sY (by rfl) (by rfl) (by assumption) (by omega) (by omega) ?_ | refine vI (by rfl) (by rfl) (by assumption) (by omega) (by omega) ?_ | refine vR (by rfl) (by rfl) (by decide) (by decide) ?_ | refine yK (by rfl) (by rfl) (by decide) (by decide) ?_ | refine vP (by rfl) (by rfl) (by decide) (by decide) ?_ | refine yK (by rfl) (by rfl) (by omega) (by omega) ?_)) | refine q_cm (by rfl) (by rfl) ?_ | refine q_ar (by rfl) (by rfl) (by rfl) ?_ | refine uF (by rfl) ?_ | (refine sI ?_; try (first | refine wX (by rfl) ?_ | refine wY (by rfl) ?_ | refine vU (by rfl) ?_)) | refine sH (by rfl) (by rfl) ?_ | refine vK (by rfl) ?_ | refine vM (by rfl) ?_ | refine tR (by rfl) (by rfl) (by first | decide | omega) ?_ | refine tY (by rfl) (by rfl) (by first | decide | omega) ?_ | refine sJ (by rfl) (by rfl) ?_ | refine sK (by rfl) (by rfl) (by rfl) ?_ | refine sA (by rfl) ?_ | refine tZ (by rfl) ?_ | refine wP (by rfl) (by rfl) ?_ | refine wQ (by rfl) (by rfl) ?_ | refine tX ?_ | refine sD ?_ | refine sG (by rfl) (by rfl) ?_ | refine uE (by rfl) (by rfl) ?_ | refine wS (by rfl) ?_ | refine q_mx (by rfl) (by rfl) ?_ | refine q_mn (by rfl) (by rfl) ?_ | refine sB (by rfl) (by rfl) (by rfl) ?_ | refine sF (by rfl) ?_ | refine uG (by rfl) ?_ | refine uH (by rfl) ?_ | refine wR (by rfl) ?_ | refine vN (by rfl) (by rfl) ?_ | refine vO (by rfl) (by rfl) ?_)) | (refine qJ ?_; try (first | (refine sL (by rfl) ?_; try (first | refine xA (by rfl) (by rfl) ?_ | refine yJ (by rfl) (by rfl) ?_ | refine xA (yL _ _) (by rfl) ?_ | refine yJ (yL _ _) (by rfl) ?_)) | (refine sM (by rfl) ?_; try (first | refine uU (by omega) (by omega) ?_ | refine wH (Nat.le_of_ble_eq_true (by rfl)) ?_ | refine yY (by rfl) (by rfl) (by rfl) (by omega) ?_)))) | refine vW (by rfl) (by rfl) (by rfl) (by rfl) (Nat.le_of_ble_eq_true (by rfl)) ?_ | (refine tF (by rfl) (by rfl) ?_; try (first | refine yY (by rfl) (by rfl) (by rfl) (Nat.le_of_ble_eq_true (by rfl)) ?_ | refine yY (by rfl) (by rfl) (by rfl) (by omega) ?_)) | refine qK (by rfl) (by rfl) ?_ | refine pY (by rfl) (by rfl) (by rfl) ?_ | refine tG (by rfl) ?_ | refine qL (by rfl) (by rfl) ?_)) | (refine gD (by rfl) (by rfl) ?_; try (first | (refine xd_q (by rfl) ?_; try (first | refine q_mv (by rfl) ?_ | refine vL (by rfl) ?_ | (refine sC ?_; try (first | refine sX (by rfl) (by assumption) ?_ | refine vS (by rfl) (by assumption) ?_ | refine vT (by rfl) ?_ | refine wM (by rfl) ?_ | refine wL (by rfl) ?_)) | (refine sE ?_; try (first | refine sY (by rfl) (by rfl) (by assumption) (by omega) (by omega) ?_ | refine vI (by rfl) (by rfl) (by assumption) (by omega) (by omega) ?_ | refine vR (by rfl) (by rfl) (by decide) (by decide) ?_ | refine yK (by rfl) (by rfl) (by decide) (by decide) ?_ | refine vP (by rfl) (by rfl) (by decide) (by decide) ?_ | refine yK (by rfl) (by rfl) (by omega) (by omega) ?_)) | refine q_cm (by rfl) (by rfl) ?_ | refine q_ar (by rfl) (by rfl) (by rfl) ?_ | refine uF (by rfl) ?_ | (refine sI ?_; try (first | refine wX (by rfl) ?_ | refine wY (by rfl) ?_ | refine vU (by rfl) ?_)) | refine sH (by rfl) (by rfl) ?_ | refine vK (by rfl) ?_ | refine vM (by rfl) ?_ | refine tR (by rfl) (by rfl) (by first | decide | omega) ?_ | refine tY (by rfl) (by rfl) (by first | decide | omega) ?_ | refine sJ (by rfl) (by rfl) ?_ | refine sK (by rfl) (by rfl) (by rfl) ?_ | refine sA (by rfl) ?_ | refine tZ (by rfl) ?_ | refine wP (by rfl) (by rfl) ?_ | refine wQ (by rfl) (by rfl) ?_ | refine tX ?_ | refine sD ?_ | refine sG (by rfl) (by rfl) ?_ | refine uE (by rfl) (by rfl) ?_ | refine wS (by rfl) ?_ | refine q_mx (by rfl) (by rfl) ?_ | refine q_mn (by rfl) (by rfl) ?_ | refine sB (by rfl) (by rfl) (by rfl) ?_ | refine sF (by rfl) ?_ | refine uG (by rfl) ?_ | refine uH (by rfl) ?_ | refine wR (by rfl) ?_ | refine vN (by rfl) (by rfl) ?_ | refine vO (by rfl) (by rfl) ?_)) | (refine qJ ?_; try (first | (refine sL (by rfl) ?_; try (first | refine xA (by rfl) (by rfl) ?_ | refine yJ (by rfl) (by rfl) ?_ | refine xA (yL _ _) (by rfl) ?_ | refine yJ (yL _ _) (by rfl) ?_)) | (refine sM (by rfl) ?_; try (first | refine uU (by omega) (by omega) ?_ | refine wH (Nat.le_of_ble_eq_true (by rfl)) ?_ | refine yY (by rfl) (by rfl) (by rfl) (by omega) ?_)))) | refine vW (by rfl) (by rfl) (by rfl) (by rfl) (Nat.le_of_ble_eq_true (by rfl)) ?_ | (refine tF (by rfl) (by rfl) ?_; try (first | refine yY (by rfl) (by rfl) (by rfl) (Nat.le_of_ble_eq_true (by rfl)) ?_ | refine yY (by rfl) (by rfl) (by rfl) (by omega) ?_)) | refine qK (by rfl) (by rfl) ?_ | refine pY (by rfl) (by rfl) (by rfl) ?_ | refine tG (by rfl) ?_ | refine qL (by rfl) (by rfl) ?_)) | (refine d_nil ?_; try (first | refine s_n ?_ | refine s_r ?_ | refine s_e ?_ | refine k_n ?_ | refine k_r ?_ | refine k_e (by rfl) ?_ | refine k_o (by rfl) ?_ | refine l_r ?_ | refine l_e ?_ | refine b_r ?_ | refine b_n ?_)) | refine d_none (by rfl) (by rfl) ?_ | refine d_guard (by rfl) (by rfl) (by rfl) ?_) | (refine g_x ?_; first | (refine x_q (by rfl) ?_; try (first | refine q_mv (by rfl) ?_ | refine vL (by rfl) ?_ | (refine sC ?_; try (first | refine sX (by rfl) (by assumption) ?_ | refine vS (by rfl) (by assumption) ?_ | refine vT (by rfl) ?_ | refine wM (by rfl) ?_ | refine wL (by rfl) ?_)) | (refine sE ?_; try (first | refine sY (by rfl) (by rfl) (by assumption) (by omega) (by omega) ?_ | refine vI (by rfl) (by rfl) (by assumption) (by omega) (by omega) ?_ | refine vR (by rfl) (by rfl) (by decide) (by decide) ?_ | refine yK (by rfl) (by rfl) (by decide) (by decide) ?_ | refine vP (by rfl) (by rfl) (by decide) (by decide) ?_ | refine yK (by rfl) (by rfl) (by omega) (by omega) ?_)) | refine q_cm (by rfl) (by rfl) ?_ | refine q_ar (by rfl) (by rfl) (by rfl) ?_ | refine uF (by rfl) ?_ | (refine sI ?_; try (first | refine wX (by rfl) ?_ | refine wY (by rfl) ?_ | refine vU (by rfl) ?_)) | refine sH (by rfl) (by rfl) ?_ | refine vK (by rfl) ?_ | refine vM (by rfl) ?_ | refine tR (by rfl) (by rfl) (by first | decide | omega) ?_ | refine tY (by rfl) (by rfl) (by first | decide | omega) ?_ | refine sJ (by rfl) (by rfl) ?_ | refine sK (by rfl) (by rfl) (by rfl) ?_ | refine sA (by rfl) ?_ | refine tZ (by rfl) ?_ | refine wP (by rfl) (by rfl) ?_ | refine wQ (by rfl) (by rfl) ?_ | refine tX ?_ | refine sD ?_ | refine sG (by rfl) (by rfl) ?_ | refine uE (by rfl) (by rfl) ?_ | refine wS (by rfl) ?_ | refine q_mx (by rfl) (by rfl) ?_ | refine q_mn (by rfl) (by rfl) ?_ | refine sB (by rfl) (by rfl) (by rfl) ?_ | refine sF (by rfl) ?_ | refine uG (by rfl) ?_ | refine uH (by rfl) ?_ | refine wR (by rfl) ?_ | refine vN (by rfl) (by rfl) ?_ | refine vO (by rfl) (by rfl) ?_)) | (refine nU ?_; try (first | (refine sL (by rfl) ?_; try (first | refine xA (by rfl) (by rfl) ?_ | refine yJ (by rfl) (by rfl) ?_ | refine xA (yL _ _) (by rfl) ?_ | refine yJ (yL _ _) (by rfl) ?_)) | (refine sM (by rfl) ?_; try (first | refine uU (by omega) (by omega) ?_ | refine wH (Nat.le_of_ble_eq_true (by rfl)) ?_ | refine yY (by rfl) (by rfl) (by rfl) (by omega) ?_)))) | refine sQ (by rfl) (by rfl) (by rfl) (by rfl) (Nat.le_of_ble_eq_true (by rfl)) ?_ | (refine jI (by rfl) (by rfl) ?_; try (first | refine yY (by rfl) (by rfl) (by rfl) (Nat.le_of_ble_eq_true (by rfl)) ?_ | refine yY (by rfl) (by rfl) (by rfl) (by omega) ?_)) | refine gX (by rfl) (by rfl) ?_ | refine x_box (by rfl) (by rfl) ?_ | refine gI ?_ | refine bM (by rfl) ?_ | refine x_app ?_ | refine nT ?_ | refine gG ?_ | refine gH (by rfl) (by rfl) (by rfl) (by rfl) ?_ | refine pR (by rfl) (by rfl) (by rfl) ?_) | (refine g_q ?_; first | refine q_mv (by rfl) ?_ | refine vL (by rfl) ?_ | (refine sC ?_; try (first | refine sX (by rfl) (by assumption) ?_ | refine vS (by rfl) (by assumption) ?_ | refine vT (by rfl) ?_ | refine wM (by rfl) ?_ | refine wL (by rfl) ?_)) | (refine sE ?_; try (first | refine sY (by rfl) (by rfl) (by assumption) (by omega) (by omega) ?_ | refine vI (by rfl) (by rfl) (by assumption) (by omega) (by omega) ?_ | refine vR (by rfl) (by rfl) (by decide) (by decide) ?_ | refine yK (by rfl) (by rfl) (by decide) (by decide) ?_ | refine vP (by rfl) (by rfl) (by decide) (by decide) ?_ | refine yK (by rfl) (by rfl) (by omega) (by omega) ?_)) | refine q_cm (by rfl) (by rfl) ?_ | refine q_ar (by rfl) (by rfl) (by rfl) ?_ | refine uF (by rfl) ?_ | (refine sI ?_; try (first | refine wX (by rfl) ?_ | refine wY (by rfl) ?_ | refine vU (by rfl) ?_)) | refine sH (by rfl) (by rfl) ?_ | refine vK (by rfl) ?_ | refine vM (by rfl) ?_ | refine tR (by rfl) (by rfl) (by first | decide | omega) ?_ | refine tY (by rfl) (by rfl) (by first | decide | omega) ?_ | refine sJ (by rfl) (by rfl) ?_ | refine sK (by rfl) (by rfl) (by rfl) ?_ | refine sA (by rfl) ?_ | refine tZ (by rfl) ?_ | refine wP (by rfl) (by rfl) ?_ | refine wQ (by rfl) (by rfl) ?_ | refine tX ?_ | refine sD ?_ | refine sG (by rfl) (by rfl) ?_ | refine uE (by rfl) (by rfl) ?_ | refine wS (by rfl) ?_ | refine q_mx (by rfl) (by rfl) ?_ | refine q_mn (by rfl) (by rfl) ?_ | refine sB (by rfl) (by rfl) (by rfl) ?_ | refine sF (by rfl) ?_ | refine uG (by rfl) ?_ | refine uH (by rfl) ?_ | refine wR (by rfl) ?_ | refine vN (by rfl) (by rfl) ?_ | refine vO (by rfl) (by rfl) ?_) | (refine g_c ?_; first | refine c_t (by rfl) ?_ | refine c_f (by rfl) ?_) | (refine g_k ?_; first | refine k_n ?_ | refine k_r ?_ | refine k_e (by rfl) ?_ | refine k_o (by rfl) ?_) | (refine g_lo ?_; first | refine l_r ?_ | refine l_e ?_) | (refine g_xd ?_; first | (refine xd_q (by rfl) ?_; try (first | refine q_mv (by rfl) ?_ | refine vL (by rfl) ?_ | (refine sC ?_; try (first | refine sX (by rfl) (by assumption) ?_ | refine vS (by rfl) (by assumption) ?_ | refine vT (by rfl) ?_ | refine wM (by rfl) ?_ | refine wL (by rfl) ?_)) | (refine sE ?_; try (first | refine sY (by rfl) (by rfl) (by assumption) (by omega) (by omega) ?_ | refine vI (by rfl) (by rfl) (by assumption) (by omega) (by omega) ?_ | refine vR (by rfl) (by rfl) (by decide) (by decide) ?_ | refine yK (by rfl) (by rfl) (by decide) (by decide) ?_ | refine vP (by rfl) (by rfl) (by decide) (by decide) ?_ | refine yK (by rfl) (by rfl) (by omega) (by omega) ?_)) | refine q_cm (by rfl) (by rfl) ?_ | refine q_ar (by rfl) (by rfl) (by rfl) ?_ | refine uF (by rfl) ?_ | (refine sI ?_; try (first | refine wX (by rfl) ?_ | refine wY (by rfl) ?_ | refine vU (by rfl) ?_)) | refine sH (by rfl) (by rfl) ?_ | refine vK (by rfl) ?_ | refine vM (by rfl) ?_ | refine tR (by rfl) (by rfl) (by first | decide | omega) ?_ | refine tY (by rfl) (by rfl) (by first | decide | omega) ?_ | refine sJ (by rfl) (by rfl) ?_ | refine sK (by rfl) (by rfl) (by rfl) ?_ | refine sA (by rfl) ?_ | refine tZ (by rfl) ?_ | refine wP (by rfl) (by rfl) ?_ | refine wQ (by rfl) (by rfl) ?_ | refine tX ?_ | refine sD ?_ | refine sG (by rfl) (by rfl) ?_ | refine uE (by rfl) (by rfl) ?_ | refine wS (by rfl) ?_ | refine q_mx (by rfl) (by rfl) ?_ | refine q_mn (by rfl) (by rfl) ?_ | refine sB (by rfl) (by rfl) (by rfl) ?_ | refine sF (by rfl) ?_ | refine uG (by rfl) ?_ | refine uH (by rfl) ?_ | refine wR (by rfl) ?_ | refine vN (by rfl) (by rfl) ?_ | refine vO (by rfl) (by rfl) ?_)) | (refine qJ ?_; try (first | (refine sL (by rfl) ?_; try (first | refine xA (by rfl) (by rfl) ?_ | refine yJ (by rfl) (by rfl) ?_ | refine xA (yL _ _) (by rfl) ?_ | refine yJ (yL _ _) (by rfl) ?_)) | (refine sM (by rfl) ?_; try (first | refine uU (by omega) (by omega) ?_ | refine wH (Nat.le_of_ble_eq_true (by rfl)) ?_ | refine yY (by rfl) (by rfl) (by rfl) (by omega) ?_)))) | refine vW (by rfl) (by rfl) (by rfl) (by rfl) (Nat.le_of_ble_eq_true (by rfl)) ?_ | (refine tF (by rfl) (by rfl) ?_; try (first | refine yY (by rfl) (by rfl) (by rfl) (Nat.le_of_ble_eq_true (by rfl)) ?_ | refine yY (by rfl) (by rfl) (by rfl) (by omega) ?_)) | refine qK (by rfl) (by rfl) ?_ | refine pY (by rfl) (by rfl) (by rfl) ?_ | refine tG (by rfl) ?_ | refine qL (by rfl) (by rfl) ?_) | (refine g_l ?_; first | (refine sL (by rfl) ?_; try (first | refine xA (by rfl) (by rfl) ?_ | refine yJ (by rfl) (by rfl) ?_ | refine xA (yL _ _) (by rfl) ?_ | refine yJ (yL _ _) (by rfl) ?_)) | (refine sM (by rfl) ?_; try (first | refine uU (by omega) (by omega) ?_ | refine wH (Nat.le_of_ble_eq_true (by rfl)) ?_ | refine yY (by rfl) (by rfl) (by rfl) (by omega) ?_))) | (refine g_len ?_; first | refine sX (by rfl) (by assumption) ?_ | refine vS (by rfl) (by assumption) ?_ | refine vT (by rfl) ?_ | refine wM (by rfl) ?_ | refine wL (by rfl) ?_) | (refine g_nil ?_; first | refine wX (by rfl) ?_ | refine wY (by rfl) ?_ | refine vU (by rfl) ?_) | (refine g_iad ?_; first | refine sY (by rfl) (by rfl) (by assumption) (by omega) (by omega) ?_ | refine vI (by rfl) (by rfl) (by assumption) (by omega) (by omega) ?_ | refine vR (by rfl) (by rfl) (by decide) (by decide) ?_ | refine yK (by rfl) (by rfl) (by decide) (by decide) ?_ | refine vP (by rfl) (by rfl) (by decide) (by decide) ?_ | refine yK (by rfl) (by rfl) (by omega) (by omega) ?_) | (refine g_box ?_; first | refine xA (by rfl) (by rfl) ?_ | refine yJ (by rfl) (by rfl) ?_ | refine xA (yL _ _) (by rfl) ?_ | refine yJ (yL _ _) (by rfl) ?_) | (refine g_cells ?_; first | refine uU (by omega) (by omega) ?_ | refine wH (Nat.le_of_ble_eq_true (by rfl)) ?_) | (refine g_st ?_; first | refine yY (by rfl) (by rfl) (by rfl) (Nat.le_of_ble_eq_true (by rfl)) ?_) | (refine g_b ?_; first | refine b_r ?_ | refine b_n ?_) | (refine g_r ?_; first | refine r_tmp (by rfl) ?_ | refine r_cell ?_ | refine r_nil ?_))
 exact hgo.out):A:=h ⟨k⟩
def tT (l:List R2):Prop:=∀ p∈l,wE p.1 p.2
theorem xU {α:Type} {l:List α} {i:Nat} (h:i<l.length):l.take (i+1)=l.take i++[l[i]]:=by
 rw [List.take_succ_eq_append_getElem h]
theorem ne_pair (p q:R2) (X:Bool):(bif true then !(p.1 == q.1 && (p.2 == q.2 && true)) else X)=!(dec (p=q)):=by
 cases h:dec (p=q)
 ·have h':=yG.1 h
  cases h1:p.1 == q.1 && (p.2 == q.2 && true)
  ·rfl
  ·simp at h1
   exact absurd (Prod.ext h1.1 h1.2) h'
 ·have h':=yF.1 h
  subst h'
  simp
section
variable {α:Type} {E:El α}
structure Fill (E:El α) (z:List C) (n:Nat) (cells:List C) (l:List α):Prop where
 out:∃ ds,cells=ds++(List.replicate (n - l.length) z).flatten∧Els E ds l
 le:l.length≤n
 z:z.length=E.s
theorem flat_len (z:List C) (n:Nat):(List.replicate n z).flatten.length=n*z.length:=by simp
theorem Fill.zero {z:List C} {n:Nat} (hz:z.length=E.s):Fill E z n (List.replicate n z).flatten []:=⟨⟨[],by simp,.nil⟩,by simp,hz⟩
theorem Fill.len {z:List C} {n:Nat} {cells:List C} {l:List α} (h:Fill E z n cells l):cells.length=n*E.s:=by
 obtain ⟨ds,rfl,h1⟩:=h.out
 have:=h.le
 rw [List.length_append,h1.len,flat_len,h.z,←Nat.add_mul]
 congr 1
 omega
theorem Fill.put {z:List C} {n:Nat} {cells cs:List C} {l:List α} {a:α} (h:Fill E z n cells l) (hl:l.length<n) (ha:E.p cs a):Fill E z n (splice cells (l.length*E.s) cs) (l++[a]):=by
 obtain ⟨ds,rfl,h1⟩:=h.out
 refine ⟨⟨ds++cs,?_,h1.snoc ha⟩,by simp; omega,h.z⟩
 have e:n - l.length=(n - (l++[a]).length)+1:=by simp; omega
 have hd:=h1.len
 have hcs:=E.len ha
 rw [e,List.replicate_succ,List.flatten_cons]
 unfold splice
 rw [←hd,List.take_left,List.drop_append,List.drop_of_length_le (by omega),Nat.add_sub_cancel_left,List.nil_append,hcs,←h.z,List.drop_left]
theorem Fill.done {z:List C} {n:Nat} {cells:List C} {l:List α} (h:Fill E z n cells l) (hl:l.length=n):Els E cells l:=by
 obtain ⟨ds,rfl,h1⟩:=h.out
 rw [hl,Nat.sub_self]
 simpa using h1
end
theorem map_take' {l:List R2} {i:Nat} (h:i<l.length):(l.take (i+1)).map rt=(l.take i).map rt++[rt l[i]]:=by
 rw [xU h,List.map_append]
 rfl
theorem tT.step {l:List R2} {i:Nat} (h:i<l.length) (h1:tT (l.take i)) (h2:wE l[i].1 l[i].2):tT (l.take (i+1)):=by
 intro p hp
 rw [xU h] at hp
 rcases List.mem_append.1 hp with hp | hp
 ·exact h1 p hp
 ·simp at hp
  subst hp
  exact h2
attribute [local irreducible] yA semH semC qLen qNil qIad qSlc qIdx yW yN xB appX appI slcX awpF yQ xH xopF xN qval lval seqQ xI xY xW xT cnd arith IntKind.wrap
theorem num_In {c:C} {l:List R2} (hc:Ls elP c l) (hv:tT l) (hl:l.length<1073741824):semC Tryz.prog n_num_In [.c c] (LsK (elQ 2) (l.map rt)):=by
 refine yD ok_num_In rfl (show HFVs [.c c] from ⟨hc.hf,trivial⟩) ?_
 refine go5 ?_
 refine vG (by rfl) (by rfl) ⟨by omega,by omega,by omega,by omega⟩ ?_
 refine go5 ?_
 refine yR (fun n vs H => ∃ (i:Nat) (cells:List C) (R:Hp),vs=[.c (.sl 0 0 l.length (some l.length) 6),.c c,i64 l.length,i64 i]∧H=.live ⟨cells,xK,.rw⟩ :: R∧n=l.length - i∧i≤l.length∧Fill (elQ 2) zeroQ l.length cells ((l.take i).map rt)) (by rfl) ⟨0,_,_,rfl,rfl,rfl,by omega,.zero rfl⟩ ?_
 rintro n vs H ⟨i,cells,R,rfl,rfl,rfl,h1,h2⟩
 refine go5 ?_
 cases hq:yA Cm.lss (i:Int) (l.length:Int)
 ·simp [yA] at hq
  have ei:i=l.length:=by omega
  subst ei
  rw [List.take_length] at h2
  have h3:=h2.done (by simp)
  refine go5 ?_
  have h4:=Ls.imm h3
  rw [List.length_map] at h4
  exact ⟨_,.c (.sl (bx:=⟨cells,xK,.rw⟩) (by rfl) (by simp) (by simp) (by
   rw [List.drop_zero,List.take_of_length_le (by rw [h2.len]; exact Nat.le_refl _)]
   exact .hf h3.hf)),_,rfl,h4⟩
 ·simp [yA] at hq
  refine go5 ?_
  refine uA hc hq (by omega) rfl (fun cs hcs => ?_)
  obtain rfl:=hcs
  refine go5 ?_
  refine yB (q_Of (hv _ (xZ hq))) (fun u hu => ?_)
  obtain ⟨ds,rfl,hd⟩:=hu
  obtain ⟨_,_,_,_,_,_,rfl⟩:=id hd.six
  have hlen:cells.length=l.length*6:=h2.len
  have htl:((l.take i).map rt).length=i:=by simp; omega
  refine go5 ?_
  rw [yZ i (by omega)]
  have h3:=h2.put (by omega) hd
  rw [htl,←map_take' hq] at h3
  exact l_n (by rfl) (by omega) ⟨i+1,_,R++[_],rfl,rfl,rfl,by omega,by rw [show 0+((i:Nat):Int).toNat*6=i*6 by omega]; exact h3⟩
theorem num_Q_IsZero {k:Nat} {cs:List C} {q:Rat} (hx:IQ k cs q):semC Tryz.prog n_num_Q_IsZero [.agg cs] (uC (q=0)):=by
 refine yD ok_num_Q_IsZero rfl (show HFVs [.agg cs] from ⟨hx.hf,trivial⟩) ?_
 obtain ⟨a,b,c,d,e,f,rfl,h1,h2⟩:=hx.is.six
 refine go5 ?_
 refine yB (jA h1) (fun u hu => ?_)
 obtain rfl:=hu
 refine go5 ?_
 refine uC.fz ?_
 have:yA Cm.eql (sgn (rp q).1) 0=true↔sgn (rp q).1=0:=by simp [yA]
 rw [this,sgn_zero_iff]
 exact Rat.num_eq_zero
theorem ref01_Q_IsZero {k:Nat} {cs:List C} {q:Rat} (hx:IR k cs q):semC Tryz.prog n_ref01_Q_IsZero [.agg cs] (uC (q=0)):=by
 refine yD ok_ref01_Q_IsZero rfl (show HFVs [.agg cs] from ⟨hx.hf,trivial⟩) ?_
 obtain ⟨a,b,c,d,x,rfl,h1,h2,e⟩:=hx.is.four
 refine go5 ?_
 refine yB (pB h1) (fun u hu => ?_)
 obtain ⟨z,rfl,hz⟩:=hu
 refine go5 ?_
 exact uC.fz (hz.trans Rat.num_eq_zero)
theorem hZ {c:C} {l:List R2} (hc:Ls elP c l) (hv:tT l) (hl:l.length<1073741824):semC Tryz.prog n_ref01_List [.c c] (LsK (elR 2) (l.map rt)):=by
 refine yD ok_ref01_List rfl (show HFVs [.c c] from ⟨hc.hf,trivial⟩) ?_
 refine go5 ?_
 refine yR (fun n vs H => ∃ (i:Nat) (o:C),vs=[.c c,.c o,i64 i]∧n=l.length - i∧i≤l.length∧Out (elR 2) yC 0 H o ((l.take i).map rt)) (by rfl) ⟨0,_,rfl,rfl,by omega,.nil⟩ ?_
 rintro n vs H ⟨i,o,rfl,rfl,h1,h2⟩
 refine go5 ?_
 cases hq:yA Cm.lss (i:Int) (l.length:Int)
 ·simp [yA] at hq
  have ei:i=l.length:=by omega
  subst ei
  rw [List.take_length] at h2
  refine go5 ?_
  exact h2.done
 ·simp [yA] at hq
  refine go5 ?_
  refine uA hc hq (by omega) rfl (fun cs hcs => ?_)
  obtain rfl:=hcs
  refine go5 ?_
  refine yB (r_Of (hv _ (xZ hq))) (fun u hu => ?_)
  obtain ⟨ds,rfl,hd⟩:=hu
  obtain ⟨_,_,_,_,rfl⟩:=id hd.four
  have htl:((l.take i).map rt).length=i:=by simp; omega
  refine go5 ?_
  refine app_one (F:=[]) (R:=H) rfl h2 (by rfl) (by rfl) rfl rfl hd (by rw [htl]; omega) (fun R' o' h3 => ?_)
  rw [←map_take' hq] at h3
  refine go5 ?_
  rw [yZ i (by omega)]
  exact l_n (by rfl) (by omega) ⟨i+1,o',rfl,rfl,by omega,h3⟩
end Go.Proofs.YtokckcnfojjpjaaGreat

namespace Go.Proofs.YtokckcnfojjpjaaGreat
open Go.RowKit
set_option maxRecDepth 20000
section
variable {α:Type} {E:El α}
theorem Out.le {el:TypeId} {m m':Nat} {H:Hp} {c:C} {l:List α} (h:Out E el m H c l) (hm:m'≤m):Out E el m' H c l:=by
 cases h with
 | nil => exact .nil
 | sl h1 hb hn hc h => exact .sl (by omega) hb hn hc h
end
def delayL (size:Nat) (first:R2) (l:List R2):List R2:=(List.replicate size first++l).take l.length
noncomputable def delayR (size:Int) (first:R2) (l:List R2):List R2 × Int :=
 bif dec (size<0∨64<size) then ([],1) else bif dec (64<l.length) then ([],3) else bif dec (wE first.1 first.2∧tT l) then (delayL size.toNat first l,0) else ([],1)
def DelK (size:Int) (first:R2) (l:List R2) (u:V):Prop:=∃ c,u=.tup [.c c,i64 (delayR size first l).2]∧Ls elP c (delayR size first l).1
theorem DelK.ok {size:Int} {first:R2} {l m:List R2} {H:Hp} {c:C} {el:TypeId} (h:delayR size first l=(m,0)) (ho:Out elP el 0 H c m):∃ d,FzV H (.tup [.c c,i64 0]) d∧DelK size first l d:=by
 obtain ⟨d,h1,h2⟩:=ho.fz (p:=(·≠.bor)) (by simp)
 exact ⟨_,.tup (.cons (.c h1) (.cons (.c (.hf trivial)) .nil)),d,by rw [h]; rfl,by rw [h]; exact h2⟩
attribute [local irreducible] yA semH semC qLen qNil qIad qSlc qIdx yW yN xB appX appI slcX awpF yQ xH xopF xN qval lval seqQ xI xY xW xT cnd arith IntKind.wrap
end Go.Proofs.YtokckcnfojjpjaaGreat

namespace Go.Proofs.YtokckcnfojjpjaaGreat
open Go.RowKit
set_option maxRecDepth 20000
def ev:List Rat→Rat→Rat
 | [],_ => 0
 | a :: l,x => a+x*ev l x
theorem ev_append:∀ (l m:List Rat) (x:Rat),ev (l++m) x=ev l x+x ^ l.length*ev m x
 | [],m,x => by
  simp only [List.nil_append,List.length_nil,ev,Rat.pow_zero]
  grind
 | a :: l,m,x => by
  simp only [List.cons_append,List.length_cons,ev,ev_append l m x,Rat.pow_succ]
  grind
theorem ev_one (a x:Rat):ev [a] x=a:=by
 simp only [ev]
 grind
theorem ev_take {l:List Rat} {i:Nat} (h:i<l.length) (x:Rat):ev (l.take (i+1)) x=ev (l.take i) x+x ^ i*l[i]:=by
 rw [xU h,ev_append,ev_one,List.length_take,Nat.min_eq_left (by omega)]
theorem ev_set:∀ {l:List Rat} {i:Nat} (h:i<l.length) (b x:Rat),ev (l.set i b) x=ev l x+x ^ i*(b - l[i])
 | a :: l,0,h,b,x => by
  simp only [List.set_cons_zero,ev,List.getElem_cons_zero,Rat.pow_zero]
  grind
 | a :: l,i+1,h,b,x => by
  have h':i<l.length:=Nat.lt_of_succ_lt_succ h
  simp only [List.set_cons_succ,ev,List.getElem_cons_succ,ev_set h' b x,Rat.pow_succ]
  grind
def Top (l:List Rat):Prop:=∀ h:0<l.length,l[l.length - 1]≠0
def PolyK (E:El Rat) (R:List Rat→Prop) (u:V):Prop:=∃ c m,u=.c c∧Ls E c m∧R m
theorem PolyK.fz {E:El Rat} {R:List Rat→Prop} {m:List Rat} {c:C} {H:Hp} (h:Ls E c m) (r:R m):∃ d,FzV H (.c c) d∧PolyK E R d:=⟨_,.c (.hf h.hf),c,m,rfl,h,r⟩
theorem Sz.mulT {k m:Nat} {a b:Int} (h1:Sz k a) (h2:Sz m b):Sz (k+m) (a*b):=by
 unfold Sz at *
 rw [Int.natAbs_mul,Nat.pow_add]
 exact Nat.mul_lt_mul'' h1 h2
theorem Sz.add2 {k m:Nat} {a b:Int} (h1:Sz k a) (h2:Sz k b) (hm:k+1≤m):Sz m (a+b):=(h1.add h2).up hm
attribute [local irreducible] yA semH semC qLen qNil qIad qSlc qIdx yW yN xB appX appI slcX awpF yQ xH xopF xN qval lval seqQ xI xY xW xT cnd arith IntKind.wrap
theorem bC {k m:Nat} {cs ds:List C} {a b:Rat} (hx:IQ k cs a) (hy:IQ m ds b) (hk:k+m+1≤134217728):semC Tryz.prog n_num_Q_Add [.agg cs,.agg ds] (QV (k+m+1) (a+b)):=by
 have s1:Sz (k+m+1) _:=(hx.bd.n.mulT hy.bd.d).add2 ((hy.bd.n.mulT hx.bd.d).up (show m+k≤k+m by omega)) (Nat.le_refl _)
 have s2:Sz (k+m+1) _:=(hx.bd.d.mulT hy.bd.d).up (by omega)
 have hx':=hx.up (show k≤k+m by omega)
 have hy':=hy.up (show m≤k+m by omega)
 exact vH (fun u hu => hu.rat (dd_ne a b) (rat_add a b) s1 s2) (num_Q_Add (Sz.cl (by omega)) (quoOk (by omega)) hx.is hy.is hx'.bd hy'.bd (by omega) s1 s2)
theorem q_Sub2 {k m:Nat} {cs ds:List C} {a b:Rat} (hx:IQ k cs a) (hy:IQ m ds b) (hk:k+m+1≤134217728):semC Tryz.prog n_num_Q_Sub [.agg cs,.agg ds] (QV (k+m+1) (a - b)):=by
 have s1:Sz (k+m+1) _:=(hx.bd.n.mulT hy.bd.d).add2 ((hy.bd.n.neg.mulT hx.bd.d).up (show m+k≤k+m by omega)) (Nat.le_refl _)
 have s2:Sz (k+m+1) _:=(hx.bd.d.mulT hy.bd.d).up (by omega)
 have hx':=hx.up (show k≤k+m by omega)
 have hy':=hy.up (show m≤k+m by omega)
 exact vH (fun u hu => hu.rat (dd_ne a b) (rat_sub a b) s1 s2) (num_Q_Sub (Sz.cl (by omega)) (quoOk (by omega)) hx.is hy.is hx'.bd hy'.bd (by omega) s1 s2)
theorem jN {k m:Nat} {cs ds:List C} {a b:Rat} (hx:IQ k cs a) (hy:IQ m ds b) (hk:k+m≤134217728):semC Tryz.prog n_num_Q_Mul [.agg cs,.agg ds] (QV (k+m) (a*b)):=by
 have hx':=hx.up (show k≤k+m by omega)
 have hy':=hy.up (show m≤k+m by omega)
 exact vH (fun u hu => hu.rat (dd_ne a b) (rat_mul a b) (hx.bd.n.mulT hy.bd.n) (hx.bd.d.mulT hy.bd.d)) (num_Q_Mul (Sz.cl (show k+m≤268435456 by omega)) (quoOk (by omega)) hx.is hy.is hx'.bd hy'.bd (by omega) (hx.bd.n.mulT hy.bd.n) (hx.bd.d.mulT hy.bd.d))
theorem q_Div2 {k m:Nat} {cs ds:List C} {a b:Rat} (hx:IQ k cs a) (hy:IQ m ds b) (hk:k+m≤134217728) (h0:b≠0):semC Tryz.prog n_num_Q_Div [.agg cs,.agg ds] (QV (k+m) (a / b)):=by
 have s1:=hx.bd.n.mulT hy.bd.d
 have s2:=hx.bd.d.mulT hy.bd.n
 have hx':=hx.up (show k≤k+m by omega)
 have hy':=hy.up (show m≤k+m by omega)
 exact vH (fun u hu => hu.rat (Int.mul_ne_zero (Int.ne_of_gt (bW a)) (num_ne h0)) (rat_div a b h0) s1 s2) (num_Q_Div (Sz.cl (show k+m≤268435456 by omega)) (quoOk (by omega)) hx.is hy.is hx'.bd hy'.bd (by omega) (num_ne h0) s1 s2)
theorem q_Cmp2 {k m:Nat} {cs ds:List C} {a b:Rat} (hx:IQ k cs a) (hy:IQ m ds b) (hk:k+m≤268435456):semC Tryz.prog n_num_Q_Cmp [.agg cs,.agg ds] (IntK (cq a b)):=q_Cmp (hx.up (show k≤k+m by omega)) (hy.up (show m≤k+m by omega)) hk
theorem tE {k m:Nat} {cs ds:List C} {a b:Rat} (hx:IR k cs a) (hy:IR m ds b) (hk:k+m+1≤134217728):semC Tryz.prog n_ref01_Q_Add [.agg cs,.agg ds] (RQV (k+m+1) (a+b)):=by
 have s1:Sz (k+m+1) _:=(hx.bd.n.mulT hy.bd.d).add2 ((hy.bd.n.mulT hx.bd.d).up (show m+k≤k+m by omega)) (Nat.le_refl _)
 have s2:Sz (k+m+1) _:=(hx.bd.d.mulT hy.bd.d).up (by omega)
 have hx':=hx.up (show k≤k+m by omega)
 have hy':=hy.up (show m≤k+m by omega)
 exact vH (fun u hu => hu.rat (dd_ne a b) (rat_add a b) s1 s2) (ref01_Q_Add hx.is hy.is hx'.bd hy'.bd (by omega))
theorem r_Sub2 {k m:Nat} {cs ds:List C} {a b:Rat} (hx:IR k cs a) (hy:IR m ds b) (hk:k+m+1≤134217728):semC Tryz.prog n_ref01_Q_Sub [.agg cs,.agg ds] (RQV (k+m+1) (a - b)):=by
 have s1:Sz (k+m+1) _:=(hx.bd.n.mulT hy.bd.d).add2 ((hy.bd.n.neg.mulT hx.bd.d).up (show m+k≤k+m by omega)) (Nat.le_refl _)
 have s2:Sz (k+m+1) _:=(hx.bd.d.mulT hy.bd.d).up (by omega)
 have hx':=hx.up (show k≤k+m by omega)
 have hy':=hy.up (show m≤k+m by omega)
 exact vH (fun u hu => hu.rat (dd_ne a b) (rat_sub a b) s1 s2) (ref01_Q_Sub hx.is hy.is hx'.bd hy'.bd (by omega))
theorem qH {k m:Nat} {cs ds:List C} {a b:Rat} (hx:IR k cs a) (hy:IR m ds b) (hk:k+m≤134217727):semC Tryz.prog n_ref01_Q_Mul [.agg cs,.agg ds] (RQV (k+m) (a*b)):=by
 have hx':=hx.up (show k≤k+m by omega)
 have hy':=hy.up (show m≤k+m by omega)
 exact vH (fun u hu => hu.rat (dd_ne a b) (rat_mul a b) (hx.bd.n.mulT hy.bd.n) (hx.bd.d.mulT hy.bd.d)) (ref01_Q_Mul hx.is hy.is hx'.bd hy'.bd (by omega))
theorem r_Div2 {k m:Nat} {cs ds:List C} {a b:Rat} (hx:IR k cs a) (hy:IR m ds b) (hk:k+m≤134217727) (h0:b≠0):semC Tryz.prog n_ref01_Q_Div [.agg cs,.agg ds] (RQV (k+m) (a / b)):=by
 have s1:=hx.bd.n.mulT hy.bd.d
 have s2:=hx.bd.d.mulT hy.bd.n
 have hx':=hx.up (show k≤k+m by omega)
 have hy':=hy.up (show m≤k+m by omega)
 exact vH (fun u hu => hu.rat (Int.mul_ne_zero (Int.ne_of_gt (bW a)) (num_ne h0)) (rat_div a b h0) s1 s2) (ref01_Q_Div hx.is hy.is hx'.bd hy'.bd (by omega) (num_ne h0))
theorem r_Cmp2 {k m:Nat} {cs ds:List C} {a b:Rat} (hx:IR k cs a) (hy:IR m ds b) (hk:k+m≤268435456):semC Tryz.prog n_ref01_Q_Cmp [.agg cs,.agg ds] (IntK (cq a b)):=r_Cmp (hx.up (show k≤k+m by omega)) (hy.up (show m≤k+m by omega)) hk
end Go.Proofs.YtokckcnfojjpjaaGreat

namespace Go.Proofs.YtokckcnfojjpjaaGreat
open Go.RowKit
set_option maxRecDepth 20000
section
variable {α:Type} {E:El α}
end
theorem nB {cells cs:List C} {off n:Nat} (h:off≤cells.length) (hn:cs.length=n):((splice cells off cs).drop off).take n=cs:=by
 subst hn
 unfold splice
 rw [List.append_assoc,List.drop_append,List.drop_of_length_le (by simp; omega),List.nil_append,List.length_take,Nat.min_eq_left h,Nat.sub_self,List.drop_zero,List.take_left]
theorem mR {cells cs ds:List C} {off:Nat} (h:off≤cells.length) (hl:cs.length=ds.length):splice (splice cells off cs) off ds=splice cells off ds:=by
 unfold splice
 have e1:(cells.take off++cs++cells.drop (off+cs.length)).take off=cells.take off:=by
  rw [List.append_assoc,List.take_left' (by simp; omega)]
 have e2:(cells.take off++cs++cells.drop (off+cs.length)).drop (off+ds.length)=cells.drop (off+ds.length):=by
  rw [←hl]
  have:(cells.take off++cs).length=off+cs.length:=by simp; omega
  rw [List.drop_left' this]
 rw [e1,e2]
theorem sW {cells cs:List C} {off:Nat} (h:off+cs.length≤cells.length):(splice cells off cs).length=cells.length:=by
 unfold splice
 simp
 omega
structure IsProd (p q m:List Rat):Prop where
 ev:∀ x,ev m x=ev p x*ev q x
 len:m.length≤p.length+q.length - 1
 nil:p=[]∨q=[]→m=[]
 top:Top m
theorem IsProd.none {p q:List Rat} (h:p=[]∨q=[]):IsProd p q []:=by
 refine ⟨fun x => ?_,by simp,fun _ => rfl,fun h => absurd h (by simp)⟩
 rcases h with rfl | rfl <;> simp only [Go.Proofs.YtokckcnfojjpjaaGreat.ev] <;> grind
theorem pow_add' (x:Rat) (i:Nat):∀ j,x ^ (i+j)=x ^ i*x ^ j
 | 0 => by rw [Nat.add_zero,Rat.pow_zero]; grind
 | j+1 => by
  rw [←Nat.add_assoc,Rat.pow_succ,Rat.pow_succ,pow_add' x i j]
  grind
theorem getD_lt {l:List Rat} {i:Nat} (h:i<l.length):l.getD i 0=l[i]:=by simp [h]
structure Row (p q:List Rat) (i k:Nat) (L:List Rat):Prop where
 ev:∀ x,ev L x=ev (p.take i) x*ev q x+x ^ i*(p.getD i 0*ev (q.take k) x)
theorem Row.step {p q L:List Rat} {i k:Nat} (h:Row p q i k L) (hi:i<p.length) (hk:k<q.length) (hL:i+k<L.length):Row p q i (k+1) (L.set (i+k) (L[i+k]+p[i]*q[k])):=⟨fun x => by
 rw [ev_set hL,h.ev x,ev_take hk,pow_add',getD_lt hi]
 grind⟩
theorem Row.next {p q L:List Rat} {i:Nat} (h:Row p q i q.length L) (hi:i<p.length):Row p q (i+1) 0 L:=⟨fun x => by
 rw [h.ev x,ev_take hi,List.take_length,List.take_zero,getD_lt hi]
 simp only [Go.Proofs.YtokckcnfojjpjaaGreat.ev]
 grind⟩
theorem Row.done {p q L:List Rat} (h:Row p q p.length 0 L) (x:Rat):Go.Proofs.YtokckcnfojjpjaaGreat.ev L x=Go.Proofs.YtokckcnfojjpjaaGreat.ev p x*Go.Proofs.YtokckcnfojjpjaaGreat.ev q x:=by
 rw [h.ev x,List.take_length,List.take_zero]
 simp only [Go.Proofs.YtokckcnfojjpjaaGreat.ev]
 grind
theorem Els.up {k m:Nat} {ds:List C} {l:List Rat} (h:Els (elQ k) ds l) (hk:k≤m):Els (elQ m) ds l:=h.mono (fun _ _ h => IQ.up h hk)
theorem Ls.up {k m:Nat} {c:C} {l:List Rat} (h:Ls (elQ k) c l) (hk:k≤m):Ls (elQ m) c l:=h.mono (fun _ _ h => IQ.up h hk)
theorem Els.up' {k m:Nat} {ds:List C} {l:List Rat} (h:Els (elR k) ds l) (hk:k≤m):Els (elR m) ds l:=h.mono (fun _ _ h => IR.up h hk)
theorem Ls.up' {k m:Nat} {c:C} {l:List Rat} (h:Ls (elR k) c l) (hk:k≤m):Ls (elR m) c l:=h.mono (fun _ _ h => IR.up h hk)
attribute [local irreducible] yA semH semC qLen qNil qIad qSlc qIdx yW yN xB appX appI slcX awpF yQ xH xopF xN qval lval seqQ xI xY xW xT cnd arith IntKind.wrap
end Go.Proofs.YtokckcnfojjpjaaGreat

namespace Go.Proofs.YtokckcnfojjpjaaGreat
open Go.RowKit
set_option maxRecDepth 20000
section
variable {α:Type} {E:El α}
theorem Out.grow {el:TypeId} {m:Nat} {H X:Hp} {c:C} {l:List α} (h:Out E el m H c l):Out E el m (H++X) c l:=by
 cases h with
 | nil => exact .nil
 | sl hm hb hn hc h => exact .sl hm (by rw [List.getElem?_append_left (lt_of_getElem? hb)]; exact hb) hn hc h
theorem app_imm {F R:Hp} {el:TypeId} {es bytes:Nat} {s x:Option V} {K:V→Hp→Prop} {c:C} {out:List α} {cs:List C} {a:α} {H:Hp} (hH:H=F++R) (ho:Out E el F.length (F++R) c out) (hs:s=some (.c c)) (hx:x=some (.c (.imm 1 cs))) (he:E.s=es) (ha:E.p cs a) (hl:(out.length+1)*bytes≤140737488355328∧out.length+1≤140737488355328)
  (k:∀ R' c',Out E el F.length (F++R') c' (out++[a])→K (.c c') (F++R')):appX H el es bytes s x K:=by
 subst hH hs hx he
 have hlen:=E.len ha
 have hxs:tJ (F++R) E.s (.imm 1 cs)=some cs:=by
  simp only [tJ]
  rw [Nat.one_mul,List.take_of_length_le (Nat.le_of_eq hlen)]
 cases ho with
 | nil =>
  simp only [appX,hxs,slLen]
  refine xL (by simp [hlen]) (jH rfl (xL ?_ ?_))
  ·simp only [List.length_nil,Nat.zero_add] at hl
   simp only [Bool.and_eq_true,yF]
   exact hl
  ·have:=k (R++[.live ⟨cs,el,.rw⟩]) (.sl (F++R).length 0 1 none E.s) (.sl (cells:=cs) (ds:=cs) (by simp) (by rw [←List.append_assoc]; exact yL _ _) rfl (by simp only [List.nil_append,List.length_cons,List.length_nil,Nat.zero_add,Nat.one_mul,List.take_of_length_le (Nat.le_of_eq hlen)]) (.one ha))
   rw [←List.append_assoc] at this
   exact this
 | @sl b n co' cells ds l hm hb hn hc h =>
  subst hn
  have hdl:(cells.take (out.length*E.s)).length=out.length*E.s:=by rw [hc]; exact h.len
  have hle:out.length*E.s≤cells.length:=by
   rw [List.length_take] at hdl
   omega
  have hlt:=lt_of_getElem? hb
  refine app_sl (cs:=cells) (xs:=cs) (m:=1) rfl rfl hxs rfl (by rw [hlen,Nat.one_mul]) hb hle hl.1 hl.2 ?_
  have e:(F++R).set b .dead=F++R.set (b - F.length) .dead:=List.set_append_right _ _ hm
  have e':(F++R).length=(F++R.set (b - F.length) .dead).length:=by simp
  rw [e,e',List.append_assoc]
  refine k _ _ (.sl (cells:=cells.take (out.length*E.s)++cs) (ds:=ds++cs) (by simp) (by rw [←List.append_assoc]; exact yL _ _) (by simp) ?_ (h.snoc ha))
  rw [hc]
  exact List.take_of_length_le (by rw [List.length_append,h.len,hlen]; simp [Nat.add_mul])
end
attribute [local irreducible] yA semH semC qLen qNil qIad qSlc qIdx yW yN xB appX appI slcX awpF yQ xH xopF xN qval lval seqQ xI xY xW xT cnd arith IntKind.wrap
end Go.Proofs.YtokckcnfojjpjaaGreat

namespace Go.Proofs.YtokckcnfojjpjaaGreat
open Go.RowKit
set_option maxRecDepth 20000
theorem vB (R S:Hp) (a b:Slot):((R++a :: S)++[b])[R.length]?=some a:=by simp
theorem vA (R S:Hp) (a:Slot):(R++a :: S)[R.length]?=some a:=by simp
theorem bL {P:Program} {e:Env} {H:Hp} {K:V→Hp→Prop} {el:TypeId} {zero:List C} (k:K (.c (.ptr H.length 0)) (H++[.live ⟨zero,el,.rw⟩])):xN P e (H++List.replicate (0+1) .unb) H.length (.alloc el zero) K:=by
 have e1:H++List.replicate (0+1) .unb=H++[.unb]:=rfl
 rw [e1]
 refine tG (yL _ _) ?_
 rw [wN]
 exact k
theorem go13 {A B:Prop} (k:B) (h:Held B→A:=by
 intro hgo
 repeat (first | (refine g_o ?_; first | (refine o_some ?_; try (first | (refine x_q (by rfl) ?_; try (first | refine q_mv (by rfl) ?_ | refine vL (by rfl) ?_ | (refine sC ?_; try (first | refine sX (by rfl) (by assumption) ?_ | refine vS (by rfl) (by assumption) ?_ | refine vT (by rfl) ?_ | refine wM (by rfl) ?_ | refine wL (by rfl) ?_)) | (refine sE ?_; try (first | refine sY (by rfl) (by rfl) (by assumption) (by omega) (by omega) ?_ | refine vI (by rfl) (by rfl) (by assumption) (by omega) (by omega) ?_ | refine vR (by rfl) (by rfl) (by decide) (by decide) ?_ | refine yK (by rfl) (by rfl) (by decide) (by decide) ?_ | refine vP (by rfl) (by rfl) (by decide) (by decide) ?_ | refine yK (by rfl) (by rfl) (by omega) (by omega) ?_)) | refine q_cm (by rfl) (by rfl) ?_ | refine q_ar (by rfl) (by rfl) (by rfl) ?_ | refine uF (by rfl) ?_ | (refine sI ?_; try (first | refine wX (by rfl) ?_ | refine wY (by rfl) ?_ | refine vU (by rfl) ?_)) | refine sH (by rfl) (by rfl) ?_ | refine vK (by rfl) ?_ | refine vM (by rfl) ?_ | refine tR (by rfl) (by rfl) (by first | decide | omega) ?_ | refine tY (by rfl) (by rfl) (by first | decide | omega) ?_ | refine sJ (by rfl) (by rfl) ?_ | refine sK (by rfl) (by rfl) (by rfl) ?_ | refine sA (by rfl) ?_ | refine tZ (by rfl) ?_ | refine wP (by rfl) (by rfl) ?_ | refine wQ (by rfl) (by rfl) ?_ | refine tX ?_ | refine sD ?_ | refine sG (by rfl) (by rfl) ?_ | refine uE (by rfl) (by rfl) ?_ | refine wS (by rfl) ?_ | refine q_mx (by rfl) (by rfl) ?_ | refine q_mn (by rfl) (by rfl) ?_ | refine sB (by rfl) (by rfl) (by rfl) ?_ | refine sF (by rfl) ?_ | refine uG (by rfl) ?_ | refine uH (by rfl) ?_ | refine wR (by rfl) ?_ | refine vN (by rfl) (by rfl) ?_ | refine vO (by rfl) (by rfl) ?_)) | (refine nU ?_; try (first | (refine sL (by rfl) ?_; try (first | refine xA (by rfl) (by rfl) ?_ | refine yJ (by rfl) (by rfl) ?_ | refine xA (yL _ _) (by rfl) ?_ | refine yJ (yL _ _) (by rfl) ?_ | refine xA (vB _ _ _ _) (by rfl) ?_ | refine yJ (vB _ _ _ _) (by rfl) ?_ | refine xA (vA _ _ _) (by rfl) ?_ | refine yJ (vA _ _ _) (by rfl) ?_)) | (refine sM (by rfl) ?_; try (first | refine qW (by assumption) (by omega) (by omega) (fun _ _ => ?_) | refine uU (by omega) (by omega) ?_ | refine wH (Nat.le_of_ble_eq_true (by rfl)) ?_ | refine yY (by rfl) (by rfl) (by rfl) (by omega) ?_)))) | refine sQ (by rfl) (by rfl) (by rfl) (by rfl) (Nat.le_of_ble_eq_true (by rfl)) ?_ | (refine jI (by rfl) (by rfl) ?_; try (first | refine yY (by rfl) (by rfl) (by rfl) (Nat.le_of_ble_eq_true (by rfl)) ?_ | refine yY (by rfl) (by rfl) (by rfl) (by omega) ?_)) | refine gX (by rfl) (by rfl) ?_ | refine x_box (by rfl) (by rfl) ?_ | refine gI ?_ | refine x_frzSl (by rfl) ?_ | refine x_app ?_ | refine nT ?_ | refine gG ?_ | refine gH (by rfl) (by rfl) (by rfl) (by rfl) ?_ | refine pR (by rfl) (by rfl) (by rfl) ?_)) | (refine o_nil ?_; try (first | refine s_n ?_ | refine s_r ?_ | refine s_e ?_ | refine k_n ?_ | refine k_r ?_ | refine k_e (by rfl) ?_ | refine k_o (by rfl) ?_ | refine l_r ?_ | refine l_e ?_ | refine b_r ?_ | refine b_n ?_)) | refine o_guard (by rfl) ?_ | refine o_guardT (by rfl) ?_ | refine o_none ?_ | refine o_guardN (by rfl) ?_) | (refine g_f ?_; first | refine f_seq ?_ | refine f_reg ?_ | (refine f_cond (by rfl) ?_; try (first | refine c_t (by rfl) ?_ | refine c_f (by rfl) ?_)) | refine f_block ?_ | refine f_skip ?_ | refine f_ret ?_ | refine f_exit ?_ | refine f_regD0 ?_ | refine f_regD ?_) | (refine g_s ?_; first | refine s_n ?_ | refine s_r ?_ | refine s_e ?_) | (refine g_d ?_; first | refine d_late (T:=none) (by rfl) (by rfl) (by rfl) (by rfl) ?_ | (refine gD (T:=none) (by rfl) (by rfl) ?_; try (first | (refine xd_q (by rfl) ?_; try (first | refine q_mv (by rfl) ?_ | refine vL (by rfl) ?_ | (refine sC ?_; try (first | refine sX (by rfl) (by assumption) ?_ | refine vS (by rfl) (by assumption) ?_ | refine vT (by rfl) ?_ | refine wM (by rfl) ?_ | refine wL (by rfl) ?_)) | (refine sE ?_; try (first | refine sY (by rfl) (by rfl) (by assumption) (by omega) (by omega) ?_ | refine vI (by rfl) (by rfl) (by assumption) (by omega) (by omega) ?_ | refine vR (by rfl) (by rfl) (by decide) (by decide) ?_ | refine yK (by rfl) (by rfl) (by decide) (by decide) ?_ | refine vP (by rfl) (by rfl) (by decide) (by decide) ?_ | refine yK (by rfl) (by rfl) (by omega) (by omega) ?_)) | refine q_cm (by rfl) (by rfl) ?_ | refine q_ar (by rfl) (by rfl) (by rfl) ?_ | refine uF (by rfl) ?_ | (refine sI ?_; try (first | refine wX (by rfl) ?_ | refine wY (by rfl) ?_ | refine vU (by rfl) ?_)) | refine sH (by rfl) (by rfl) ?_ | refine vK (by rfl) ?_ | refine vM (by rfl) ?_ | refine tR (by rfl) (by rfl) (by first | decide | omega) ?_ | refine tY (by rfl) (by rfl) (by first | decide | omega) ?_ | refine sJ (by rfl) (by rfl) ?_ | refine sK (by rfl) (by rfl) (by rfl) ?_ | refine sA (by rfl) ?_ | refine tZ (by rfl) ?_ | refine wP (by rfl) (by rfl) ?_ | refine wQ (by rfl) (by rfl) ?_ | refine tX ?_ | refine sD ?_ | refine sG (by rfl) (by rfl) ?_ | refine uE (by rfl) (by rfl) ?_ | refine wS (by rfl) ?_ | refine q_mx (by rfl) (by rfl) ?_ | refine q_mn (by rfl) (by rfl) ?_ | refine sB (by rfl) (by rfl) (by rfl) ?_ | refine sF (by rfl) ?_ | refine uG (by rfl) ?_ | refine uH (by rfl) ?_ | refine wR (by rfl) ?_ | refine vN (by rfl) (by rfl) ?_ | refine vO (by rfl) (by rfl) ?_)) | (refine qJ ?_; try (first | (refine sL (by rfl) ?_; try (first | refine xA (by rfl) (by rfl) ?_ | refine yJ (by rfl) (by rfl) ?_ | refine xA (yL _ _) (by rfl) ?_ | refine yJ (yL _ _) (by rfl) ?_ | refine xA (vB _ _ _ _) (by rfl) ?_ | refine yJ (vB _ _ _ _) (by rfl) ?_ | refine xA (vA _ _ _) (by rfl) ?_ | refine yJ (vA _ _ _) (by rfl) ?_)) | (refine sM (by rfl) ?_; try (first | refine qW (by assumption) (by omega) (by omega) (fun _ _ => ?_) | refine uU (by omega) (by omega) ?_ | refine wH (Nat.le_of_ble_eq_true (by rfl)) ?_ | refine yY (by rfl) (by rfl) (by rfl) (by omega) ?_)))) | refine vW (by rfl) (by rfl) (by rfl) (by rfl) (Nat.le_of_ble_eq_true (by rfl)) ?_ | (refine tF (by rfl) (by rfl) ?_; try (first | refine yY (by rfl) (by rfl) (by rfl) (Nat.le_of_ble_eq_true (by rfl)) ?_ | refine yY (by rfl) (by rfl) (by rfl) (by omega) ?_)) | refine qK (by rfl) (by rfl) ?_ | refine pY (by rfl) (by rfl) (by rfl) ?_ | refine bL ?_ | refine tG (by rfl) ?_ | refine nZ (by rfl) ?_)) | (refine gD (by rfl) (by rfl) ?_; try (first | (refine xd_q (by rfl) ?_; try (first | refine q_mv (by rfl) ?_ | refine vL (by rfl) ?_ | (refine sC ?_; try (first | refine sX (by rfl) (by assumption) ?_ | refine vS (by rfl) (by assumption) ?_ | refine vT (by rfl) ?_ | refine wM (by rfl) ?_ | refine wL (by rfl) ?_)) | (refine sE ?_; try (first | refine sY (by rfl) (by rfl) (by assumption) (by omega) (by omega) ?_ | refine vI (by rfl) (by rfl) (by assumption) (by omega) (by omega) ?_ | refine vR (by rfl) (by rfl) (by decide) (by decide) ?_ | refine yK (by rfl) (by rfl) (by decide) (by decide) ?_ | refine vP (by rfl) (by rfl) (by decide) (by decide) ?_ | refine yK (by rfl) (by rfl) (by omega) (by omega) ?_)) | refine q_cm (by rfl) (by rfl) ?_ | refine q_ar (by rfl) (by rfl) (by rfl) ?_ | refine uF (by rfl) ?_ | (refine sI ?_; try (first | refine wX (by rfl) ?_ | refine wY (by rfl) ?_ | refine vU (by rfl) ?_)) | refine sH (by rfl) (by rfl) ?_ | refine vK (by rfl) ?_ | refine vM (by rfl) ?_ | refine tR (by rfl) (by rfl) (by first | decide | omega) ?_ | refine tY (by rfl) (by rfl) (by first | decide | omega) ?_ | refine sJ (by rfl) (by rfl) ?_ | refine sK (by rfl) (by rfl) (by rfl) ?_ | refine sA (by rfl) ?_ | refine tZ (by rfl) ?_ | refine wP (by rfl) (by rfl) ?_ | refine wQ (by rfl) (by rfl) ?_ | refine tX ?_ | refine sD ?_ | refine sG (by rfl) (by rfl) ?_ | refine uE (by rfl) (by rfl) ?_ | refine wS (by rfl) ?_ | refine q_mx (by rfl) (by rfl) ?_ | refine q_mn (by rfl) (by rfl) ?_ | refine sB (by rfl) (by rfl) (by rfl) ?_ | refine sF (by rfl) ?_ | refine uG (by rfl) ?_ | refine uH (by rfl) ?_ | refine wR (by rfl) ?_ | refine vN (by rfl) (by rfl) ?_ | refine vO (by rfl) (by rfl) ?_)) | (refine qJ ?_; try (first | (refine sL (by rfl) ?_; try (first | refine xA (by rfl) (by rfl) ?_ | refine yJ (by rfl) (by rfl) ?_ | refine xA (yL _ _) (by rfl) ?_ | refine yJ (yL _ _) (by rfl) ?_ | refine xA (vB _ _ _ _) (by rfl) ?_ | refine yJ (vB _ _ _ _) (by rfl) ?_ | refine xA (vA _ _ _) (by rfl) ?_ | refine yJ (vA _ _ _) (by rfl) ?_)) | (refine sM (by rfl) ?_; try (first | refine qW (by assumption) (by omega) (by omega) (fun _ _ => ?_) | refine uU (by omega) (by omega) ?_ | refine wH (Nat.le_of_ble_eq_true (by rfl)) ?_ | refine yY (by rfl) (by rfl) (by rfl) (by omega) ?_)))) | refine vW (by rfl) (by rfl) (by rfl) (by rfl) (Nat.le_of_ble_eq_true (by rfl)) ?_ | (refine tF (by rfl) (by rfl) ?_; try (first | refine yY (by rfl) (by rfl) (by rfl) (Nat.le_of_ble_eq_true (by rfl)) ?_ | refine yY (by rfl) (by rfl) (by rfl) (by omega) ?_)) | refine qK (by rfl) (by rfl) ?_ | refine pY (by rfl) (by rfl) (by rfl) ?_ | refine bL ?_ | refine tG (by rfl) ?_ | refine nZ (by rfl) ?_)) | (refine d_nil ?_; try (first | refine s_n ?_ | refine s_r ?_ | refine s_e ?_ | refine k_n ?_ | refine k_r ?_ | refine k_e (by rfl) ?_ | refine k_o (by rfl) ?_ | refine l_r ?_ | refine l_e ?_ | refine b_r ?_ | refine b_n ?_)) | refine d_none (by rfl) (by rfl) ?_ | refine d_guard (by rfl) (by rfl) (by rfl) ?_) | (refine g_x ?_; first | (refine x_q (by rfl) ?_; try (first | refine q_mv (by rfl) ?_ | refine vL (by rfl) ?_ | (refine sC ?_; try (first | refine sX (by rfl) (by assumption) ?_ | refine vS (by rfl) (by assumption) ?_ | refine vT (by rfl) ?_ | refine wM (by rfl) ?_ | refine wL (by rfl) ?_)) | (refine sE ?_; try (first | refine sY (by rfl) (by rfl) (by assumption) (by omega) (by omega) ?_ | refine vI (by rfl) (by rfl) (by assumption) (by omega) (by omega) ?_ | refine vR (by rfl) (by rfl) (by decide) (by decide) ?_ | refine yK (by rfl) (by rfl) (by decide) (by decide) ?_ | refine vP (by rfl) (by rfl) (by decide) (by decide) ?_ | refine yK (by rfl) (by rfl) (by omega) (by omega) ?_)) | refine q_cm (by rfl) (by rfl) ?_ | refine q_ar (by rfl) (by rfl) (by rfl) ?_ | refine uF (by rfl) ?_ | (refine sI ?_; try (first | refine wX (by rfl) ?_ | refine wY (by rfl) ?_ | refine vU (by rfl) ?_)) | refine sH (by rfl) (by rfl) ?_ | refine vK (by rfl) ?_ | refine vM (by rfl) ?_ | refine tR (by rfl) (by rfl) (by first | decide | omega) ?_ | refine tY (by rfl) (by rfl) (by first | decide | omega) ?_ | refine sJ (by rfl) (by rfl) ?_ | refine sK (by rfl) (by rfl) (by rfl) ?_ | refine sA (by rfl) ?_ | refine tZ (by rfl) ?_ | refine wP (by rfl) (by rfl) ?_ | refine wQ (by rfl) (by rfl) ?_ | refine tX ?_ | refine sD ?_ | refine sG (by rfl) (by rfl) ?_ | refine uE (by rfl) (by rfl) ?_ | refine wS (by rfl) ?_ | refine q_mx (by rfl) (by rfl) ?_ | refine q_mn (by rfl) (by rfl) ?_ | refine sB (by rfl) (by rfl) (by rfl) ?_ | refine sF (by rfl) ?_ | refine uG (by rfl) ?_ | refine uH (by rfl) ?_ | refine wR (by rfl) ?_ | refine vN (by rfl) (by rfl) ?_ | refine vO (by rfl) (by rfl) ?_)) | (refine nU ?_; try (first | (refine sL (by rfl) ?_; try (first | refine xA (by rfl) (by rfl) ?_ | refine yJ (by rfl) (by rfl) ?_ | refine xA (yL _ _) (by rfl) ?_ | refine yJ (yL _ _) (by rfl) ?_ | refine xA (vB _ _ _ _) (by rfl) ?_ | refine yJ (vB _ _ _ _) (by rfl) ?_ | refine xA (vA _ _ _) (by rfl) ?_ | refine yJ (vA _ _ _) (by rfl) ?_)) | (refine sM (by rfl) ?_; try (first | refine qW (by assumption) (by omega) (by omega) (fun _ _ => ?_) | refine uU (by omega) (by omega) ?_ | refine wH (Nat.le_of_ble_eq_true (by rfl)) ?_ | refine yY (by rfl) (by rfl) (by rfl) (by omega) ?_)))) | refine sQ (by rfl) (by rfl) (by rfl) (by rfl) (Nat.le_of_ble_eq_true (by rfl)) ?_ | (refine jI (by rfl) (by rfl) ?_; try (first | refine yY (by rfl) (by rfl) (by rfl) (Nat.le_of_ble_eq_true (by rfl)) ?_ | refine yY (by rfl) (by rfl) (by rfl) (by omega) ?_)) | refine gX (by rfl) (by rfl) ?_ | refine x_box (by rfl) (by rfl) ?_ | refine gI ?_ | refine x_frzSl (by rfl) ?_ | refine x_app ?_ | refine nT ?_ | refine gG ?_ | refine gH (by rfl) (by rfl) (by rfl) (by rfl) ?_ | refine pR (by rfl) (by rfl) (by rfl) ?_) | (refine g_q ?_; first | refine q_mv (by rfl) ?_ | refine vL (by rfl) ?_ | (refine sC ?_; try (first | refine sX (by rfl) (by assumption) ?_ | refine vS (by rfl) (by assumption) ?_ | refine vT (by rfl) ?_ | refine wM (by rfl) ?_ | refine wL (by rfl) ?_)) | (refine sE ?_; try (first | refine sY (by rfl) (by rfl) (by assumption) (by omega) (by omega) ?_ | refine vI (by rfl) (by rfl) (by assumption) (by omega) (by omega) ?_ | refine vR (by rfl) (by rfl) (by decide) (by decide) ?_ | refine yK (by rfl) (by rfl) (by decide) (by decide) ?_ | refine vP (by rfl) (by rfl) (by decide) (by decide) ?_ | refine yK (by rfl) (by rfl) (by omega) (by omega) ?_)) | refine q_cm (by rfl) (by rfl) ?_ | refine q_ar (by rfl) (by rfl) (by rfl) ?_ | refine uF (by rfl) ?_ | (refine sI ?_; try (first | refine wX (by rfl) ?_ | refine wY (by rfl) ?_ | refine vU (by rfl) ?_)) | refine sH (by rfl) (by rfl) ?_ | refine vK (by rfl) ?_ | refine vM (by rfl) ?_ | refine tR (by rfl) (by rfl) (by first | decide | omega) ?_ | refine tY (by rfl) (by rfl) (by first | decide | omega) ?_ | refine sJ (by rfl) (by rfl) ?_ | refine sK (by rfl) (by rfl) (by rfl) ?_ | refine sA (by rfl) ?_ | refine tZ (by rfl) ?_ | refine wP (by rfl) (by rfl) ?_ | refine wQ (by rfl) (by rfl) ?_ | refine tX ?_ | refine sD ?_ | refine sG (by rfl) (by rfl) ?_ | refine uE (by rfl) (by rfl) ?_ | refine wS (by rfl) ?_ | refine q_mx (by rfl) (by rfl) ?_ | refine q_mn (by rfl) (by rfl) ?_ | refine sB (by rfl) (by rfl) (by rfl) ?_ | refine sF (by rfl) ?_ | refine uG (by rfl) ?_ | refine uH (by rfl) ?_ | refine wR (by rfl) ?_ | refine vN (by rfl) (by rfl) ?_ | refine vO (by rfl) (by rfl) ?_) | (refine g_c ?_; first | refine c_t (by rfl) ?_ | refine c_f (by rfl) ?_) | (refine g_k ?_; first | refine k_n ?_ | refine k_r ?_ | refine k_e (by rfl) ?_ | refine k_o (by rfl) ?_) | (refine g_lo ?_; first | refine l_r ?_ | refine l_e ?_) | (refine g_xd ?_; first | (refine xd_q (by rfl) ?_; try (first | refine q_mv (by rfl) ?_ | refine vL (by rfl) ?_ | (refine sC ?_; try (first | refine sX (by rfl) (by assumption) ?_ | refine vS (by rfl) (by assumption) ?_ | refine vT (by rfl) ?_ | refine wM (by rfl) ?_ | refine wL (by rfl) ?_)) | (refine sE ?_; try (first | refine sY (by rfl) (by rfl) (by assumption) (by omega) (by omega) ?_ | refine vI (by rfl) (by rfl) (by assumption) (by omega) (by omega) ?_ | refine vR (by rfl) (by rfl) (by decide) (by decide) ?_ | refine yK (by rfl) (by rfl) (by decide) (by decide) ?_ | refine vP (by rfl) (by rfl) (by decide) (by decide) ?_ | refine yK (by rfl) (by rfl) (by omega) (by omega) ?_)) | refine q_cm (by rfl) (by rfl) ?_ | refine q_ar (by rfl) (by rfl) (by rfl) ?_ | refine uF (by rfl) ?_ | (refine sI ?_; try (first | refine wX (by rfl) ?_ | refine wY (by rfl) ?_ | refine vU (by rfl) ?_)) | refine sH (by rfl) (by rfl) ?_ | refine vK (by rfl) ?_ | refine vM (by rfl) ?_ | refine tR (by rfl) (by rfl) (by first | decide | omega) ?_ | refine tY (by rfl) (by rfl) (by first | decide | omega) ?_ | refine sJ (by rfl) (by rfl) ?_ | refine sK (by rfl) (by rfl) (by rfl) ?_ | refine sA (by rfl) ?_ | refine tZ (by rfl) ?_ | refine wP (by rfl) (by rfl) ?_ | refine wQ (by rfl) (by rfl) ?_ | refine tX ?_ | refine sD ?_ | refine sG (by rfl) (by rfl) ?_ | refine uE (by rfl) (by rfl) ?_ | refine wS (by rfl) ?_ | refine q_mx (by rfl) (by rfl) ?_ | refine q_mn (by rfl) (by rfl) ?_ | refine sB (by rfl) (by rfl) (by rfl) ?_ | refine sF (by rfl) ?_ | refine uG (by rfl) ?_ | refine uH (by rfl) ?_ | refine wR (by rfl) ?_ | refine vN (by rfl) (by rfl) ?_ | refine vO (by rfl) (by rfl) ?_)) | (refine qJ ?_; try (first | (refine sL (by rfl) ?_; try (first | refine xA (by rfl) (by rfl) ?_ | refine yJ (by rfl) (by rfl) ?_ | refine xA (yL _ _) (by rfl) ?_ | refine yJ (yL _ _) (by rfl) ?_ | refine xA (vB _ _ _ _) (by rfl) ?_ | refine yJ (vB _ _ _ _) (by rfl) ?_ | refine xA (vA _ _ _) (by rfl) ?_ | refine yJ (vA _ _ _) (by rfl) ?_)) | (refine sM (by rfl) ?_; try (first | refine qW (by assumption) (by omega) (by omega) (fun _ _ => ?_) | refine uU (by omega) (by omega) ?_ | refine wH (Nat.le_of_ble_eq_true (by rfl)) ?_ | refine yY (by rfl) (by rfl) (by rfl) (by omega) ?_)))) | refine vW (by rfl) (by rfl) (by rfl) (by rfl) (Nat.le_of_ble_eq_true (by rfl)) ?_ | (refine tF (by rfl) (by rfl) ?_; try (first | refine yY (by rfl) (by rfl) (by rfl) (Nat.le_of_ble_eq_true (by rfl)) ?_ | refine yY (by rfl) (by rfl) (by rfl) (by omega) ?_)) | refine qK (by rfl) (by rfl) ?_ | refine pY (by rfl) (by rfl) (by rfl) ?_ | refine bL ?_ | refine tG (by rfl) ?_ | refine nZ (by rfl) ?_) | (refine g_l ?_; first | (refine sL (by rfl) ?_; try (first | refine xA (by rfl) (by rfl) ?_ | refine yJ (by rfl) (by rfl) ?_ | refine xA (yL _ _) (by rfl) ?_ | refine yJ (yL _ _) (by rfl) ?_ | refine xA (vB _ _ _ _) (by rfl) ?_ | refine yJ (vB _ _ _ _) (by rfl) ?_ | refine xA (vA _ _ _) (by rfl) ?_ | refine yJ (vA _ _ _) (by rfl) ?_)) | (refine sM (by rfl) ?_; try (first | refine qW (by assumption) (by omega) (by omega) (fun _ _ => ?_) | refine uU (by omega) (by omega) ?_ | refine wH (Nat.le_of_ble_eq_true (by rfl)) ?_ | refine yY (by rfl) (by rfl) (by rfl) (by omega) ?_))) | (refine g_len ?_; first | refine sX (by rfl) (by assumption) ?_ | refine vS (by rfl) (by assumption) ?_ | refine vT (by rfl) ?_ | refine wM (by rfl) ?_ | refine wL (by rfl) ?_) | (refine g_nil ?_; first | refine wX (by rfl) ?_ | refine wY (by rfl) ?_ | refine vU (by rfl) ?_) | (refine g_iad ?_; first | refine sY (by rfl) (by rfl) (by assumption) (by omega) (by omega) ?_ | refine vI (by rfl) (by rfl) (by assumption) (by omega) (by omega) ?_ | refine vR (by rfl) (by rfl) (by decide) (by decide) ?_ | refine yK (by rfl) (by rfl) (by decide) (by decide) ?_ | refine vP (by rfl) (by rfl) (by decide) (by decide) ?_ | refine yK (by rfl) (by rfl) (by omega) (by omega) ?_) | (refine g_box ?_; first | refine xA (by rfl) (by rfl) ?_ | refine yJ (by rfl) (by rfl) ?_ | refine xA (yL _ _) (by rfl) ?_ | refine yJ (yL _ _) (by rfl) ?_ | refine xA (vB _ _ _ _) (by rfl) ?_ | refine yJ (vB _ _ _ _) (by rfl) ?_ | refine xA (vA _ _ _) (by rfl) ?_ | refine yJ (vA _ _ _) (by rfl) ?_) | (refine g_cells ?_; first | refine qW (by assumption) (by omega) (by omega) (fun _ _ => ?_) | refine uU (by omega) (by omega) ?_ | refine wH (Nat.le_of_ble_eq_true (by rfl)) ?_) | (refine g_st ?_; first | refine yY (by rfl) (by rfl) (by rfl) (Nat.le_of_ble_eq_true (by rfl)) ?_) | (refine g_b ?_; first | refine b_r ?_ | refine b_n ?_) | (refine g_r ?_; first | refine r_tmp (by rfl) ?_ | refine r_cell ?_ | refine r_nil ?_))
 exact hgo.out):A:=h ⟨k⟩
noncomputable def jX (m:List Rat):List R2 × Bool:=bif dec (∀ q∈m,fitR (rp q)=true) then (m.map rp,true) else ([],false)
def OutsK (m:List Rat) (u:V):Prop:=∃ c,Ls elP c (jX m).1∧u=.tup [.c c,.c (.bool (jX m).2)]
theorem OutsK.no {m:List Rat} {q:Rat} {H:Hp} (hq:q∈m) (h:fitR (rp q)=false):∃ d,FzV H (.tup [.c .nilSl,.c (.bool false)]) d∧OutsK m d:=by
 refine ⟨_,.tup (.cons (.c (.hf trivial)) (.cons (.c (.hf trivial)) .nil)),.nilSl,?_⟩
 unfold jX
 rw [yG.2 (fun h2 => by have:=h2 q hq; rw [h] at this; cases this)]
 exact ⟨.nil,rfl⟩
theorem OutsK.yes {m:List Rat} {c:C} {H:Hp} {d:C} (h:∀ q∈m,fitR (rp q)=true) (hf:Fz (·≠.bor) H c d) (hc:Ls elP d (m.map rp)):∃ d,FzV H (.tup [.c c,.c (.bool true)]) d∧OutsK m d:=by
 refine ⟨_,.tup (.cons (.c hf) (.cons (.c (.hf trivial)) .nil)),d,?_⟩
 unfold jX
 rw [yF.2 h]
 exact ⟨hc,rfl⟩
abbrev Tm:=R2 × List Int
abbrev Pl:=List Tm
def wD:Nat:=9223372036854775808
def elI:El Int:=⟨fun cs n => cs=[iC n] ∧ -9223372036854775808≤n∧n<9223372036854775808,1,fun h => by rw [h.1]; rfl,fun h => by rw [h.1]; exact ⟨trivial,trivial⟩⟩
def elT:El Tm:=⟨fun cs t => ∃ c,cs=ratC t.1++[c]∧Ls elI c t.2∧t.2.length<wD,3,fun h => by obtain ⟨c,rfl,_⟩:=h; rfl,fun h => by obtain ⟨c,rfl,h,_⟩:=h; exact ⟨trivial,trivial,h.hf,trivial⟩⟩
def elM:El Pl:=⟨fun cs p => ∃ c,cs=[c]∧Ls elT c p∧p.length<wD,1,fun h => by obtain ⟨c,rfl,_⟩:=h; rfl,fun h => by obtain ⟨c,rfl,h,_⟩:=h; exact ⟨h.hf,trivial⟩⟩
theorem qW {c:C} {l:List Int} {n i:Nat} {K:V→Prop} (hc:Ls elI c l) (hi:i<l.length) (hn:n=i) (k:-9223372036854775808≤l[i]→l[i]<9223372036854775808→K (.c (iC l[i]))):yN (c.ds.drop (n*1)) false 1 K:=by
 subst hn
 obtain ⟨cs,r,⟨rfl,h1,h2⟩,h⟩:=hc.els.get hi
 have h:c.ds.drop (n*1)=[iC l[n]]++r:=h
 rw [h]
 exact k h1 h2
attribute [local irreducible] yA semH semC qLen qNil qIad qSlc qIdx yW yN xB appX appI slcX awpF yQ xH xopF xN qval lval seqQ xI xY xW xT cnd arith IntKind.wrap
theorem num_AllValidW {c:C} {l:List R2} (hc:Ls elP c l) (hl:l.length<9223372036854775808):semC Tryz.prog n_num_AllValid [.c c] (uC (tT l)):=by
 refine yD ok_num_AllValid rfl (show HFVs [.c c] from ⟨hc.hf,trivial⟩) ?_
 refine go5 ?_
 refine yR (fun n vs H => ∃ i:Nat,vs=[.c c,i64 l.length,i64 i]∧n=l.length - i∧i≤l.length∧tT (l.take i)) (by rfl) ⟨0,rfl,rfl,by omega,by intro p hp; simp at hp⟩ ?_
 rintro n vs H ⟨i,rfl,rfl,h1,h2⟩
 refine go5 ?_
 cases hq:yA Cm.lss (i:Int) (l.length:Int)
 ·simp [yA] at hq
  have ei:i=l.length:=by omega
  subst ei
  rw [List.take_length] at h2
  refine go5 ?_
  exact uC.fz ⟨fun _ => h2,fun _ => rfl⟩
 ·simp [yA] at hq
  refine go5 ?_
  refine uA hc hq (by omega) rfl (fun cs hcs => ?_)
  obtain rfl:=hcs
  refine go5 ?_
  refine yB (num_Valid l[i].1 l[i].2) (fun u hu => ?_)
  obtain ⟨z,rfl,hz⟩:=hu
  cases z
  ·refine go5 ?_
   exact uC.fz ⟨fun h => (by cases h),fun h => absurd (hz.2 (h _ (xZ hq))) (by decide)⟩
  ·refine go5 ?_
   rw [yZ i (by omega)]
   exact l_n (by rfl) (by omega) ⟨i+1,rfl,rfl,by omega,h2.step hq (hz.1 rfl)⟩
theorem ref01_AreW {c:C} {l:List R2} (hc:Ls elP c l) (hl:l.length<9223372036854775808):semC Tryz.prog n_ref01_Are [.c c] (uC (tT l)):=by
 refine yD ok_ref01_Are rfl (show HFVs [.c c] from ⟨hc.hf,trivial⟩) ?_
 refine go5 ?_
 refine yR (fun n vs H => ∃ i:Nat,vs=[.c c,i64 i]∧n=l.length - i∧i≤l.length∧tT (l.take i)) (by rfl) ⟨0,rfl,rfl,by omega,by intro p hp; simp at hp⟩ ?_
 rintro n vs H ⟨i,rfl,rfl,h1,h2⟩
 refine go5 ?_
 cases hq:yA Cm.lss (i:Int) (l.length:Int)
 ·simp [yA] at hq
  have ei:i=l.length:=by omega
  subst ei
  rw [List.take_length] at h2
  refine go5 ?_
  exact uC.fz ⟨fun _ => h2,fun _ => rfl⟩
 ·simp [yA] at hq
  refine go5 ?_
  refine uA hc hq (by omega) rfl (fun cs hcs => ?_)
  obtain rfl:=hcs
  refine go5 ?_
  refine yB (ref01_Is l[i].1 l[i].2) (fun u hu => ?_)
  obtain ⟨z,rfl,hz⟩:=hu
  cases z
  ·refine go5 ?_
   exact uC.fz ⟨fun h => (by cases h),fun h => absurd (hz.2 (h _ (xZ hq))) (by decide)⟩
  ·refine go5 ?_
   rw [yZ i (by omega)]
   exact l_n (by rfl) (by omega) ⟨i+1,rfl,rfl,by omega,h2.step hq (hz.1 rfl)⟩
theorem r_PowS {k:Nat} {cs:List C} {x:Rat} (n:Nat) (hx:IR k cs x) (hn:n<1024) (hk:n*k+1≤134217727):semC Tryz.prog n_ref01_Q_Pow [.agg cs,i64 n] (RQV (n*k+1) (x ^ n)):=by
 refine yD ok_ref01_Q_Pow rfl (show HFVs [.agg cs,i64 n] from ⟨hx.hf,trivial,trivial⟩) ?_
 obtain ⟨a,b,c,d,rfl⟩:=id hx.four
 refine go5 ?_
 refine c_f (by simp [yA]) ?_
 refine go5 ?_
 refine yB (r_Int (g:=1) (by decide)) (fun u hu => ?_)
 obtain ⟨es,rfl,h1⟩:=hu
 obtain ⟨_,_,_,_,rfl⟩:=id h1.four
 refine go5 ?_
 refine goN ?_
 refine yR (fun m vs H => ∃ (i:Nat) (es:List C),vs=[i64 n,.c (.ptr 0 0),.c (.ptr 1 0),.c (.ptr 2 0),i64 i]∧H=[.live ⟨[a,.bool b,c,.bool d],yC,.rw⟩,.live ⟨qC,yC,.rw⟩,.live ⟨es,yC,.rw⟩]∧m=n - i∧i≤n∧IR (i*k+1) es (x ^ i)) (by rfl) ⟨0,_,rfl,rfl,rfl,by omega,by rw [Nat.zero_mul,Rat.pow_zero]; exact h1⟩ ?_
 clear h1
 rintro m vs H ⟨i,es,rfl,rfl,rfl,h2,h3⟩
 obtain ⟨_,_,_,_,rfl⟩:=id h3.four
 refine go5 ?_
 cases hq:yA Cm.lss (i:Int) (n:Int)
 ·simp [yA] at hq
  have ei:i=n:=by omega
  subst ei
  refine go5 ?_
  exact RQV.fz h3
 ·simp [yA] at hq
  have hle:=Nat.mul_le_mul_right k (show i+1≤n from hq)
  rw [Nat.succ_mul] at hle
  refine go5 ?_
  refine yB (qH h3 hx (by omega)) (fun u hu => ?_)
  obtain ⟨gs,rfl,j1⟩:=hu
  obtain ⟨_,_,_,_,rfl⟩:=id j1.four
  refine go5 ?_
  rw [yZ i (by omega)]
  refine l_n (by rfl) (by omega) ⟨i+1,_,rfl,rfl,rfl,by omega,?_⟩
  rw [Rat.pow_succ,Nat.succ_mul]
  exact j1.up (by omega)
theorem q_Pow {k:Nat} {cs:List C} {x:Rat} (n:Nat) (hx:IQ k cs x) (hn:n<1024) (hk:n*k+1≤134217727):semC Tryz.prog n_num_Q_Pow [.agg cs,i64 n] (QV (n*k+1) (x ^ n)):=by
 refine yD ok_num_Q_Pow rfl (show HFVs [.agg cs,i64 n] from ⟨hx.hf,trivial,trivial⟩) ?_
 obtain ⟨a,b,c,d,e,f,rfl⟩:=id hx.six
 refine go2 ?_
 refine c_f (by simp [yA]) ?_
 refine go2 ?_
 refine yB (nL (g:=1) (by decide)) (fun u hu => ?_)
 obtain ⟨es,rfl,h1⟩:=hu
 obtain ⟨_,_,_,_,_,_,rfl⟩:=id h1.six
 refine go2 ?_
 refine goN ?_
 refine yR (fun m vs H => ∃ (i:Nat) (es:List C),vs=[.c (.ptr 0 0),.c (.ptr 1 0),.c (.ptr 2 0),i64 n,i64 i]∧H=[.live ⟨[a,b,c,d,e,f],xK,.rw⟩,.live ⟨zeroQ,xK,.rw⟩,.live ⟨es,xK,.rw⟩]∧m=n - i∧i≤n∧IQ (i*k+1) es (x ^ i)) (by rfl) ⟨0,_,rfl,rfl,rfl,by omega,by rw [Nat.zero_mul,Rat.pow_zero]; exact h1⟩ ?_
 clear h1
 rintro m vs H ⟨i,es,rfl,rfl,rfl,h2,h3⟩
 obtain ⟨_,_,_,_,_,_,rfl⟩:=id h3.six
 refine go2 ?_
 cases hq:yA Cm.lss (i:Int) (n:Int)
 ·simp [yA] at hq
  have ei:i=n:=by omega
  subst ei
  refine go2 ?_
  exact QV.fz h3
 ·simp [yA] at hq
  have hle:=Nat.mul_le_mul_right k (show i+1≤n from hq)
  rw [Nat.succ_mul] at hle
  refine go2 ?_
  refine yB (jN h3 hx (by omega)) (fun u hu => ?_)
  obtain ⟨gs,rfl,j1⟩:=hu
  obtain ⟨_,_,_,_,_,_,rfl⟩:=id j1.six
  refine go2 ?_
  rw [yZ i (by omega)]
  refine l_n (by rfl) (by omega) ⟨i+1,_,rfl,rfl,rfl,by omega,?_⟩
  rw [Rat.pow_succ,Nat.succ_mul]
  exact j1.up (by omega)
theorem num_Outs {k:Nat} {c:C} {m:List Rat} (hc:Ls (elQ k) c m) (hm:m.length<1048576):semC Tryz.prog n_num_Outs [.c c] (OutsK m):=by
 refine yD ok_num_Outs rfl (show HFVs [.c c] from ⟨hc.hf,trivial⟩) ?_
 refine go5 ?_
 refine vG (by rfl) (by rfl) ⟨by omega,by omega,by omega,by omega⟩ ?_
 refine go5 ?_
 refine goN ?_
 refine yR (fun w vs H => ∃ (i:Nat) (cells:List C) (R:Hp),vs=[.c (.sl 0 0 m.length (some m.length) 2),.c c,i64 m.length,i64 i]∧H=.live ⟨cells,tD,.rw⟩ :: R∧w=m.length - i∧i≤m.length∧Fill elP (ratC (0,0)) m.length cells ((m.take i).map rp)∧∀ q∈m.take i,fitR (rp q)=true) (by rfl) ⟨0,_,_,rfl,rfl,rfl,by omega,.zero rfl,by simp⟩ ?_
 rintro w vs H ⟨i,cells,R,rfl,rfl,rfl,h1,h2,h3⟩
 have hcl:cells.length=m.length*2:=h2.len
 have htl:((m.take i).map rp).length=i:=by simp; omega
 refine go5 ?_
 cases hi:yA Cm.lss (i:Int) (m.length:Int)
 case false =>
  simp [yA] at hi
  have ei:i=m.length:=by omega
  subst ei
  rw [List.take_length] at h2 h3
  have h4:=h2.done (by simp)
  have h5:=Ls.imm h4
  rw [List.length_map] at h5
  refine go5 ?_
  exact OutsK.yes h3 (fz_sl (bx:=⟨cells,tD,.rw⟩) (ds:=cells) (by rfl) (by simp) (by simp) (by rw [List.drop_zero,List.take_of_length_le (by simp only; omega)]) h4.hf) h5
 simp [yA] at hi
 refine go5 ?_
 refine uA hc (i:=i) hi (by omega) rfl (fun cs hcs => ?_)
 obtain ⟨q1,q2,q3,q4,q5,q6,rfl⟩:=id (show IQ k _ _ from hcs).six
 refine go5 ?_
 refine yB (num_Q_Out (show IQ k _ _ from hcs).is (bW m[i])) (fun u hu => ?_)
 obtain rfl:=hu
 unfold outV
 cases hf:fitR (rp m[i])
 case false =>
  refine go5 ?_
  exact OutsK.no (xZ hi) hf
 have h4:=h2.put (cs:=ratC (rp m[i])) (a:=rp m[i]) (by rw [htl]; omega) rfl
 rw [htl,show (m.take i).map rp++[rp m[i]]=(m.take (i+1)).map rp by rw [xU hi,List.map_append]; rfl] at h4
 have h5:∀ q∈m.take (i+1),fitR (rp q)=true:=fun q hq => by
  rw [xU hi] at hq
  rcases List.mem_append.1 hq with hq | hq
  ·exact h3 q hq
  ·simp at hq
   subst hq
   exact hf
 refine go5 ?_
 rw [yZ i (by omega)]
 exact l_n (by rfl) (n':=m.length - (i+1)) (by omega) ⟨i+1,_,_,rfl,rfl,rfl,by omega,by rw [show 0+((i:Nat):Int).toNat*2=i*2 by omega]; exact h4,h5⟩
theorem ref01_Rats {k:Nat} {c:C} {m:List Rat} (hc:Ls (elR k) c m) (hm:m.length<1048576):semC Tryz.prog n_ref01_Rats [.c c] (OutsK m):=by
 refine yD ok_ref01_Rats rfl (show HFVs [.c c] from ⟨hc.hf,trivial⟩) ?_
 refine go13 ?_
 refine yR (fun w vs H => ∃ (i:Nat) (o:C),vs=[.c c,.c o,i64 i]∧w=m.length - i∧i≤m.length∧Out elP tD 0 H o ((m.take i).map rp)∧∀ q∈m.take i,fitR (rp q)=true) (by rfl) ⟨0,_,rfl,rfl,by omega,.nil,by simp⟩ ?_
 rintro w vs H ⟨i,o,rfl,rfl,h1,h2,h3⟩
 have htl:((m.take i).map rp).length=i:=by simp; omega
 refine go13 ?_
 cases hi:yA Cm.lss (i:Int) (m.length:Int)
 case false =>
  simp [yA] at hi
  have ei:i=m.length:=by omega
  subst ei
  rw [List.take_length] at h2 h3
  obtain ⟨d,f1,l1⟩:=h2.fz (p:=(·≠.bor)) (by simp)
  refine go13 ?_
  exact OutsK.yes h3 f1 l1
 simp [yA] at hi
 refine go13 ?_
 refine uA hc (i:=i) hi (by omega) rfl (fun cs hcs => ?_)
 obtain ⟨q1,q2,q3,q4,rfl⟩:=id (show IR k _ _ from hcs).four
 refine go13 ?_
 refine yB (ref01_Rat (show IR k _ _ from hcs).is (bW m[i])) (fun u hu => ?_)
 obtain rfl:=hu
 unfold outV
 cases hf:fitR (rp m[i])
 case false =>
  refine go13 ?_
  exact OutsK.no (xZ hi) hf
 have h5:∀ q∈m.take (i+1),fitR (rp q)=true:=fun q hq => by
  rw [xU hi] at hq
  rcases List.mem_append.1 hq with hq | hq
  ·exact h3 q hq
  ·simp at hq
   subst hq
   exact hf
 refine go13 ?_
 refine app_imm (bytes:=16) (F:=[]) (R:=_) (a:=rp m[i]) rfl (h2.grow (X:=[_])) (by rfl) (by rfl) rfl rfl (by rw [htl]; omega) (fun R' o' h4 => ?_)
 refine go13 ?_
 rw [yZ i (by omega)]
 refine l_n (by rfl) (n':=m.length - (i+1)) (by omega) ⟨i+1,o',rfl,rfl,by omega,?_,h5⟩
 rw [xU hi,List.map_append]
 exact h4
end Go.Proofs.YtokckcnfojjpjaaGreat

namespace Go.Proofs.YtokckcnfojjpjaaGreat
open Go.ChangeShapes Go.WideShapes Go.ChangeAt Go.RowKit Go.Joins
theorem els_gen {α:Type} {E:El α} {w:World} {a:Addr}:∀ (n:Nat),(∀ i,i<n→∃ (ds:List C) (cs:List Value) (x:α),E.p ds x∧RL (cx0 (fun _ => False) w) ds cs∧cs.length=E.s∧∀ j v,cs[j]?=some v→w.cell? (a.add (i*E.s+j))=some v) →
  ∃ (ds:List C) (vs:List Value) (l:List α),l.length=n∧Els E ds l∧RL (cx0 (fun _ => False) w) ds vs∧vs.length=n*E.s∧∀ j v,vs[j]?=some v→w.cell? (a.add j)=some v
 | 0,_ => ⟨[],[],[],rfl,.nil,.nil,by simp,fun j v h => by simp at h⟩
 | n+1,h => by
  obtain ⟨ds,vs,l,h1,h2,h3,h4,h5⟩:=els_gen n (fun i hi => h i (by omega))
  obtain ⟨d,cs,x,g1,g2,g3,g4⟩:=h n (by omega)
  refine ⟨ds++d,vs++cs,l++[x],by simp [h1],h2.snoc g1,h3.append g2,by rw [List.length_append,h4,g3,Nat.add_mul,Nat.one_mul],fun j v hj => ?_⟩
  rcases Nat.lt_or_ge j vs.length with hlt | hge
  ·rw [List.getElem?_append_left hlt] at hj
   exact h5 j v hj
  ·rw [List.getElem?_append_right hge,h4] at hj
   have:=g4 (j - n*E.s) v hj
   rwa [show n*E.s+(j - n*E.s)=j by omega] at this
section
variable {H:Type} {enc:TypeId × Value→H} {P:Program} {w:World} {spare:Nat→Bool} {held:Bool}
def Opens (enc:TypeId × Value→H) (P:Program) (w:World) (spare:Nat→Bool) (held:Bool) {α:Type} (E:El α) (t:TypeId):Prop :=
 ∀ {fuel:Nat} {cs:List Value} {y:DataW H × List MemPlace},DataW.trod enc P w 0 spare held fuel t cs=some y→∃ (ds:List C) (x:α),E.p ds x∧RL (cx0 (fun _ => False) w) ds cs
theorem open_slC {α:Type} {E:El α} {T t:TypeId} (sl:P.underlying T=some (.slice t)) (hC:P.cellsOf t=E.s) (el:Opens enc P w spare held E t) {fuel:Nat} {v:Value} {y:DataW H × List MemPlace} (hf:DataW.trod enc P w 0 spare held fuel T [v]=some y) :
  ∃ (l:List α) (c:C),Ls E c l∧l.length<9223372036854775808∧R (cx0 (fun _ => False) w) c v:=by
 rcases DataW.trod_slice sl hf with ⟨h0,_⟩ | ⟨a,len',cap',elems,rest,n,_,h0,_,_,hl,hm,hlen,hel,_⟩
 ·simp at h0
  subst h0
  exact ⟨[],.nilSl,.nil,by simp,.nilSl⟩
 ·simp at h0
  subst h0
  have hm:cap'≤9223372036854775807:=hm
  obtain ⟨ds,vs,l,h1,h2,h3,h4,h5⟩:=els_gen (E:=E) (w:=w) (a:=a) len' (fun i hi => by
   have he:=hel i hi
   rw [List.getElem?_eq_getElem (by omega)] at he
   simp only [Option.bind_eq_some_iff] at he
   obtain ⟨cs,hcs,htr⟩:=he
   obtain ⟨ds,x,h1,h2⟩:=el htr
   obtain ⟨_,hn,hg⟩:=World.cells?_some hcs
   rw [hC] at hn
   refine ⟨ds,cs,x,h1,h2,hn,fun j v hj => ?_⟩
   have hj':=(List.getElem?_eq_some_iff.1 hj).1
   have:=hg j (by omega)
   rw [addr_add_add,hC,hj] at this
   exact this)
  refine ⟨l,.imm l.length ds,.imm h2,by omega,?_⟩
  rw [h1]
  exact .imm hl (fun j v hj => ⟨fun h => h.elim,h5 j v hj⟩) h3
theorem opens_int {t:TypeId} (i0:P.underlying t=some (.int .i64)):Opens enc P w spare held elI t:=fun {fuel cs y} h => by
 obtain ⟨k,rfl,_,hw⟩:=DataW.trod_int i0 h
 refine ⟨[iC k],k,⟨rfl,?_⟩,.cons (.int _ _) .nil⟩
 simp only [Lit.wf,Bool.and_eq_true,decide_eq_true_eq] at hw
 have e1:IntKind.i64.min = -9223372036854775808:=by decide
 have e2:IntKind.i64.max=9223372036854775807:=by decide
 omega
def termB (P:Program) (t tr tl:TypeId):Bool:=match P.underlying t with
 | some (.struct fs) => match fs.toList with
  | [f0,f1] => Nat.beq f0.offset 0 && Nat.beq f1.offset 2 && Nat.beq (P.cellsOf f0.type) 2 && Nat.beq (P.cellsOf f1.type) 1 && Nat.beq (P.cellsOf t) 3 && Nat.beq f0.type tr && Nat.beq f1.type tl
  | _ => false
 | _ => false
def manyB (P:Program) (t tl:TypeId):Bool:=match P.underlying t with
 | some (.struct fs) => match fs.toList with
  | [f0] => Nat.beq f0.offset 0 && Nat.beq (P.cellsOf f0.type) 1 && Nat.beq (P.cellsOf t) 1 && Nat.beq f0.type tl
  | _ => false
 | _ => false
theorem opens_rat {tr:TypeId} (gK:twoB P tr 1 1 2 (isI64 P)=true):Opens enc P w spare held elP tr:=fun {fuel cs y} h => by
 obtain ⟨g0,g1,gs,o0,o1,k0,k1,gC,j0,j1⟩:=twoB_out gK
 obtain ⟨a,b,rfl⟩:=open_two gs o0 o1 k0 k1 gC (bP j0) (bP j1) h
 exact ⟨ratC (a,b),(a,b),rfl,.cons (.int _ _) (.cons (.int _ _) .nil)⟩
theorem open_slV {α:Type} {E:El α} {T t:TypeId} (sl:P.underlying T=some (.slice t)) (hC:P.cellsOf t=E.s) (el:Opens enc P w spare held E t) {r:Reach} {b0:Nat} {v:Value} {d:DataW H} {p:List MemPlace} (hv:Value.okWide P w r b0 T v) (h:DataW.Trod enc P w 0 spare held T v d p) :
  ∃ (l:List α) (c:C),Ls E c l∧l.length<9223372036854775808∧RV (cx0 (fun _ => False) w) (.c c) v:=by
 obtain ⟨a0,len,cap,rfl⟩:=okWide_slice sl hv
 obtain ⟨fuel,hf⟩:=h
 have hf:DataW.trod enc P w 0 spare held fuel T [.slice a0 len cap]=some (d,p):=by simpa [Value.cells] using hf
 obtain ⟨l,c,h1,h2,h3⟩:=open_slC sl hC el hf
 exact ⟨l,c,h1,h2,.c h3⟩
end
theorem sys_sl:Tryz.prog.underlying T_sl_api_Many=some (.slice nG):=by kernel_rfl
theorem many_one:manyB Tryz.prog nG T_sl_api_Term=true:=by kernel_rfl
theorem terms_sl:Tryz.prog.underlying T_sl_api_Term=some (.slice jC):=by kernel_rfl
theorem term_three:termB Tryz.prog jC tD T_sl_int=true:=by kernel_rfl
theorem ints_sl:Tryz.prog.underlying T_sl_int=some (.slice T_int):=by kernel_rfl
theorem int_i64:Tryz.prog.underlying T_int=some (.int .i64):=by kernel_rfl
end Go.Proofs.YtokckcnfojjpjaaGreat

namespace Go.Proofs.YtokckcnfojjpjaaGreat
open Go.ChangeShapes Go.WideShapes Go.ChangeAt Go.RowKit Go.Joins
theorem mL {H:Type} {d:DataW H}:∀ {l:List (DataW H)},d∈l→Rows.uptoBulk d≤Rows.uptoBulkAll l
 | x :: r,h => by
  simp only [Rows.uptoBulkAll]
  rcases List.mem_cons.1 h with rfl | h
  ·omega
  ·have:=mL h
   omega
theorem bulk_one {H:Type} (d:DataW H):1≤Rows.uptoBulk d:=by
 cases d with
 | lit l => cases l <;> simp [Rows.uptoBulk]
 | nil => simp [Rows.uptoBulk]
 | ptr d => simp [Rows.uptoBulk]
 | slice elems spare => simp [Rows.uptoBulk]
 | agg parts => simp [Rows.uptoBulk]
 | iface t d => simp [Rows.uptoBulk]
 | map entries => simp [Rows.uptoBulk]
 | held h => simp [Rows.uptoBulk]
theorem bulk_len {H:Type}:∀ (l:List (DataW H)),l.length≤Rows.uptoBulkAll l
 | [] => by simp [Rows.uptoBulkAll]
 | x :: r => by
  have:=bulk_one x
  have:=bulk_len r
  simp only [Rows.uptoBulkAll,List.length_cons]
  omega
theorem els_genN {α:Type} {E:El α} {w:World} {a:Addr} {Q:α→Prop}:∀ (n:Nat),(∀ i,i<n→∃ (ds:List C) (cs:List Value) (x:α),E.p ds x∧RL (cx0 (fun _ => False) w) ds cs∧cs.length=E.s∧(∀ j v,cs[j]?=some v→w.cell? (a.add (i*E.s+j))=some v)∧Q x) →
  ∃ (ds:List C) (vs:List Value) (l:List α),l.length=n∧Els E ds l∧RL (cx0 (fun _ => False) w) ds vs∧vs.length=n*E.s∧(∀ j v,vs[j]?=some v→w.cell? (a.add j)=some v)∧∀ x∈l,Q x
 | 0,_ => ⟨[],[],[],rfl,.nil,.nil,by simp,fun j v h => by simp at h,fun x h => by cases h⟩
 | n+1,h => by
  obtain ⟨ds,vs,l,h1,h2,h3,h4,h5,h6⟩:=els_genN n (fun i hi => h i (by omega))
  obtain ⟨d,cs,x,g1,g2,g3,g4,g5⟩:=h n (by omega)
  refine ⟨ds++d,vs++cs,l++[x],by simp [h1],h2.snoc g1,h3.append g2,by rw [List.length_append,h4,g3,Nat.add_mul,Nat.one_mul],fun j v hj => ?_,fun z hz => ?_⟩
  ·rcases Nat.lt_or_ge j vs.length with hlt | hge
   ·rw [List.getElem?_append_left hlt] at hj
    exact h5 j v hj
   ·rw [List.getElem?_append_right hge,h4] at hj
    have:=g4 (j - n*E.s) v hj
    rwa [show n*E.s+(j - n*E.s)=j by omega] at this
  ·rcases List.mem_append.1 hz with hz | hz
   ·exact h6 z hz
   ·simp at hz
    subst hz
    exact g5
section
variable {H:Type} {enc:TypeId × Value→H} {P:Program} {w:World} {spare:Nat→Bool} {held:Bool} {N:Nat}
def OpensN (enc:TypeId × Value→H) (P:Program) (w:World) (spare:Nat→Bool) (held:Bool) (N:Nat) {α:Type} (E:El α) (Q:α→Prop) (t:TypeId):Prop :=
 ∀ {fuel:Nat} {cs:List Value} {y:DataW H × List MemPlace},DataW.trod enc P w 0 spare held fuel t cs=some y→Rows.uptoBulk y.1≤N→∃ (ds:List C) (x:α),E.p ds x∧RL (cx0 (fun _ => False) w) ds cs∧Q x
theorem Opens.any {α:Type} {E:El α} {t:TypeId} (h:Opens enc P w spare held E t):OpensN enc P w spare held N E (fun _ => True) t:=fun h1 _ => by
 obtain ⟨ds,x,h2,h3⟩:=h h1
 exact ⟨ds,x,h2,h3,trivial⟩
theorem openN_slC {α:Type} {E:El α} {Q:α→Prop} {T t:TypeId} (sl:P.underlying T=some (.slice t)) (hC:P.cellsOf t=E.s) (el:OpensN enc P w spare held N E Q t) {fuel:Nat} {v:Value} {y:DataW H × List MemPlace} (hf:DataW.trod enc P w 0 spare held fuel T [v]=some y) (hN:Rows.uptoBulk y.1≤N) :
  ∃ (l:List α) (c:C),Ls E c l∧l.length<9223372036854775808∧l.length≤N∧(∀ x∈l,Q x)∧R (cx0 (fun _ => False) w) c v:=by
 rcases DataW.trod_slice sl hf with ⟨h0,_⟩ | ⟨a,len',cap',elems,rest,n,_,h0,hy,_,hl,hm,hlen,hel,_⟩
 ·simp at h0
  subst h0
  exact ⟨[],.nilSl,.nil,by simp,by simp,(fun x h => by cases h),.nilSl⟩
 ·simp at h0
  subst h0
  have hm:cap'≤9223372036854775807:=hm
  have hb:Rows.uptoBulkAll (elems.map (·.1))≤N:=by
   rw [hy] at hN
   simp only [Rows.uptoBulk] at hN
   omega
  have hbl:=bulk_len (elems.map (·.1))
  rw [List.length_map] at hbl
  obtain ⟨ds,vs,l,h1,h2,h3,h4,h5,h6⟩:=els_genN (E:=E) (w:=w) (a:=a) (Q:=Q) len' (fun i hi => by
   have he:=hel i hi
   rw [List.getElem?_eq_getElem (by omega)] at he
   simp only [Option.bind_eq_some_iff] at he
   obtain ⟨cs,hcs,htr⟩:=he
   obtain ⟨ds,x,h1,h2,h3⟩:=el htr (Nat.le_trans (mL (List.mem_map_of_mem (List.getElem_mem _))) hb)
   obtain ⟨_,hn,hg⟩:=World.cells?_some hcs
   rw [hC] at hn
   refine ⟨ds,cs,x,h1,h2,hn,fun j v hj => ?_,h3⟩
   have hj':=(List.getElem?_eq_some_iff.1 hj).1
   have:=hg j (by omega)
   rw [addr_add_add,hC,hj] at this
   exact this)
  refine ⟨l,.imm l.length ds,.imm h2,by omega,by omega,h6,?_⟩
  rw [h1]
  exact .imm hl (fun j v hj => ⟨fun h => h.elim,h5 j v hj⟩) h3
theorem openN_term {t tr tl ti:TypeId} (tb:termB P t tr tl=true) (gK:twoB P tr 1 1 2 (isI64 P)=true) (sl:P.underlying tl=some (.slice ti)) (i0:P.underlying ti=some (.int .i64)) (hC:P.cellsOf ti=1):OpensN enc P w spare held N elT (fun x => x.2.length≤N) t:=fun {fuel cs y} h hN => by
 unfold termB at tb
 split at tb
 ·rename_i fs hfs
  split at tb
  ·rename_i f0 f1 hl
   simp only [Bool.and_eq_true] at tb
   obtain ⟨⟨⟨⟨⟨⟨b1,b2⟩,b3⟩,b4⟩,b5⟩,b6⟩,b7⟩:=tb
   have b1:=Nat.eq_of_beq_eq_true b1
   have b2:=Nat.eq_of_beq_eq_true b2
   have b3:=Nat.eq_of_beq_eq_true b3
   have b4:=Nat.eq_of_beq_eq_true b4
   have b5:=Nat.eq_of_beq_eq_true b5
   have b6:=Nat.eq_of_beq_eq_true b6
   have b7:=Nat.eq_of_beq_eq_true b7
   have e:fs=#[f0,f1]:=Array.toList_inj.1 hl
   subst e
   obtain ⟨xs,n,rfl,hx,hcl,hlen,hi⟩:=DataW.trod_struct hfs h
   rw [b5] at hcl
   have hlen:xs.length=2:=hlen
   match cs,hcl with
   | [c0,c1,c2],_ =>
    have h0:=hi 0 f0 rfl
    have h1:=hi 1 f1 rfl
    rw [List.getElem?_eq_getElem (by omega)] at h0 h1
    rw [b1,b3,b6] at h0
    rw [b2,b4,b7] at h1
    have h0:DataW.trod enc P w 0 spare held n tr [c0,c1]=_:=h0
    have h1:DataW.trod enc P w 0 spare held n tl [c2]=_:=h1
    obtain ⟨g0,g1,gs,o0,o1,k0,k1,gC,j0,j1⟩:=twoB_out gK
    obtain ⟨a,b,he⟩:=open_two gs o0 o1 k0 k1 gC (bP j0) (bP j1) h0
    simp only [List.cons.injEq,and_true] at he
    obtain ⟨rfl,rfl⟩:=he
    have hb:Rows.uptoBulk (xs[1]'(by omega)).1≤N:=by
     rw [hx] at hN
     simp only [Rows.uptoBulk] at hN
     have:=mL (List.mem_map_of_mem (f:=(·.1)) (List.getElem_mem (show 1<xs.length by omega)))
     omega
    obtain ⟨X,c,hX,hXl,hXN,_,rX⟩:=openN_slC (N:=N) (E:=elI) sl hC (Opens.any (opens_int i0)) h1 hb
    exact ⟨ratC (a,b)++[c],((a,b),X),⟨c,rfl,hX,hXl⟩,.cons (.int _ _) (.cons (.int _ _) (.cons rX .nil)),hXN⟩
  ·cases tb
 ·cases tb
theorem openN_many {Q:Tm→Prop} {t tl tt:TypeId} (tb:manyB P t tl=true) (sl:P.underlying tl=some (.slice tt)) (hC:P.cellsOf tt=3) (ht:OpensN enc P w spare held N elT Q tt):OpensN enc P w spare held N elM (fun p => ∀ t∈p,Q t) t:=fun {fuel cs y} h hN => by
 unfold manyB at tb
 split at tb
 ·rename_i fs hfs
  split at tb
  ·rename_i f0 hl
   simp only [Bool.and_eq_true] at tb
   obtain ⟨⟨⟨b1,b2⟩,b3⟩,b4⟩:=tb
   have b1:=Nat.eq_of_beq_eq_true b1
   have b2:=Nat.eq_of_beq_eq_true b2
   have b3:=Nat.eq_of_beq_eq_true b3
   have b4:=Nat.eq_of_beq_eq_true b4
   have e:fs=#[f0]:=Array.toList_inj.1 hl
   subst e
   obtain ⟨xs,n,rfl,hx,hcl,hlen,hi⟩:=DataW.trod_struct hfs h
   rw [b3] at hcl
   have hlen:xs.length=1:=hlen
   match cs,hcl with
   | [c0],_ =>
    have h0:=hi 0 f0 rfl
    rw [List.getElem?_eq_getElem (by omega)] at h0
    rw [b1,b2,b4] at h0
    have h0:DataW.trod enc P w 0 spare held n tl [c0]=_:=h0
    have hb:Rows.uptoBulk (xs[0]'(by omega)).1≤N:=by
     rw [hx] at hN
     simp only [Rows.uptoBulk] at hN
     have:=mL (List.mem_map_of_mem (f:=(·.1)) (List.getElem_mem (show 0<xs.length by omega)))
     omega
    obtain ⟨X,c,hX,hXl,_,hQ,rX⟩:=openN_slC (N:=N) (E:=elT) sl hC ht h0 hb
    exact ⟨[c],X,⟨c,rfl,hX,hXl⟩,.cons rX .nil,hQ⟩
  ·cases tb
 ·cases tb
theorem openN_slV {α:Type} {E:El α} {Q:α→Prop} {T t:TypeId} (sl:P.underlying T=some (.slice t)) (hC:P.cellsOf t=E.s) (el:OpensN enc P w spare held N E Q t) {r:Reach} {b0:Nat} {v:Value} {d:DataW H} {p:List MemPlace} (hv:Value.okWide P w r b0 T v) (h:DataW.Trod enc P w 0 spare held T v d p) (hN:Rows.uptoBulk d≤N) :
  ∃ (l:List α) (c:C),Ls E c l∧l.length<9223372036854775808∧l.length≤N∧(∀ x∈l,Q x)∧RV (cx0 (fun _ => False) w) (.c c) v:=by
 obtain ⟨a0,len,cap,rfl⟩:=okWide_slice sl hv
 obtain ⟨fuel,hf⟩:=h
 have hf:DataW.trod enc P w 0 spare held fuel T [.slice a0 len cap]=some (d,p):=by simpa [Value.cells] using hf
 obtain ⟨l,c,h1,h2,h3,h4,h5⟩:=openN_slC sl hC el hf hN
 exact ⟨l,c,h1,h2,h3,h4,.c h5⟩
end
theorem opensN_sys {H:Type} {enc:TypeId × Value→H} {w:World} {spare:Nat→Bool} {held:Bool} {N:Nat}:OpensN enc Tryz.prog w spare held N elM (fun p => ∀ t∈p,t.2.length≤N) nG :=
 openN_many many_one terms_sl (by kernel_rfl) (openN_term term_three gK ints_sl int_i64 (by kernel_rfl))
end Go.Proofs.YtokckcnfojjpjaaGreat

namespace Go.Proofs.YtokckcnfojjpjaaGreat
open Go.RowKit
set_option maxRecDepth 20000
def cmpI (a b:Int):Int:=if a<b then -1 else if b<a then 1 else 0
def lexI:List Int→List Int→Int
 | [],[] => 0
 | [],_ :: _ => -1
 | _ :: _,[] => 1
 | a :: l,b :: m => if a<b then -1 else if b<a then 1 else lexI l m
theorem lex_same {a:Int} {l m:List Int}:lexI (a :: l) (a :: m)=lexI l m:=by simp [lexI]
theorem lex_drop {X Y:List Int} {i:Nat} (h1:i<X.length) (h2:i<Y.length) (h:X[i]=Y[i]):lexI (X.drop i) (Y.drop i)=lexI (X.drop (i+1)) (Y.drop (i+1)):=by
 rw [List.drop_eq_getElem_cons h1,List.drop_eq_getElem_cons h2,h,lex_same]
theorem lex_diff {X Y:List Int} {i:Nat} (h1:i<X.length) (h2:i<Y.length) (h:cmpI X[i] Y[i]≠0):lexI (X.drop i) (Y.drop i)=cmpI X[i] Y[i]:=by
 rw [List.drop_eq_getElem_cons h1,List.drop_eq_getElem_cons h2]
 unfold cmpI at *
 simp only [lexI]
 by_cases a:X[i]<Y[i]
 ·simp [a]
 ·by_cases b:Y[i]<X[i]
  ·simp [a,b]
  ·simp [a,b] at h
theorem cmp_zero {a b:Int} (h:cmpI a b=0):a=b:=by
 unfold cmpI at h
 by_cases h1:a<b
 ·simp [h1] at h
 ·by_cases h2:b<a
  ·simp [h1,h2] at h
  ·omega
section
variable {α:Type} {E:El α}
theorem app_lsS {F R:Hp} {el:TypeId} {es bytes:Nat} {s x:Option V} {K:V→Hp→Prop} {c d:C} {out l:List α} {H:Hp} (hH:H=F++R) (ho:Out E el F.length (F++R) c out) (hs:s=some (.c c)) (hx:x=some (.c d)) (hd:Ls E d l) (he:E.s=es) (hl:(out.length+l.length)*bytes≤140737488355328∧out.length+l.length≤140737488355328)
  (k:∀ R' c',Out E el F.length (F++R') c' (out++l)→K (.c c') (F++R')):appX H el es bytes s x K:=by
 subst hH hs hx he
 obtain ⟨xs,hxs,hm,hxl,hxe⟩:∃ xs,tJ (F++R) E.s d=some xs∧slLen d=some l.length∧xs.length=l.length*E.s∧Els E xs l:=by
  cases hd with
  | nil => exact ⟨[],rfl,rfl,by simp,.nil⟩
  | @imm ds l h =>
   have h2:=h.len
   exact ⟨ds,by simp only [tJ]; rw [List.take_of_length_le (by omega)],rfl,h2,h⟩
 cases ho with
 | nil =>
  simp only [appX,hxs,hm]
  refine xL (by simp [hxl]) ?_
  rcases Nat.eq_zero_or_pos l.length with h0 | h0
  ·have:l=[]:=List.eq_nil_of_length_eq_zero h0
   subst this
   exact gS rfl (k _ _ .nil)
  ·refine jH (by cases hL:l.length; omega; rfl) (xL (by simp only [List.length_nil,Nat.zero_add] at hl; simp only [Bool.and_eq_true,yF]; exact hl) ?_)
   have:=k (R++[.live ⟨xs,el,.rw⟩]) (.sl (F++R).length 0 l.length none E.s) (.sl (cells:=xs) (ds:=xs) (by simp) (by rw [←List.append_assoc]; exact yL _ _) rfl (by simp only [List.nil_append]; exact List.take_of_length_le (by omega)) hxe)
   rw [←List.append_assoc] at this
   exact this
 | @sl b n co' cells ds l' hm' hb hn hc h =>
  subst hn
  have hdl:(cells.take (out.length*E.s)).length=out.length*E.s:=by rw [hc]; exact h.len
  have hle:out.length*E.s≤cells.length:=by
   rw [List.length_take] at hdl
   omega
  have hlt:=lt_of_getElem? hb
  refine app_sl (cs:=cells) (xs:=xs) (m:=l.length) rfl rfl hxs hm hxl hb hle hl.1 hl.2 ?_
  have e:(F++R).set b .dead=F++R.set (b - F.length) .dead:=List.set_append_right _ _ hm'
  have e':(F++R).length=(F++R.set (b - F.length) .dead).length:=by simp
  rw [e,e',List.append_assoc]
  refine k _ _ (.sl (cells:=cells.take (out.length*E.s)++xs) (ds:=ds++xs) (by simp) (by rw [←List.append_assoc]; exact yL _ _) (by simp) ?_ (h.append hxe))
  rw [hc]
  exact List.take_of_length_le (by rw [List.length_append,List.length_append,h.len,hxl,Nat.add_mul]; exact Nat.le_refl _)
end
attribute [local irreducible] yA semH semC qLen qNil qIad qSlc qIdx yW yN xB appX appI slcX awpF yQ xH xopF xN qval lval seqQ xI xY xW xT cnd arith IntKind.wrap
theorem cmp_isNaN_int (a:Int):semC Tryz.prog n_cmp_isNaN_int [i64 a] (fun u => u=.c (.bool false)):=by
 refine yD ok_cmp_isNaN_int rfl (show HFVs [i64 a] from ⟨trivial,trivial⟩) ?_
 refine go13 ?_
 rw [show yA Cm.neq a a=false by simp [yA]]
 exact ⟨_,.c (.hf trivial),rfl⟩
theorem cmp_Compare_int (a b:Int):semC Tryz.prog n_cmp_Compare_int [i64 a,i64 b] (IntK (cmpI a b)):=by
 refine yD ok_cmp_Compare_int rfl (show HFVs [i64 a,i64 b] from ⟨trivial,trivial,trivial⟩) ?_
 refine go13 ?_
 refine yB (cmp_isNaN_int a) (fun u hu => ?_)
 obtain rfl:=hu
 refine go13 ?_
 refine yB (cmp_isNaN_int b) (fun u hu => ?_)
 obtain rfl:=hu
 refine go13 ?_
 unfold cmpI
 cases h1:yA Cm.lss a b
 case true =>
  simp [yA] at h1
  rw [if_pos h1]
  refine go13 ?_
  exact IntK.fz
 simp [yA] at h1
 rw [if_neg (by omega)]
 refine go13 ?_
 cases h2:yA Cm.gtr a b
 case true =>
  simp [yA] at h2
  rw [if_pos h2]
  refine go13 ?_
  exact IntK.fz
 simp [yA] at h2
 rw [if_neg (by omega)]
 refine go13 ?_
 exact IntK.fz
theorem slices_Compare {c d:C} {X Y:List Int} (hc:Ls elI c X) (hd:Ls elI d Y) (hx:X.length<wD) (hy:Y.length<wD):semC Tryz.prog n_slices_Compare_sl_int_int [.c c,.c d] (IntK (lexI X Y)):=by
 unfold wD at hx hy
 refine yD ok_slices_Compare_sl_int_int rfl (show HFVs [.c c,.c d] from ⟨hc.hf,hd.hf,trivial⟩) ?_
 refine go13 ?_
 refine yR (fun w vs H => ∃ (i:Nat),vs=[.c c,.c d,.c c,i64 X.length,i64 i]∧w=X.length - i∧i≤X.length∧i≤Y.length∧lexI X Y=lexI (X.drop i) (Y.drop i)) (by rfl) ⟨0,rfl,rfl,by omega,by omega,rfl⟩ ?_
 rintro w vs H ⟨i,rfl,rfl,h1,h2,h3⟩
 refine go13 ?_
 cases hi:yA Cm.lss (i:Int) (X.length:Int)
 case false =>
  simp [yA] at hi
  have ei:i=X.length:=by omega
  refine go13 ?_
  cases hj:yA Cm.lss (X.length:Int) (Y.length:Int)
  case true =>
   simp [yA] at hj
   rw [h3,show lexI (X.drop i) (Y.drop i) = -1 by rw [List.drop_of_length_le (by omega),List.drop_eq_getElem_cons (show i<Y.length by omega)]; rfl]
   refine go13 ?_
   exact IntK.fz
  simp [yA] at hj
  rw [h3,show lexI (X.drop i) (Y.drop i)=0 by rw [List.drop_of_length_le (by omega),List.drop_of_length_le (by omega)]; rfl]
  refine go13 ?_
  exact IntK.fz
 simp [yA] at hi
 refine go13 ?_
 cases hj:yA Cm.geq (i:Int) (Y.length:Int)
 case true =>
  simp [yA] at hj
  rw [h3,show lexI (X.drop i) (Y.drop i)=1 by rw [show Y.drop i=[] from List.drop_of_length_le (by omega),List.drop_eq_getElem_cons hi]; rfl]
  refine go13 ?_
  exact IntK.fz
 simp [yA] at hj
 refine go13 ?_
 refine yB (cmp_Compare_int X[i] Y[i]) (fun u hu => ?_)
 obtain rfl:=hu
 refine go13 ?_
 cases hk:yA Cm.neq (cmpI X[i] Y[i]) 0
 case true =>
  simp [yA] at hk
  rw [h3,lex_diff hi (by omega) hk]
  refine go13 ?_
  exact IntK.fz
 simp [yA] at hk
 refine go13 ?_
 rw [yZ i (by omega)]
 exact l_n (by rfl) (n':=X.length - (i+1)) (by omega) ⟨i+1,rfl,rfl,by omega,by omega,h3.trans (lex_drop hi (by omega) (cmp_zero hk))⟩
theorem step_Check_1 (a:Int):semC Tryz.prog n_step_Check_1 [i64 a] (fun u => u=.c (.bool (yA Cm.lss a 0))):=by
 refine yD ok_step_Check_1 rfl (show HFVs [i64 a] from ⟨trivial,trivial⟩) ?_
 refine go13 ?_
 exact ⟨_,.c (.hf trivial),rfl⟩
theorem slices_IndexFunc {c:C} {X:List Int} (hc:Ls elI c X) (hx:X.length<wD):semC Tryz.prog n_slices_IndexFunc_sl_int_int [.c c,.c (.fn n_step_Check_1 [])] (fun u => ∃ n:Int,u=i64 n∧(0≤n↔∃ k∈X,k<0)):=by
 unfold wD at hx
 refine yD ok_slices_IndexFunc_sl_int_int rfl (show HFVs [.c c,.c (.fn n_step_Check_1 [])] from ⟨hc.hf,⟨trivial,trivial⟩⟩) ?_
 refine go13 ?_
 refine yR (fun w vs H => ∃ (i:Nat),vs=[.c c,.c (.fn n_step_Check_1 []),i64 X.length,i64 i]∧w=X.length - i∧i≤X.length∧∀ k∈X.take i,¬ k<0) (by rfl) ⟨0,rfl,rfl,by omega,by simp⟩ ?_
 rintro w vs H ⟨i,rfl,rfl,h1,h2⟩
 refine go13 ?_
 cases hi:yA Cm.lss (i:Int) (X.length:Int)
 case false =>
  simp [yA] at hi
  rw [List.take_of_length_le (by omega)] at h2
  refine go13 ?_
  exact ⟨_,.c (.hf trivial),-1,rfl,fun h => absurd h (by decide),fun ⟨k,hk,h⟩ => absurd h (h2 k hk)⟩
 simp [yA] at hi
 refine go13 ?_
 refine yB (step_Check_1 X[i]) (fun u hu => ?_)
 obtain rfl:=hu
 refine go13 ?_
 cases hn:yA Cm.lss X[i] 0
 case true =>
  simp [yA] at hn
  refine go13 ?_
  exact ⟨_,.c (.hf trivial),i,rfl,fun _ => ⟨X[i],xZ hi,hn⟩,fun _ => by omega⟩
 simp [yA] at hn
 refine go13 ?_
 rw [yZ i (by omega)]
 refine l_n (by rfl) (n':=X.length - (i+1)) (by omega) ⟨i+1,rfl,rfl,by omega,fun k hk => ?_⟩
 rw [xU hi] at hk
 rcases List.mem_append.1 hk with hk | hk
 ·exact h2 k hk
 ·simp at hk
  subst hk
  omega
theorem slices_Contains {c:C} {X:List Int} (hc:Ls elI c X) (hx:X.length<wD):semC Tryz.prog n_slices_ContainsFunc_sl_int_int [.c c,.c (.fn n_step_Check_1 [])] (uC (∃ k∈X,k<0)):=by
 refine yD ok_slices_ContainsFunc_sl_int_int rfl (show HFVs [.c c,.c (.fn n_step_Check_1 [])] from ⟨hc.hf,⟨trivial,trivial⟩⟩) ?_
 refine go13 ?_
 refine yB (slices_IndexFunc hc hx) (fun u hu => ?_)
 obtain ⟨n,rfl,hn⟩:=hu
 refine go13 ?_
 cases h:yA Cm.geq n 0
 ·simp [yA] at h
  exact ⟨_,.c (.hf trivial),false,rfl,⟨fun h2 => (by cases h2),fun h2 => by have:=hn.2 h2; omega⟩⟩
 ·simp [yA] at h
  exact ⟨_,.c (.hf trivial),true,rfl,⟨fun _ => hn.1 h,fun _ => rfl⟩⟩
end Go.Proofs.YtokckcnfojjpjaaGreat

namespace Go.Proofs.YtokckcnfojjpjaaGreat
open Go.RowKit
set_option maxRecDepth 20000
def sumP:List Int→Int
 | [] => 0
 | x :: r => (if 0<x then x else 0)+sumP r
def cut13 (x:Int):Int:=if (if (13:Int)<x then 13 else x) > 0 then (if (13:Int)<x then 13 else x) else 0
def sZ:List Int→Int
 | [] => 0
 | x :: r => cut13 x+sZ r
theorem cut_bd (x:Int):0≤cut13 x∧cut13 x≤13:=by unfold cut13; split <;> split <;> omega
theorem sum13_append:∀ (l m:List Int),sZ (l++m)=sZ l+sZ m
 | [],m => by simp [sZ]
 | x :: l,m => by simp only [List.cons_append,sZ,sum13_append l m]; omega
theorem sum13_bd:∀ (l:List Int),0≤sZ l∧sZ l≤13*l.length
 | [] => by simp [sZ]
 | x :: l => by
  have:=sum13_bd l
  have:=cut_bd x
  simp only [sZ,List.length_cons]
  omega
theorem nJ:∀ (l:List Int),0≤sumP l
 | [] => by simp [sumP]
 | x :: l => by
  have:=nJ l
  simp only [sumP]
  split <;> omega
theorem sum13_le:∀ (l:List Int),sZ l≤sumP l∧(sZ l≤12→sZ l=sumP l)
 | [] => by simp [sZ,sumP]
 | x :: l => by
  have h:=sum13_le l
  have h0:=(sum13_bd l).1
  have h1:=nJ l
  have h2:=cut_bd x
  have h3:cut13 x≤(if 0<x then x else 0)∧(cut13 x≤12→cut13 x=if 0<x then x else 0):=by
   unfold cut13
   (repeat' split) <;> omega
  simp only [sZ,sumP]
  refine ⟨by omega,fun h4 => ?_⟩
  have:=h.2 (by omega)
  have:=h3.2 (by omega)
  omega
theorem sum13_gt {l:List Int} {m:Int} (hm:m≤12):m<sZ l↔m<sumP l:=by
 have h:=sum13_le l
 constructor
 ·intro; omega
 ·intro h1
  by_cases h2:sZ l≤12
  ·have:=h.2 h2; omega
  ·omega
theorem sum13_take {l:List Int} {i:Nat} (h:i<l.length):sZ (l.take (i+1))=sZ (l.take i)+cut13 l[i]:=by
 rw [xU h,sum13_append]
 simp [sZ]
def WideT (cubic:Bool) (t:Tm):Prop:=12<sumP t.2∨(cubic=true∧3<sumP (t.2.take (t.2.length - 1)))
def WideP (cubic:Bool) (p:Pl):Prop:=60<p.length∨∃ t∈p,WideT cubic t
def BadT (u:Int) (t:Tm):Prop:=(t.2.length:Int)≠u∨¬ wE t.1.1 t.1.2∨t.1.1=0∨∃ k∈t.2,k<0
def BadAt (u:Int) (p:Pl) (i:Nat):Prop:=∃ h:i<p.length,BadT u p[i]∨(0<i∧lexI (p[i - 1]'(by omega)).2 p[i].2≤0)
def BadP (u:Int) (p:Pl):Prop:=∃ i,BadAt u p i
noncomputable def sysE (least u:Int) (cubic:Bool) (f:List Pl):Int :=
 bif dec ((f.length:Int)<least∨3<f.length) then 1 else bif dec (∃ p∈f,WideP cubic p) then 3 else bif dec (∃ p∈f,BadP u p) then 1 else 0
def qY (f:List Pl):Prop:=∀ p∈f,∀ t∈p,t.2.length<1099511627776
def jW (least u:Int) (cubic:Bool) (f:List Pl) (v:V):Prop:=∃ e:Int,v=i64 e∧(qY f→e=sysE least u cubic f)∧(e=0→qY f)∧0≤e∧e≤3
section
variable {least u:Int} {cubic:Bool} {f:List Pl}
theorem hU (h:(f.length:Int)<least∨3<f.length):sysE least u cubic f=1:=by
 unfold sysE
 rw [yF.2 h]
 rfl
theorem bU (h:¬ ((f.length:Int)<least∨3<f.length)) (h2:∃ p∈f,WideP cubic p):sysE least u cubic f=3:=by
 unfold sysE
 rw [yG.2 h,yF.2 h2]
 rfl
theorem sys_bad (h:¬ ((f.length:Int)<least∨3<f.length)) (h2:¬ ∃ p∈f,WideP cubic p) (h3:∃ p∈f,BadP u p):sysE least u cubic f=1:=by
 unfold sysE
 rw [yG.2 h,yG.2 h2,yF.2 h3]
 rfl
theorem sys_ok (h:¬ ((f.length:Int)<least∨3<f.length)) (h2:¬ ∃ p∈f,WideP cubic p) (h3:¬ ∃ p∈f,BadP u p):sysE least u cubic f=0:=by
 unfold sysE
 rw [yG.2 h,yG.2 h2,yG.2 h3]
 rfl
theorem sys_zero (h:sysE least u cubic f=0):¬ ((f.length:Int)<least∨3<f.length)∧(¬ ∃ p∈f,WideP cubic p)∧¬ ∃ p∈f,BadP u p:=by
 by_cases h1:(f.length:Int)<least∨3<f.length
 ·rw [hU h1] at h; cases h
 by_cases h2:∃ p∈f,WideP cubic p
 ·rw [bU h1 h2] at h; cases h
 by_cases h3:∃ p∈f,BadP u p
 ·rw [sys_bad h1 h2 h3] at h; cases h
 exact ⟨h1,h2,h3⟩
theorem jW.of {e:Int} {H:Hp} (h1:qY f→e=sysE least u cubic f) (h2:e=0→qY f) (h3:0≤e∧e≤3):∃ d,FzV H (i64 e) d∧jW least u cubic f d:=⟨_,.c (.hf trivial),e,rfl,h1,h2,h3⟩
end
theorem ld_tx {c:C} {l:List Tm} {n i:Nat} {K:V→Prop} (hc:Ls elT c l) (hi:i<l.length) (hn:n=i) (k:∀ d,Ls elI d l[i].2→l[i].2.length<wD→K (.c d)):yN ((c.ds.drop (n*3)).drop 2) false 1 K:=by
 subst hn
 obtain ⟨cs,r,⟨d,rfl,h1,h2⟩,h⟩:=hc.els.get hi
 have h:c.ds.drop (n*3)=(ratC l[n].1++[d])++r:=h
 rw [h]
 exact k d h1 h2
theorem add13 {X:List Int} {s:Int} {k:Nat} (hk:k<X.length) (h:X.length<1099511627776→s=sZ (X.take k)):X.length<1099511627776→arith .add .i64 s (cut13 X[k])=sZ (X.take (k+1)):=fun hl => by
 rw [sum13_take hk,h hl,xC]
 have:=sum13_bd (X.take k)
 have:=cut_bd X[k]
 have:(X.take k).length≤X.length:=by rw [List.length_take]; omega
 exact yI (by omega) (by omega)
theorem subI1' {n:Nat} (h:n<9223372036854775808):arith .sub .i64 (n:Int) 1=(n:Int) - 1:=by
 rw [wZ]
 exact yI (by omega) (by omega)
attribute [local irreducible] yA semH semC qLen qNil qIad qSlc qIdx yW yN xB appX appI slcX awpF yQ xH xopF xN qval lval seqQ xI xY xW xT cnd arith IntKind.wrap
theorem step_Check {c:C} {f:List Pl} (least u:Int) (cubic:Bool) (hc:Ls elM c f) (hf:f.length<wD) (hu:f.length≤3→u<1099511627776):semC Tryz.prog n_step_Check [.c c,i64 least,i64 u,.c (.bool cubic)] (jW least u cubic f):=by
 unfold wD at hf
 refine yD ok_step_Check rfl (show HFVs [.c c,i64 least,i64 u,.c (.bool cubic)] from ⟨hc.hf,trivial,trivial,trivial,trivial⟩) ?_
 refine go13 ?_
 cases h1:yA Cm.lss (f.length:Int) least
 case true =>
  simp [yA] at h1
  refine go13 ?_
  exact jW.of (fun _ => (hU (.inl h1)).symm) (fun h => absurd h (by decide)) (by decide)
 simp [yA] at h1
 refine go13 ?_
 cases h2:yA Cm.gtr (f.length:Int) 3
 case true =>
  simp [yA] at h2
  refine go13 ?_
  exact jW.of (fun _ => (hU (.inr (by omega))).symm) (fun h => absurd h (by decide)) (by decide)
 simp [yA] at h2
 have hcount:¬ ((f.length:Int)<least∨3<f.length):=by omega
 have hu:=hu (by omega)
 refine go13 ?_
 refine yR (fun w vs H => ∃ (i:Nat),vs=[.c c,i64 u,.c (.bool cubic),.c c,i64 f.length,i64 i]∧w=f.length - i∧i≤f.length∧(qY f→∀ p∈f.take i,¬ WideP cubic p)) (by rfl) ⟨0,rfl,rfl,by omega,fun _ => by simp⟩ ?_
 rintro w vs H ⟨i,rfl,rfl,i1,i2⟩
 refine go13 ?_
 cases hi:yA Cm.lss (i:Int) (f.length:Int)
 case false =>
  simp [yA] at hi
  rw [List.take_of_length_le (by omega)] at i2
  clear i1
  refine go13 ?_
  have hnw:qY f→¬ ∃ p∈f,WideP cubic p:=fun hS ⟨p,hp,h⟩ => i2 hS p hp h
  refine yR (fun w vs H => ∃ (i:Nat),vs=[i64 u,.c c,i64 f.length,i64 i]∧w=f.length - i∧i≤f.length∧∀ p∈f.take i,¬ BadP u p) (by rfl) ⟨0,rfl,rfl,by omega,by simp⟩ ?_
  clear hi i2
  rintro w vs H ⟨i,rfl,rfl,i1,i2⟩
  refine go13 ?_
  cases hi:yA Cm.lss (i:Int) (f.length:Int)
  case false =>
   simp [yA] at hi
   rw [List.take_of_length_le (by omega)] at i2
   have hS:qY f:=fun p hp t ht => by
    obtain ⟨j,hj,rfl⟩:=List.getElem_of_mem ht
    have h:¬ BadT u p[j]:=fun h => i2 p hp ⟨j,hj,.inl h⟩
    have:(p[j].2.length:Int)=u:=Classical.byContradiction fun h2 => h (.inl h2)
    omega
   refine go13 ?_
   exact jW.of (fun hS => (sys_ok hcount (hnw hS) (fun ⟨p,hp,h⟩ => i2 p hp h)).symm) (fun _ => hS) (by decide)
  simp [yA] at hi
  have bad:∀ {j:Nat},BadAt u f[i] j→qY f→(1:Int)=sysE least u cubic f:=fun h hS => (sys_bad hcount (hnw hS) ⟨f[i],xZ hi,_,h⟩).symm
  refine go13 ?_
  refine uA hc (i:=i) hi (by omega) rfl (fun cs hcs => ?_)
  obtain ⟨d,rfl,hd,hdl⟩:=hcs
  unfold wD at hdl
  refine go13 ?_
  refine goN ?_
  refine yR (fun w vs H' => ∃ (j:Nat) (S:Hp),vs=[i64 u,.c (.ptr H.length 0),.c c,i64 f.length,i64 i,.c d,i64 f[i].length,i64 j]∧H'=H++.live ⟨[d],nG,.rw⟩ :: S∧w=f[i].length - j∧j≤f[i].length∧∀ a,a<j→¬ BadAt u f[i] a) (by rfl) ⟨0,[],rfl,rfl,rfl,by omega,fun a h => by omega⟩ ?_
  rintro w vs H' ⟨j,S,rfl,rfl,rfl,j1,j2⟩
  refine go13 ?_
  cases hj:yA Cm.lss (j:Int) (f[i].length:Int)
  case false =>
   simp [yA] at hj
   refine go13 ?_
   rw [yZ i (by omega)]
   refine l_n (by rfl) (n':=f.length - (i+1)) (by omega) ⟨i+1,rfl,rfl,by omega,fun p hp => ?_⟩
   rw [xU hi] at hp
   rcases List.mem_append.1 hp with hp | hp
   ·exact i2 p hp
   ·simp at hp
    subst hp
    rintro ⟨a,ha⟩
    obtain ⟨hl,_⟩:=id ha
    exact j2 a (by omega) ha
  simp [yA] at hj
  refine go13 ?_
  refine uA hd (i:=j) hj (by omega) rfl (fun cs hcs => ?_)
  obtain ⟨e,rfl,he,hel⟩:=hcs
  refine go13 ?_
  cases c1:yA Cm.neq (f[i][j].2.length:Int) u
  case true =>
   simp [yA] at c1
   refine go13 ?_
   exact jW.of (bad ⟨hj,.inl (.inl c1)⟩) (fun h => absurd h (by decide)) (by decide)
  simp [yA] at c1
  refine go13 ?_
  refine yB (num_Valid f[i][j].1.1 f[i][j].1.2) (fun u hu => ?_)
  obtain ⟨z1,rfl,hz1⟩:=hu
  cases z1
  case false =>
   refine go13 ?_
   exact jW.of (bad ⟨hj,.inl (.inr (.inl fun h => by cases hz1.2 h))⟩) (fun h => absurd h (by decide)) (by decide)
  have hz1:=hz1.1 rfl
  refine go13 ?_
  cases c2:yA Cm.eql f[i][j].1.1 0
  case true =>
   simp [yA] at c2
   refine go13 ?_
   exact jW.of (bad ⟨hj,.inl (.inr (.inr (.inl c2)))⟩) (fun h => absurd h (by decide)) (by decide)
  simp [yA] at c2
  refine go13 ?_
  refine yB (slices_Contains he hel) (fun u hu => ?_)
  obtain ⟨z2,rfl,hz2⟩:=hu
  cases z2
  case true =>
   refine go13 ?_
   exact jW.of (bad ⟨hj,.inl (.inr (.inr (.inr (hz2.1 rfl))))⟩) (fun h => absurd h (by decide)) (by decide)
  have hgood:¬ BadT u f[i][j]:=by
   rintro (h | h | h | h)
   ·exact h c1
   ·exact h hz1
   ·exact c2 h
   ·cases hz2.2 h
  refine go13 ?_
  cases c3:yA Cm.gtr (j:Int) 0
  case false =>
   simp [yA] at c3
   refine go13 ?_
   rw [yZ j (by omega)]
   refine l_n (by rfl) (n':=f[i].length - (j+1)) (by omega) ⟨j+1,_,rfl,by rw [List.append_assoc]; rfl,rfl,by omega,fun a ha => ?_⟩
   rcases Nat.lt_or_ge a j with h | h
   ·exact j2 a h
   ·have:a=j:=by omega
    subst this
    rintro ⟨_,h | ⟨h,_⟩⟩
    ·exact hgood h
    ·omega
  simp [yA] at c3
  refine go13 ?_
  rw [jK j (by omega) (by omega)]
  refine go13 ?_
  refine ld_tx hd (i:=j - 1) (by omega) (by omega) (fun g hg hgl => ?_)
  refine go13 ?_
  refine yH (slices_Compare hg he hgl hel) (fun u hu => ?_)
  obtain rfl:=hu
  refine go13 ?_
  cases c4:yA Cm.leq (lexI f[i][j - 1].2 f[i][j].2) 0
  case true =>
   simp [yA] at c4
   refine go13 ?_
   exact jW.of (bad ⟨hj,.inr ⟨by omega,c4⟩⟩) (fun h => absurd h (by decide)) (by decide)
  simp [yA] at c4
  refine go13 ?_
  rw [yZ j (by omega)]
  refine l_n (by rfl) (n':=f[i].length - (j+1)) (by omega) ⟨j+1,_,rfl,by rw [List.append_assoc]; rfl,rfl,by omega,fun a ha => ?_⟩
  rcases Nat.lt_or_ge a j with h | h
  ·exact j2 a h
  ·have:a=j:=by omega
   subst this
   rintro ⟨_,h | ⟨_,h⟩⟩
   ·exact hgood h
   ·omega
 simp [yA] at hi
 refine go13 ?_
 refine uA hc (i:=i) hi (by omega) rfl (fun cs hcs => ?_)
 obtain ⟨d,rfl,hd,hdl⟩:=hcs
 unfold wD at hdl
 refine go13 ?_
 cases h3:yA Cm.gtr (f[i].length:Int) 60
 case true =>
  simp [yA] at h3
  refine go13 ?_
  exact jW.of (fun _ => (bU hcount ⟨f[i],xZ hi,.inl (by omega)⟩).symm) (fun h => absurd h (by decide)) (by decide)
 simp [yA] at h3
 refine go13 ?_
 refine yR (fun w vs H => ∃ (j:Nat),vs=[.c c,i64 u,.c (.bool cubic),.c c,i64 f.length,i64 i,.c d,i64 f[i].length,i64 j]∧w=f[i].length - j∧j≤f[i].length∧(qY f→∀ t∈f[i].take j,¬ WideT cubic t)) (by rfl) ⟨0,rfl,rfl,by omega,fun _ => by simp⟩ ?_
 rintro w vs H ⟨j,rfl,rfl,j1,j2⟩
 refine go13 ?_
 cases hj:yA Cm.lss (j:Int) (f[i].length:Int)
 case false =>
  simp [yA] at hj
  rw [List.take_of_length_le (by omega)] at j2
  refine go13 ?_
  rw [yZ i (by omega)]
  refine l_n (by rfl) (n':=f.length - (i+1)) (by omega) ⟨i+1,rfl,rfl,by omega,fun hS p hp => ?_⟩
  rw [xU hi] at hp
  rcases List.mem_append.1 hp with hp | hp
  ·exact i2 hS p hp
  ·simp at hp
   subst hp
   rintro (h | ⟨t,ht,h⟩)
   ·omega
   ·exact j2 hS t ht h
 simp [yA] at hj
 refine go13 ?_
 refine uA hd (i:=j) hj (by omega) rfl (fun cs hcs => ?_)
 obtain ⟨e,rfl,he,hel⟩:=hcs
 unfold wD at hel
 refine go13 ?_
 refine goN ?_
 refine yR (fun w vs H' => ∃ (k:Nat) (s o:Int),vs=[.c c,i64 u,.c (.bool cubic),.c (.ptr H.length 0),i64 s,i64 o,.c c,i64 f.length,i64 i,.c d,i64 f[i].length,i64 j,.c e,i64 f[i][j].2.length,i64 k]∧H'=H++[.live ⟨[iC f[i][j].1.1,iC f[i][j].1.2,e],jC,.rw⟩]∧w=f[i][j].2.length - k∧k≤f[i][j].2.length∧(f[i][j].2.length<1099511627776→s=sZ (f[i][j].2.take k))∧(f[i][j].2.length<1099511627776→o=sZ (f[i][j].2.take (min k (f[i][j].2.length - 1))))) (by rfl) ⟨0,0,0,rfl,rfl,rfl,by omega,fun _ => by simp [sZ],fun _ => by simp [sZ]⟩ ?_
 rintro w vs H' ⟨k,s,o,rfl,rfl,rfl,k1,k2,k3⟩
 refine go13 ?_
 cases hk:yA Cm.lss (k:Int) (f[i][j].2.length:Int)
 case false =>
  simp [yA] at hk
  have ek:k=f[i][j].2.length:=by omega
  rw [List.take_of_length_le (by omega)] at k2
  rw [show min k (f[i][j].2.length - 1)=f[i][j].2.length - 1 by omega] at k3
  have hsm:qY f→s=sZ f[i][j].2∧o=sZ (f[i][j].2.take (f[i][j].2.length - 1)):=fun hS => by
   have:=hS f[i] (xZ hi) f[i][j] (xZ hj)
   exact ⟨k2 this,k3 this⟩
  refine go13 ?_
  cases h4:yA Cm.gtr s 12
  case true =>
   simp [yA] at h4
   refine go13 ?_
   refine jW.of (fun hS => (bU hcount ⟨f[i],xZ hi,.inr ⟨f[i][j],xZ hj,.inl ?_⟩⟩).symm) (fun h => absurd h (by decide)) (by decide)
   rw [(hsm hS).1] at h4
   exact (sum13_gt (by decide)).1 h4
  simp [yA] at h4
  refine go13 ?_
  cases cubic
  case false =>
   refine go13 ?_
   rw [yZ j (by omega)]
   refine l_n (by rfl) (n':=f[i].length - (j+1)) (by omega) ⟨j+1,rfl,rfl,by omega,fun hS t ht => ?_⟩
   rw [xU hj] at ht
   rcases List.mem_append.1 ht with ht | ht
   ·exact j2 hS t ht
   ·simp at ht
    subst ht
    rintro (h | ⟨h,_⟩)
    ·have:=(sum13_gt (m:=12) (by decide)).2 h
     rw [←(hsm hS).1] at this
     omega
    ·cases h
  refine go13 ?_
  cases h5:yA Cm.gtr o 3
  case true =>
   simp [yA] at h5
   refine go13 ?_
   refine jW.of (fun hS => (bU hcount ⟨f[i],xZ hi,.inr ⟨f[i][j],xZ hj,.inr ⟨rfl,?_⟩⟩⟩).symm) (fun h => absurd h (by decide)) (by decide)
   rw [(hsm hS).2] at h5
   exact (sum13_gt (by decide)).1 h5
  simp [yA] at h5
  refine go13 ?_
  rw [yZ j (by omega)]
  refine l_n (by rfl) (n':=f[i].length - (j+1)) (by omega) ⟨j+1,rfl,rfl,by omega,fun hS t ht => ?_⟩
  rw [xU hj] at ht
  rcases List.mem_append.1 ht with ht | ht
  ·exact j2 hS t ht
  ·simp at ht
   subst ht
   rintro (h | ⟨_,h⟩)
   ·have:=(sum13_gt (m:=12) (by decide)).2 h
    rw [←(hsm hS).1] at this
    omega
   ·have:=(sum13_gt (m:=3) (by decide)).2 h
    rw [←(hsm hS).2] at this
    omega
 simp [yA] at hk
 have ka:=add13 hk k2
 refine go13 ?_
 rw [subI1' (by omega)]
 cases hq:yA Cm.lss (k:Int) ((f[i][j].2.length:Int) - 1)
 case true =>
  simp [yA] at hq
  refine go13 ?_
  rw [yZ k (by omega)]
  refine l_n (by rfl) (n':=f[i][j].2.length - (k+1)) (by omega) ⟨k+1,_,_,rfl,rfl,rfl,by omega,ka,?_⟩
  rw [show min (k+1) (f[i][j].2.length - 1)=k+1 by omega]
  exact ka
 simp [yA] at hq
 refine go13 ?_
 rw [yZ k (by omega)]
 refine l_n (by rfl) (n':=f[i][j].2.length - (k+1)) (by omega) ⟨k+1,_,_,rfl,rfl,rfl,by omega,ka,?_⟩
 rw [show min (k+1) (f[i][j].2.length - 1)=min k (f[i][j].2.length - 1) by omega]
 exact k3
end Go.Proofs.YtokckcnfojjpjaaGreat

namespace Go.Proofs.YtokckcnfojjpjaaGreat
open Go.RowKit
set_option maxRecDepth 20000
def Cap (D B:Nat) (q:Rat):Prop:=∃ n:Int,q*(D:Rat)=(n:Rat)∧n.natAbs≤B*D
theorem Cap.mul {D E B C:Nat} {q r:Rat} (h1:Cap D B q) (h2:Cap E C r):Cap (D*E) (B*C) (q*r):=by
 obtain ⟨n,h1,h3⟩:=h1
 obtain ⟨m,h2,h4⟩:=h2
 refine ⟨n*m,?_,?_⟩
 ·push_cast
  rw [←h1,←h2]
  grind
 ·rw [Int.natAbs_mul]
  calc n.natAbs*m.natAbs≤(B*D)*(C*E):=Nat.mul_le_mul h3 h4
   _=B*C*(D*E):=by rw [Nat.mul_mul_mul_comm]
theorem Cap.add {D B C:Nat} {q r:Rat} (h1:Cap D B q) (h2:Cap D C r):Cap D (B+C) (q+r):=by
 obtain ⟨n,h1,h3⟩:=h1
 obtain ⟨m,h2,h4⟩:=h2
 refine ⟨n+m,?_,?_⟩
 ·push_cast
  rw [←h1,←h2]
  grind
 ·rw [Nat.add_mul]
  omega
theorem Cap.neg {D B:Nat} {q:Rat} (h:Cap D B q):Cap D B (-q):=by
 obtain ⟨n,h1,h3⟩:=h
 refine ⟨-n,?_,by rwa [Int.natAbs_neg]⟩
 push_cast
 rw [←h1]
 grind
theorem Cap.sub {D B C:Nat} {q r:Rat} (h1:Cap D B q) (h2:Cap D C r):Cap D (B+C) (q - r):=by
 have:=h1.add h2.neg
 rwa [←Rat.sub_eq_add_neg] at this
theorem Cap.dvd {D E B:Nat} {q:Rat} (h:Cap D B q) (hd:D ∣ E):Cap E B q:=by
 obtain ⟨n,h1,h3⟩:=h
 obtain ⟨k,rfl⟩:=hd
 refine ⟨n*k,?_,?_⟩
 ·push_cast
  rw [←h1]
  grind
 ·rw [Int.natAbs_mul,Int.natAbs_natCast,←Nat.mul_assoc]
  exact Nat.mul_le_mul_right k h3
theorem Cap.mono {D B C:Nat} {q:Rat} (h:Cap D B q) (hb:B≤C):Cap D C q:=by
 obtain ⟨n,h1,h3⟩:=h
 exact ⟨n,h1,Nat.le_trans h3 (Nat.mul_le_mul_right D hb)⟩
theorem Cap.int {D:Nat} (z:Int):Cap D z.natAbs (z:Rat):=⟨z*D,by push_cast; rfl,by rw [Int.natAbs_mul,Int.natAbs_natCast]; exact Nat.le_refl _⟩
theorem Cap.one {D:Nat}:Cap D 1 1:=Cap.int 1
theorem Cap.zero {D B:Nat}:Cap D B 0:=⟨0,by simp,by simp⟩
theorem Cap.pow {D B:Nat} {q:Rat} (h:Cap D B q):∀ n:Nat,Cap (D ^ n) (B ^ n) (q ^ n)
 | 0 => by
  rw [Nat.pow_zero,Nat.pow_zero,Rat.pow_zero]
  exact Cap.one
 | n+1 => by
  rw [Nat.pow_succ,Nat.pow_succ,Rat.pow_succ]
  exact (Cap.pow h n).mul h
theorem Cap.rat {p:R2} (h:wE p.1 p.2):Cap p.2.natAbs 1000000000000 (rt p):=by
 obtain ⟨h1,h2,h3,h4,h5⟩:=h
 have e:((p.2.natAbs:Nat):Int)=p.2:=by omega
 have e2:((p.2.natAbs:Nat):Rat)=(p.2:Rat):=by
  rw [←Rat.intCast_natCast,e]
 refine ⟨p.1,?_,?_⟩
 ·rw [e2]
  unfold rt
  rw [Rat.divInt_eq_div]
  have:(p.2:Rat)≠0:=by
   intro h
   have:p.2=0:=by exact_mod_cast h
   omega
  rw [Rat.div_mul_cancel this]
 ·have:1≤p.2.natAbs:=by omega
  calc p.1.natAbs≤1000000000000*1:=by omega
   _≤1000000000000*p.2.natAbs:=Nat.mul_le_mul_left _ this
theorem sz_lt {n:Int} {k e:Nat} (h:n.natAbs≤2 ^ e) (he:e<32*k):Sz k n:=by
 unfold Sz
 calc n.natAbs≤2 ^ e:=h
  _<2 ^ (32*k):=Nat.pow_lt_pow_right (by decide) he
  _=4294967296 ^ k:=by rw [Nat.pow_mul]
theorem bd_divS {n d:Int} {q:Rat} {k:Nat} (hd:d≠0) (e:Rat.divInt n d=q) (h1:Sz k n) (h2:Sz k d):Bd k (rp q):=by
 have hdq:((q.den:Nat):Int)≠0:=by exact_mod_cast q.den_nz
 have e2:q.num*d=n*(q.den:Int):=by
  have:Rat.divInt q.num q.den=Rat.divInt n d:=by rw [e]; exact Rat.num_divInt_den q
  exact (Rat.divInt_eq_divInt_iff hdq hd).1 this
 have e3:q.num.natAbs*d.natAbs=n.natAbs*q.den:=by
  have:=congrArg Int.natAbs e2
  rwa [Int.natAbs_mul,Int.natAbs_mul,Int.natAbs_natCast] at this
 have c:=q.reduced
 have hd':0<d.natAbs:=Int.natAbs_pos.2 hd
 have l1:q.num.natAbs≤n.natAbs:=by
  rcases Nat.eq_zero_or_pos n.natAbs with h0 | h0
  ·rw [h0,Nat.zero_mul] at e3
   rcases Nat.mul_eq_zero.1 e3 with h | h
   ·omega
   ·omega
  ·exact Nat.le_of_dvd h0 (c.dvd_of_dvd_mul_right ⟨d.natAbs,e3.symm⟩)
 have l2:q.den≤d.natAbs:=Nat.le_of_dvd hd' (c.symm.dvd_of_dvd_mul_left ⟨n.natAbs,by rw [e3,Nat.mul_comm]⟩)
 exact ⟨Nat.lt_of_le_of_lt l1 h1,Nat.lt_of_le_of_lt (by simpa [rp] using l2) h2,bW q⟩
theorem Cap.bd {D d b k:Nat} {q:Rat} (h:Cap D (2 ^ b) q) (h0:0<D) (h1:D≤2 ^ d) (h2:b+d<32*k):Bd k (rp q):=by
 obtain ⟨n,h3,h4⟩:=h
 have hD:(D:Rat)≠0:=by
  intro h
  have:D=0:=by exact_mod_cast h
  omega
 refine bd_divS (n:=n) (d:=(D:Int)) (by omega) ?_ (sz_lt (e:=b+d) ?_ h2) (sz_lt (e:=b+d) ?_ h2)
 ·rw [Rat.divInt_eq_div,←h3]
  rw [Rat.intCast_natCast,Rat.mul_div_cancel hD]
 ·rw [Nat.pow_add]
  exact Nat.le_trans h4 (Nat.mul_le_mul_left _ h1)
 ·rw [Int.natAbs_natCast]
  exact Nat.le_trans h1 (Nat.pow_le_pow_right (by decide) (by omega))
def CpL (n:Nat) (l:List Rat):Prop:=∃ D,0<D∧D≤2 ^ n∧∀ q∈l,Cap D (2 ^ n) q
theorem CpL.bd {n k:Nat} {l:List Rat} (h:CpL n l) (hk:n+n<32*k) {q:Rat} (hq:q∈l):Bd k (rp q):=by
 obtain ⟨D,h1,h2,h3⟩:=h
 exact (h3 q hq).bd h1 h2 hk
theorem CpL.mono {n m:Nat} {l:List Rat} (h:CpL n l) (hm:n≤m):CpL m l:=by
 obtain ⟨D,h1,h2,h3⟩:=h
 have:=Nat.pow_le_pow_right (show 0<2 by decide) hm
 exact ⟨D,h1,Nat.le_trans h2 this,fun q hq => (h3 q hq).mono this⟩
theorem CpL.sub {n:Nat} {l m:List Rat} (h:CpL n l) (hm:∀ q∈m,q∈l):CpL n m:=by
 obtain ⟨D,h1,h2,h3⟩:=h
 exact ⟨D,h1,h2,fun q hq => h3 q (hm q hq)⟩
theorem CpL.append {n k:Nat} {l m:List Rat} (h:CpL n l) (h':CpL k m):CpL (n+k) (l++m):=by
 obtain ⟨D,h1,h2,h3⟩:=h
 obtain ⟨E,g1,g2,g3⟩:=h'
 refine ⟨D*E,Nat.mul_pos h1 g1,by rw [Nat.pow_add]; exact Nat.mul_le_mul h2 g2,fun q hq => ?_⟩
 rcases List.mem_append.1 hq with hq | hq
 ·exact ((h3 q hq).dvd ⟨E,rfl⟩).mono (Nat.pow_le_pow_right (by decide) (by omega))
 ·exact ((g3 q hq).dvd ⟨D,Nat.mul_comm _ _⟩).mono (Nat.pow_le_pow_right (by decide) (by omega))
theorem CpL.none:CpL 0 []:=⟨1,by decide,by decide,by simp⟩
theorem CpL.one {p:R2} (h:wE p.1 p.2):CpL 40 [rt p]:=by
 refine ⟨p.2.natAbs,by have:=h.1; omega,by have:=h.1; have:=h.2.1; omega,fun q hq => ?_⟩
 simp at hq
 subst hq
 exact (Cap.rat h).mono (by decide)
theorem CpL.rats:∀ {X:List R2},tT X→CpL (40*X.length) (X.map rt)
 | [],_ => CpL.none
 | p :: X,h => by
  have h1:=CpL.one (h p (by simp))
  have h2:=CpL.rats (X:=X) (fun q hq => h q (by simp [hq]))
  have:=h1.append h2
  rw [List.map_cons,List.length_cons,show 40*(X.length+1)=40+40*X.length by omega]
  exact this
def monV:List Rat→List Int→Rat
 | x :: xs,n :: X => x ^ n.toNat*monV xs X
 | _,_ => 1
def polV (xs:List Rat):Pl→Rat
 | [] => 0
 | t :: p => rt t.1*monV xs t.2+polV xs p
def qP (f:List Pl) (xs:List Rat):List Rat:=f.map (polV xs)
theorem monV_append:∀ {xs ys:List Rat} {X Y:List Int},xs.length=X.length→monV (xs++ys) (X++Y)=monV xs X*monV ys Y
 | [],ys,[],Y,_ => by simp [monV]
 | x :: xs,ys,n :: X,Y,h => by
  simp only [List.cons_append,monV]
  rw [monV_append (by simpa using h),Rat.mul_assoc]
 | [],_,_ :: _,_,h => by simp at h
 | _ :: _,_,[],_,h => by simp at h
theorem monV_take {xs:List Rat} {X:List Int} {k:Nat} (h:xs.length=X.length) (hk:k<X.length):monV (xs.take (k+1)) (X.take (k+1))=monV (xs.take k) (X.take k)*(xs[k]'(by omega)) ^ X[k].toNat:=by
 rw [xU (l:=xs) (by omega),xU hk,monV_append (by simp; omega)]
 simp [monV]
theorem polV_append (xs:List Rat):∀ (p q:Pl),polV xs (p++q)=polV xs p+polV xs q
 | [],q => by simp [polV,Rat.zero_add]
 | t :: p,q => by
  simp only [List.cons_append,polV]
  rw [polV_append xs p q,Rat.add_assoc]
theorem polV_take {xs:List Rat} {p:Pl} {j:Nat} (h:j<p.length):polV xs (p.take (j+1))=polV xs (p.take j)+rt p[j].1*monV xs p[j].2:=by
 rw [xU h,polV_append]
 simp [polV,Rat.add_zero]
structure TermOk (m:Nat) (t:Tm):Prop where
 len:t.2.length=m
 rat:wE t.1.1 t.1.2
 nn:∀ k∈t.2,0≤k
 deg:sumP t.2≤12
structure PolyOk (m:Nat) (p:Pl):Prop where
 len:p.length≤60
 term:∀ t∈p,TermOk m t
structure nH (m:Nat) (f:List Pl):Prop where
 len:f.length≤3
 poly:∀ p∈f,PolyOk m p
theorem cap_mon {D B:Nat}:∀ {xs:List Rat} {X:List Int},(∀ q∈xs,Cap D B q)→(∀ k∈X,0≤k)→0<D→0<B→Cap (D ^ (sumP X).toNat) (B ^ (sumP X).toNat) (monV xs X)
 | [],X,_,_,h3,h4 => by
  rw [show monV [] X=1 by cases X <;> rfl]
  exact (Cap.one).mono (Nat.pow_pos h4)
 | x :: xs,[],_,_,h3,h4 => by
  exact (Cap.one).mono (Nat.pow_pos h4)
 | x :: xs,n :: X,h1,h2,h3,h4 => by
  have hn:=h2 n (by simp)
  have ih:=cap_mon (xs:=xs) (X:=X) (fun q hq => h1 q (by simp [hq])) (fun k hk => h2 k (by simp [hk])) h3 h4
  have e:(sumP (n :: X)).toNat=n.toNat+(sumP X).toNat:=by
   have:=nJ X
   simp only [sumP]
   split <;> omega
  rw [e,Nat.pow_add,Nat.pow_add]
  exact ((h1 x (by simp)).pow n.toNat).mul ih
theorem sumP_take:∀ (X:List Int) (k:Nat),sumP (X.take k)≤sumP X
 | [],k => by simp
 | x :: X,0 => by have:=nJ (x :: X); simpa [sumP] using this
 | x :: X,k+1 => by
  have:=sumP_take X k
  simp only [List.take_succ_cons,sumP]
  omega
def dens:Pl→Nat
 | [] => 1
 | t :: p => t.1.2.natAbs*dens p
def densS:List Pl→Nat
 | [] => 1
 | p :: f => dens p*densS f
theorem dens_dvd:∀ {p:Pl} {t:Tm},t∈p→t.1.2.natAbs ∣ dens p
 | t :: p,u,h => by
  rcases List.mem_cons.1 h with rfl | h
  ·exact ⟨dens p,rfl⟩
  ·exact Nat.dvd_trans (dens_dvd h) ⟨t.1.2.natAbs,Nat.mul_comm _ _⟩
theorem densS_dvd:∀ {f:List Pl} {p:Pl},p∈f→dens p ∣ densS f
 | p :: f,q,h => by
  rcases List.mem_cons.1 h with rfl | h
  ·exact ⟨densS f,rfl⟩
  ·exact Nat.dvd_trans (densS_dvd h) ⟨dens p,Nat.mul_comm _ _⟩
theorem dens_le:∀ {p:Pl},(∀ t∈p,wE t.1.1 t.1.2)→0<dens p∧dens p≤2 ^ (40*p.length)
 | [],_ => by decide
 | t :: p,h => by
  have ih:=dens_le (p:=p) (fun u hu => h u (by simp [hu]))
  have h1:=h t (by simp)
  have h2:=h1.1
  have h3:=h1.2.1
  refine ⟨Nat.mul_pos (by omega) ih.1,?_⟩
  rw [List.length_cons,show 40*(p.length+1)=40+40*p.length by omega,Nat.pow_add]
  exact Nat.mul_le_mul (by omega) ih.2
theorem two_mul {a b c d e:Nat} (h:e=c+d) (h1:a≤2 ^ c) (h2:b≤2 ^ d):a*b≤2 ^ e:=by
 subst h
 rw [Nat.pow_add]
 exact Nat.mul_le_mul h1 h2
theorem two_up {a c d:Nat} (h:a≤2 ^ c) (h2:c≤d):a≤2 ^ d:=Nat.le_trans h (Nat.pow_le_pow_right (by decide) h2)
theorem densS_le {m:Nat}:∀ {f:List Pl},(∀ p∈f,PolyOk m p)→0<densS f∧densS f≤2 ^ (2400*f.length)
 | [],_ => by decide
 | p :: f,h => by
  have ih:=densS_le (f:=f) (fun u hu => h u (by simp [hu]))
  have h1:=h p (by simp)
  have h2:=dens_le (p:=p) (fun t ht => (h1.term t ht).rat)
  have h3:=h1.len
  refine ⟨Nat.mul_pos h2.1 ih.1,?_⟩
  exact two_mul (c:=40*p.length+(2400 - 40*p.length)) (d:=2400*f.length) (by rw [List.length_cons]; omega) (two_up h2.2 (by omega)) ih.2
theorem cap_term {D B m k:Nat} {xs:List Rat} {t:Tm} (ht:TermOk m t) (hx:∀ q∈xs,Cap D B q) (hD:0<D) (hB:0<B):Cap (t.1.2.natAbs*D ^ 12) (1000000000000*B ^ 12) (rt t.1*monV (xs.take k) (t.2.take k)):=by
 have h1:=cap_mon (xs:=xs.take k) (X:=t.2.take k) (fun q hq => hx q (List.mem_of_mem_take hq)) (fun j hj => ht.nn j (List.mem_of_mem_take hj)) hD hB
 have h2:=sumP_take t.2 k
 have h3:=ht.deg
 have h4:(sumP (t.2.take k)).toNat≤12:=by omega
 have h5:=(h1.dvd (Nat.pow_dvd_pow D h4)).mono (Nat.pow_le_pow_right hB h4)
 exact (Cap.rat ht.rat).mul h5
theorem vE {α:Type} {l:List α} {n:Nat} (h:l.length≤n):l.take n=l:=List.take_of_length_le h
theorem cap_term' {D B m:Nat} {xs:List Rat} {t:Tm} (ht:TermOk m t) (hx:∀ q∈xs,Cap D B q) (hD:0<D) (hB:0<B):Cap (t.1.2.natAbs*D ^ 12) (1000000000000*B ^ 12) (rt t.1*monV xs t.2):=by
 have h:=cap_term (k:=max xs.length t.2.length) ht hx hD hB
 rwa [vE (by omega),vE (by omega)] at h
theorem cap_pol {D B m:Nat} {xs:List Rat} (hx:∀ q∈xs,Cap D B q) (hD:0<D) (hB:0<B):∀ {E:Nat} {p:Pl},(∀ t∈p,TermOk m t)→(∀ t∈p,t.1.2.natAbs ∣ E)→Cap (E*D ^ 12) (p.length*(1000000000000*B ^ 12)) (polV xs p)
 | E,[],_,_ => Cap.zero
 | E,t :: p,h1,h2 => by
  have ih:=cap_pol hx hD hB (E:=E) (p:=p) (fun u hu => h1 u (by simp [hu])) (fun u hu => h2 u (by simp [hu]))
  have h3:=(cap_term' (h1 t (by simp)) hx hD hB).dvd (Nat.mul_dvd_mul_right (h2 t (by simp)) _)
  rw [List.length_cons,Nat.add_mul,Nat.add_comm,Nat.one_mul]
  exact h3.add ih
theorem pow12 {n:Nat}:(2 ^ n) ^ 12=2 ^ (12*n):=by rw [←Nat.pow_mul,Nat.mul_comm]
theorem bnd_pol {c n:Nat} (h:c≤64):c*(1000000000000*(2 ^ n) ^ 12)≤2 ^ (46+12*n):=by
 rw [pow12,Nat.pow_add,←Nat.mul_assoc]
 exact Nat.mul_le_mul_right _ (by omega)
theorem field_cpl {n m:Nat} {f:List Pl} {xs:List Rat} (hf:nH m f) (hx:CpL n xs):CpL (7200+12*n) (qP f xs):=by
 obtain ⟨D,h1,h2,h3⟩:=hx
 have hd:=densS_le hf.poly
 have hl:=hf.len
 refine ⟨densS f*D ^ 12,Nat.mul_pos hd.1 (Nat.pow_pos h1),?_,fun q hq => ?_⟩
 ·exact two_mul (c:=2400*f.length+(7200 - 2400*f.length)) (d:=12*n) (by omega) (two_up hd.2 (by omega)) (by rw [←pow12]; exact Nat.pow_le_pow_left h2 12)
 ·obtain ⟨p,hp,rfl⟩:=List.mem_map.1 hq
  have hpo:=hf.poly p hp
  have:=cap_pol h3 h1 (Nat.pow_pos (by decide)) (E:=densS f) (p:=p) hpo.term (fun t ht => Nat.dvd_trans (dens_dvd ht) (densS_dvd hp))
  refine this.mono (Nat.le_trans (bnd_pol (by have:=hpo.len; omega)) (Nat.pow_le_pow_right (by decide) (by omega)))
theorem term_bd {n m k K:Nat} {xs:List Rat} {t:Tm} (ht:TermOk m t) (hx:CpL n xs) (hn:80+24*n<32*K):Bd K (rp (rt t.1*monV (xs.take k) (t.2.take k))):=by
 obtain ⟨D,h1,h2,h3⟩:=hx
 have h4:=cap_term (k:=k) ht h3 h1 (Nat.pow_pos (by decide))
 have hr:=ht.rat
 have r1:=hr.1
 have r2:=hr.2.1
 refine Cap.bd (b:=40+12*n) (d:=40+12*n) (h4.mono ?_) (Nat.mul_pos (by omega) (Nat.pow_pos h1)) ?_ (by omega)
 ·rw [pow12,Nat.pow_add]
  exact Nat.mul_le_mul_right _ (by decide)
 ·rw [Nat.pow_add,←pow12]
  exact Nat.mul_le_mul (by omega) (Nat.pow_le_pow_left h2 12)
theorem pol_bd {n m j K:Nat} {xs:List Rat} {p:Pl} (hp:PolyOk m p) (hx:CpL n xs) (hn:2446+24*n<32*K):Bd K (rp (polV xs (p.take j))):=by
 obtain ⟨D,h1,h2,h3⟩:=hx
 have hl:=hp.len
 have hl2:(p.take j).length≤60:=by rw [List.length_take]; omega
 have hd:=dens_le (p:=p.take j) (fun t ht => (hp.term t (List.mem_of_mem_take ht)).rat)
 have h4:=cap_pol (m:=m) h3 h1 (Nat.pow_pos (by decide)) (E:=dens (p.take j)) (p:=p.take j) (fun t ht => hp.term t (List.mem_of_mem_take ht)) (fun t ht => dens_dvd ht)
 refine Cap.bd (b:=46+12*n) (d:=2400+12*n) (h4.mono (bnd_pol (by omega))) (Nat.mul_pos hd.1 (Nat.pow_pos h1)) ?_ (by omega)
 exact two_mul (c:=40*(p.take j).length+(2400 - 40*(p.take j).length)) (d:=12*n) (by omega) (two_up hd.2 (by omega)) (by rw [←pow12]; exact Nat.pow_le_pow_left h2 12)
end Go.Proofs.YtokckcnfojjpjaaGreat

namespace Go.Proofs.YtokckcnfojjpjaaGreat
open Go.RowKit
set_option maxRecDepth 20000
theorem closeB_getS:∀ {bs:List Nat} {H:Hp} {b:Nat} {cells:List C} {el:TypeId},b∈bs→H[b]?=some (.live ⟨cells,el,.rw⟩)→(vV H bs)[b]?=some (.live ⟨cells,el,.ro⟩):=by
 have keep:∀ {bs:List Nat} {H:Hp} {b:Nat} {cells:List C} {el:TypeId} {kd:BK},H[b]?=some (.live ⟨cells,el,kd⟩)→(vV H bs)[b]?=some (.live ⟨cells,el,kd⟩)∨(vV H bs)[b]?=some (.live ⟨cells,el,.ro⟩):=by
  intro bs
  induction bs with
  | nil => intro H b cells el kd h; exact .inl h
  | cons a r ih =>
   intro H b cells el kd h
   have h2:=ih h
   unfold vV
   split
   ·rename_i bx hbx
    split
    ·rename_i hk
     by_cases e:a=b
     ·subst e
      rw [List.getElem?_set_self (lt_of_getElem? hbx)]
      rcases h2 with h2 | h2
      ·rw [h2] at hbx
       cases hbx
       exact .inr rfl
      ·rw [h2] at hbx
       cases hbx
       exact .inr rfl
     ·rw [List.getElem?_set_ne e]
      exact h2
    ·exact h2
   ·exact h2
 intro bs
 induction bs with
 | nil => intro H b cells el hm; cases hm
 | cons a r ih =>
  intro H b cells el hm h
  by_cases e:a=b
  ·subst e
   have h2:=keep (bs:=r) h
   unfold vV
   rcases h2 with h2 | h2
   ·rw [h2]
    simp only
    rw [List.getElem?_set_self (lt_of_getElem? h2)]
   ·rw [h2]
    exact h2
  ·have hm:b∈r:=by
    rcases List.mem_cons.1 hm with h3 | h3
    ·exact absurd h3.symm e
    ·exact h3
   have h2:=ih hm h
   unfold vV
   split
   ·split
    ·rw [List.getElem?_set_ne e]
     exact h2
    ·exact h2
   ·exact h2
theorem Out.closeS {α:Type} {E:El α} {el:TypeId} {m:Nat} {H:Hp} {c:C} {l:List α} (h:Out E el m H c l):∃ bs d,Fz (·=.ro) (vV H bs) c d∧Ls E d l:=by
 cases h with
 | nil => exact ⟨[],_,.hf trivial,.nil⟩
 | sl hm hb hn hc h =>
  rename_i b n co cells ds
  subst hn
  refine ⟨[b],_,.sl (closeB_getS (List.mem_cons_self) hb) rfl (by simp) ?_,.imm h⟩
  simp only [List.drop_zero]
  rw [hc]
  exact .hf h.hf
theorem IQ.tightS {k m:Nat} {cs:List C} {q:Rat} (h:IQ k cs q) (hb:Bd m (rp q)):IQ m cs q:=⟨h.is,hb⟩
theorem IR.tightS {k m:Nat} {cs:List C} {q:Rat} (h:IR k cs q) (hb:Bd m (rp q)):IR m cs q:=⟨h.is,hb⟩
theorem ld_splice {s:Option Slot} {cells cs:List C} {el:TypeId} {kd:BK} {size off off':Nat} {K:V→Prop} (h:s=some (.live ⟨splice cells off cs,el,kd⟩)) (hl:cs.length=size) (hf:off'=off) (ho:off+size≤cells.length) (k:K (.agg cs)):yW s true size off' K:=by
 subst hf
 refine yJ h (Nat.ble_eq_true_of_le (by simp only; rw [sW (by omega)]; exact ho)) ?_
 simp only
 rw [nB (by omega) hl]
 exact k
theorem sumP_mem {x:Int}:∀ {X:List Int},x∈X→x≤sumP X
 | y :: X,h => by
  have h0:=nJ X
  simp only [sumP]
  rcases List.mem_cons.1 h with rfl | h
  ·split <;> omega
  ·have:=sumP_mem h
   split <;> omega
def yM (x:List Rat) (c:Rat) (k:List Rat):List Rat:=List.zipWith (fun a b => a+c*b) x k
attribute [local irreducible] yA semH semC qLen qNil qIad qSlc qIdx yW yN xB appX appI slcX awpF yQ xH xopF xN qval lval seqQ xI xY xW xT cnd arith IntKind.wrap
theorem step_At {cf cx:C} {f:List Pl} {xs:List Rat} {n:Nat} (hc:Ls elM cf f) (hf:nH xs.length f) (hx:Ls (elQ 4194304) cx xs) (hb:CpL n xs) (hn:2446+24*n<134217728):semC Tryz.prog n_step_At [.c cf,.c cx] (LsK (elQ 4194304) (qP f xs)):=by
 refine yD ok_step_At rfl (show HFVs [.c cf,.c cx] from ⟨hc.hf,hx.hf,trivial⟩) ?_
 have hlen:=hf.len
 refine go13 ?_
 refine vG (by rfl) (by rfl) ⟨by omega,by omega,by omega,by omega⟩ ?_
 refine go13 ?_
 refine goN ?_
 refine yR (fun w vs H => ∃ (i:Nat) (cells:List C) (R:Hp),vs=[.c cx,.c (.sl 0 0 f.length (some f.length) 6),.c cf,i64 f.length,i64 i]∧H=.live ⟨cells,xK,.rw⟩ :: R∧w=f.length - i∧i≤f.length∧Fill (elQ 4194304) zeroQ f.length cells ((qP f xs).take i)) (by rfl) ⟨0,_,[],rfl,rfl,rfl,by omega,.zero rfl⟩ ?_
 rintro w vs H ⟨i,cells,R,rfl,rfl,rfl,i1,i2⟩
 have hcl:cells.length=f.length*6:=i2.len
 have hfl:(qP f xs).length=f.length:=by simp [qP]
 have htl:((qP f xs).take i).length=i:=by rw [List.length_take]; omega
 refine go13 ?_
 cases hi:yA Cm.lss (i:Int) (f.length:Int)
 case false =>
  simp [yA] at hi
  have ei:i=f.length:=by omega
  subst ei
  rw [vE (by omega)] at i2
  have h4:=i2.done (by omega)
  have h5:=Ls.imm h4
  rw [hfl] at h5
  refine go13 ?_
  exact ⟨_,.c (fz_sl (bx:=⟨cells,xK,.rw⟩) (ds:=cells) (by rfl) (by simp) (by simp) (by rw [List.drop_zero,List.take_of_length_le (by simp only; omega)]) h4.hf),_,rfl,h5⟩
 simp [yA] at hi
 refine go13 ?_
 refine uA hc (i:=i) hi (by omega) rfl (fun cs hcs => ?_)
 obtain ⟨d,rfl,hd,hdl⟩:=hcs
 unfold wD at hdl
 have hp:=hf.poly f[i] (xZ hi)
 have hpl:=hp.len
 refine go13 ?_
 refine yB (nL (g:=0) (by decide)) (fun u hu => ?_)
 obtain ⟨es,rfl,g0⟩:=hu
 obtain ⟨_,_,_,_,_,_,rfl⟩:=id g0.six
 refine go13 ?_
 refine yR (fun w vs H => ∃ (j:Nat) (acc:List C) (R:Hp),vs=[.c cx,.c (.sl 0 0 f.length (some f.length) 6),i64 i,.c cf,i64 f.length,i64 i,.c d,i64 f[i].length,i64 j]∧H=.live ⟨splice cells (i*6) acc,xK,.rw⟩ :: R∧w=f[i].length - j∧j≤f[i].length∧IQ 4194304 acc (polV xs (f[i].take j))) (by rfl) ⟨0,_,_,rfl,by rw [Nat.zero_add]; rfl,rfl,by omega,g0.up (by decide)⟩ ?_
 clear g0
 rintro w vs H ⟨j,acc,R,rfl,rfl,rfl,j1,j2⟩
 obtain ⟨a0,a1,a2,a3,a4,a5,rfl⟩:=id j2.six
 refine go13 ?_
 cases hj:yA Cm.lss (j:Int) (f[i].length:Int)
 case false =>
  simp [yA] at hj
  rw [vE (by omega)] at j2
  refine go13 ?_
  rw [yZ i (by omega)]
  have h4:=i2.put (cs:=[a0,a1,a2,a3,a4,a5]) (a:=polV xs f[i]) (by rw [htl]; exact hi) j2
  rw [htl] at h4
  refine l_n (by rfl) (n':=f.length - (i+1)) (by omega) ⟨i+1,_,_,rfl,rfl,rfl,by omega,?_⟩
  rw [xU (show i<(qP f xs).length by omega),show (qP f xs)[i]'(by omega)=polV xs f[i] by simp [qP]]
  exact h4
 simp [yA] at hj
 refine go13 ?_
 refine uA hd (i:=j) hj (by omega) rfl (fun cs hcs => ?_)
 obtain ⟨e,rfl,he,hel⟩:=hcs
 unfold wD at hel
 have ht:=hp.term f[i][j] (xZ hj)
 have hxl:=ht.len
 refine go13 ?_
 refine yB (q_Of ht.rat) (fun u hu => ?_)
 obtain ⟨es,rfl,g1⟩:=hu
 obtain ⟨_,_,_,_,_,_,rfl⟩:=id g1.six
 refine go13 ?_
 refine yR (fun w vs H => ∃ (k:Nat) (ac:List C),vs=[.c cx,.c (.sl 0 0 f.length (some f.length) 6),i64 i,.c (.ptr (((.live ⟨splice cells (i*6) [a0,a1,a2,a3,a4,a5],xK,.rw⟩ :: R)++[.live ⟨[iC f[i][j].1.1,iC f[i][j].1.2,e],jC,.rw⟩]):Hp).length 0),.c cf,i64 f.length,i64 i,.c d,i64 f[i].length,i64 j,.c e,i64 f[i][j].2.length,i64 k]∧H=((.live ⟨splice cells (i*6) [a0,a1,a2,a3,a4,a5],xK,.rw⟩ :: R)++[.live ⟨[iC f[i][j].1.1,iC f[i][j].1.2,e],jC,.rw⟩])++[.live ⟨ac,xK,.rw⟩]∧w=f[i][j].2.length - k∧k≤f[i][j].2.length∧IQ 4194304 ac (rt f[i][j].1*monV (xs.take k) (f[i][j].2.take k))) (by rfl) ⟨0,_,rfl,rfl,rfl,by omega,by rw [List.take_zero,List.take_zero]; simp only [monV]; rw [Rat.mul_one]; exact g1.up (by decide)⟩ ?_
 clear g1
 rintro w vs H ⟨k,ac,rfl,rfl,rfl,k1,k2⟩
 obtain ⟨b0,b1,b2,b3,b4,b5,rfl⟩:=id k2.six
 refine go13 ?_
 cases hk:yA Cm.lss (k:Int) (f[i][j].2.length:Int)
 case false =>
  simp [yA] at hk
  rw [vE (by omega),vE (by omega)] at k2
  refine go13 ?_
  refine ld_splice (cells:=cells) (off:=i*6) (cs:=[a0,a1,a2,a3,a4,a5]) (by rfl) (by rfl) (by omega) (by omega) ?_
  refine go13 ?_
  refine yB (bC j2 k2 (by decide)) (fun u hu => ?_)
  obtain ⟨gs,rfl,g2⟩:=hu
  have hs:polV xs (f[i].take j)+rt f[i][j].1*monV xs f[i][j].2=polV xs (f[i].take (j+1)):=(polV_take hj).symm
  rw [hs] at g2
  have g2:=g2.tightS (pol_bd (j:=j+1) (K:=4194304) hp hb (by omega))
  obtain ⟨_,_,_,_,_,_,rfl⟩:=id g2.six
  refine go13 ?_
  refine yY (cs:=splice cells (i*6) [a0,a1,a2,a3,a4,a5]) (by rfl) (by rfl) (by rfl) (by rw [sW (by simp only [List.length_cons,List.length_nil]; omega)]; omega) ?_
  refine go13 ?_
  rw [yZ j (by omega)]
  refine l_n (by rfl) (n':=f[i].length - (j+1)) (by omega) ⟨j+1,_,_,rfl,by rw [Nat.zero_add,Int.toNat_natCast,mR (by omega) (by rfl)]; rfl,rfl,by omega,g2⟩
 simp [yA] at hk
 have hnn:=ht.nn _ (xZ hk)
 have hmt:=monV_take (xs:=xs) (X:=f[i][j].2) (k:=k) hxl.symm hk
 refine go13 ?_
 cases hz:yA Cm.gtr f[i][j].2[k] 0
 case false =>
  simp [yA] at hz
  have e0:f[i][j].2[k].toNat=0:=by omega
  rw [e0,Rat.pow_zero,Rat.mul_one] at hmt
  refine go13 ?_
  rw [yZ k (by omega)]
  refine l_n (by rfl) (n':=f[i][j].2.length - (k+1)) (by omega) ⟨k+1,_,rfl,rfl,rfl,by omega,?_⟩
  rw [hmt]
  exact k2
 refine go13 ?_
 refine uA hx (i:=k) (by omega) (by omega) rfl (fun cs hcs => ?_)
 refine go13 ?_
 obtain ⟨m,hm⟩:=Int.eq_ofNat_of_zero_le hnn
 have hm2:f[i][j].2[k].toNat=m:=by omega
 have hle:m≤12:=by
  have h1:=ht.deg
  have h2:=sumP_mem (xZ hk) (X:=f[i][j].2)
  omega
 rw [hm]
 refine yH (q_Pow m hcs (by omega) (by omega)) (fun u hu => ?_)
 obtain ⟨gs,rfl,g2⟩:=hu
 refine go13 ?_
 refine yB (jN k2 g2 (by omega)) (fun u hu => ?_)
 obtain ⟨ms,rfl,g3⟩:=hu
 rw [hm2] at hmt
 have hs:rt f[i][j].1*monV (xs.take k) (f[i][j].2.take k)*(xs[k]'(by omega)) ^ m=rt f[i][j].1*monV (xs.take (k+1)) (f[i][j].2.take (k+1)):=by rw [hmt,Rat.mul_assoc]
 rw [hs] at g3
 have g3:=g3.tightS (term_bd (k:=k+1) (K:=4194304) ht hb (by omega))
 obtain ⟨_,_,_,_,_,_,rfl⟩:=id g3.six
 refine go13 ?_
 rw [yZ k (by omega)]
 exact l_n (by rfl) (n':=f[i][j].2.length - (k+1)) (by omega) ⟨k+1,_,rfl,rfl,rfl,by omega,g3⟩
end Go.Proofs.YtokckcnfojjpjaaGreat

namespace Go.Proofs.YtokckcnfojjpjaaGreat
open Go.RowKit
set_option maxRecDepth 20000
section
variable {P:Program} {e:Env} {H:Hp} {K:Env→Hp→Prop} {rd:List DOp} {log:List (Nat × Option Nat)} {n0 i aid:Nat} {inc:List Nat} {T:Option Nat}
theorem d_keepA2 {d:Nat} {el:TypeId} {es bytes:Nat} {s x:AO} (hl:jE (.app el es bytes s x) inc=true) (hT:tch e (n0+aid) (.app el es bytes s x)=T) (h:qR inc T log=true) (k:appX H el es bytes (s.ev e) (x.ev e) fun v H' => gQ inc log H H'∧xH P n0 rd ((i,T) :: log) (put e d v) H' K):xH P n0 (⟨i,aid,⟨some d,.app el es bytes s x,none⟩,inc⟩ :: rd) log e H K:=d_keep hl hT h (x_app k)
theorem d_keepC {d:Nat} {f:AO} {args:List AO} {g:FuncId} {us:List V} (hl:jE (.call f args) inc=true) (hT:tch e (n0+aid) (.call f args)=T) (h:qR inc T log=true) (h1:f.ev e=some (.c (.fn g []))) (h2:evs e args=some us) (k:semH P g us H fun v H' => gQ inc log H H'∧xH P n0 rd ((i,T) :: log) (put e d v) H' K):xH P n0 (⟨i,aid,⟨some d,.call f args,none⟩,inc⟩ :: rd) log e H K:=d_keep hl hT h (gX h1 h2 k)
end
def lowLog2 (n:Nat) (log:List (Nat × Option Nat)):Bool:=log.all fun p => match p.2 with
 | none => true
 | some b => Nat.ble (b+1) n
theorem keep_low4 {F R R':Hp} {inc:List Nat} {log:List (Nat × Option Nat)} (h:lowLog2 F.length log=true):gQ inc log (F++R) (F++R'):=fun p hp _ b hb => by
 have h2:=List.all_eq_true.1 h p hp
 rw [hb] at h2
 have h3:b<F.length:=Nat.le_of_ble_eq_true h2
 rw [List.getElem?_append_left h3,List.getElem?_append_left h3]
theorem keep_low5 {F R':Hp} {inc:List Nat} {log:List (Nat × Option Nat)} (h:lowLog2 F.length log=true):gQ inc log F (F++R'):=by
 have:=keep_low4 (F:=F) (R:=[]) (R':=R') (inc:=inc) h
 rwa [List.append_nil] at this
theorem go12 {A B:Prop} (k:B) (h:Held B→A:=by
 intro hgo
 repeat (first | (refine g_o ?_; first | (refine o_some ?_; try (first | (refine x_q (by rfl) ?_; try (first | refine q_mv (by rfl) ?_ | refine vL (by rfl) ?_ | (refine sC ?_; try (first | refine sX (by rfl) (by assumption) ?_ | refine vS (by rfl) (by assumption) ?_ | refine vT (by rfl) ?_ | refine wM (by rfl) ?_ | refine wL (by rfl) ?_)) | (refine sE ?_; try (first | refine sY (by rfl) (by rfl) (by assumption) (by omega) (by omega) ?_ | refine vI (by rfl) (by rfl) (by assumption) (by omega) (by omega) ?_ | refine vR (by rfl) (by rfl) (by decide) (by decide) ?_ | refine yK (by rfl) (by rfl) (by decide) (by decide) ?_ | refine vP (by rfl) (by rfl) (by decide) (by decide) ?_ | refine yK (by rfl) (by rfl) (by omega) (by omega) ?_)) | refine q_cm (by rfl) (by rfl) ?_ | refine q_ar (by rfl) (by rfl) (by rfl) ?_ | refine uF (by rfl) ?_ | (refine sI ?_; try (first | refine wX (by rfl) ?_ | refine wY (by rfl) ?_ | refine vU (by rfl) ?_)) | refine sH (by rfl) (by rfl) ?_ | refine vK (by rfl) ?_ | refine vM (by rfl) ?_ | refine tR (by rfl) (by rfl) (by first | decide | omega) ?_ | refine tY (by rfl) (by rfl) (by first | decide | omega) ?_ | refine sJ (by rfl) (by rfl) ?_ | refine sK (by rfl) (by rfl) (by rfl) ?_ | refine sA (by rfl) ?_ | refine tZ (by rfl) ?_ | refine wP (by rfl) (by rfl) ?_ | refine wQ (by rfl) (by rfl) ?_ | refine tX ?_ | refine sD ?_ | refine sG (by rfl) (by rfl) ?_ | refine uE (by rfl) (by rfl) ?_ | refine wS (by rfl) ?_ | refine q_mx (by rfl) (by rfl) ?_ | refine q_mn (by rfl) (by rfl) ?_ | refine sB (by rfl) (by rfl) (by rfl) ?_ | refine sF (by rfl) ?_ | refine uG (by rfl) ?_ | refine uH (by rfl) ?_ | refine wR (by rfl) ?_ | refine vN (by rfl) (by rfl) ?_ | refine vO (by rfl) (by rfl) ?_)) | (refine nU ?_; try (first | (refine sL (by rfl) ?_; try (first | refine xA (by rfl) (by rfl) ?_ | refine yJ (by rfl) (by rfl) ?_ | refine xA (yL _ _) (by rfl) ?_ | refine yJ (yL _ _) (by rfl) ?_ | refine xA (vB _ _ _ _) (by rfl) ?_ | refine yJ (vB _ _ _ _) (by rfl) ?_ | refine xA (vA _ _ _) (by rfl) ?_ | refine yJ (vA _ _ _) (by rfl) ?_)) | (refine sM (by rfl) ?_; try (first | refine qW (by assumption) (by omega) (by omega) (fun _ _ => ?_) | refine uU (by omega) (by omega) ?_ | refine wH (Nat.le_of_ble_eq_true (by rfl)) ?_ | refine yY (by rfl) (by rfl) (by rfl) (by omega) ?_)))) | refine sQ (by rfl) (by rfl) (by rfl) (by rfl) (Nat.le_of_ble_eq_true (by rfl)) ?_ | (refine jI (by rfl) (by rfl) ?_; try (first | refine yY (by rfl) (by rfl) (by rfl) (Nat.le_of_ble_eq_true (by rfl)) ?_ | refine yY (by rfl) (by rfl) (by rfl) (by omega) ?_)) | refine gX (by rfl) (by rfl) ?_ | refine x_box (by rfl) (by rfl) ?_ | refine gI ?_ | refine x_frzSl (by rfl) ?_ | refine x_app ?_ | refine nT ?_ | refine gG ?_ | refine gH (by rfl) (by rfl) (by rfl) (by rfl) ?_ | refine pR (by rfl) (by rfl) (by rfl) ?_)) | (refine o_nil ?_; try (first | refine s_n ?_ | refine s_r ?_ | refine s_e ?_ | refine k_n ?_ | refine k_r ?_ | refine k_e (by rfl) ?_ | refine k_o (by rfl) ?_ | refine l_r ?_ | refine l_e ?_ | refine b_r ?_ | refine b_n ?_)) | refine o_guard (by rfl) ?_ | refine o_guardT (by rfl) ?_ | refine o_none ?_ | refine o_guardN (by rfl) ?_) | (refine g_f ?_; first | refine f_seq ?_ | refine f_reg ?_ | (refine f_cond (by rfl) ?_; try (first | refine c_t (by rfl) ?_ | refine c_f (by rfl) ?_)) | refine f_block ?_ | refine f_skip ?_ | refine f_ret ?_ | refine f_exit ?_ | refine f_regD0 ?_ | refine f_regD ?_) | (refine g_s ?_; first | refine s_n ?_ | refine s_r ?_ | refine s_e ?_) | (refine g_d ?_; first | refine d_keepA2 (T:=none) (by rfl) (by rfl) (by rfl) ?_ | refine d_late (T:=none) (by rfl) (by rfl) (by rfl) (by rfl) ?_ | refine d_keepC (T:=none) (by rfl) (by rfl) (by rfl) (by rfl) (by rfl) ?_ | (refine gD (T:=none) (by rfl) (by rfl) ?_; try (first | (refine xd_q (by rfl) ?_; try (first | refine q_mv (by rfl) ?_ | refine vL (by rfl) ?_ | (refine sC ?_; try (first | refine sX (by rfl) (by assumption) ?_ | refine vS (by rfl) (by assumption) ?_ | refine vT (by rfl) ?_ | refine wM (by rfl) ?_ | refine wL (by rfl) ?_)) | (refine sE ?_; try (first | refine sY (by rfl) (by rfl) (by assumption) (by omega) (by omega) ?_ | refine vI (by rfl) (by rfl) (by assumption) (by omega) (by omega) ?_ | refine vR (by rfl) (by rfl) (by decide) (by decide) ?_ | refine yK (by rfl) (by rfl) (by decide) (by decide) ?_ | refine vP (by rfl) (by rfl) (by decide) (by decide) ?_ | refine yK (by rfl) (by rfl) (by omega) (by omega) ?_)) | refine q_cm (by rfl) (by rfl) ?_ | refine q_ar (by rfl) (by rfl) (by rfl) ?_ | refine uF (by rfl) ?_ | (refine sI ?_; try (first | refine wX (by rfl) ?_ | refine wY (by rfl) ?_ | refine vU (by rfl) ?_)) | refine sH (by rfl) (by rfl) ?_ | refine vK (by rfl) ?_ | refine vM (by rfl) ?_ | refine tR (by rfl) (by rfl) (by first | decide | omega) ?_ | refine tY (by rfl) (by rfl) (by first | decide | omega) ?_ | refine sJ (by rfl) (by rfl) ?_ | refine sK (by rfl) (by rfl) (by rfl) ?_ | refine sA (by rfl) ?_ | refine tZ (by rfl) ?_ | refine wP (by rfl) (by rfl) ?_ | refine wQ (by rfl) (by rfl) ?_ | refine tX ?_ | refine sD ?_ | refine sG (by rfl) (by rfl) ?_ | refine uE (by rfl) (by rfl) ?_ | refine wS (by rfl) ?_ | refine q_mx (by rfl) (by rfl) ?_ | refine q_mn (by rfl) (by rfl) ?_ | refine sB (by rfl) (by rfl) (by rfl) ?_ | refine sF (by rfl) ?_ | refine uG (by rfl) ?_ | refine uH (by rfl) ?_ | refine wR (by rfl) ?_ | refine vN (by rfl) (by rfl) ?_ | refine vO (by rfl) (by rfl) ?_)) | (refine qJ ?_; try (first | (refine sL (by rfl) ?_; try (first | refine xA (by rfl) (by rfl) ?_ | refine yJ (by rfl) (by rfl) ?_ | refine xA (yL _ _) (by rfl) ?_ | refine yJ (yL _ _) (by rfl) ?_ | refine xA (vB _ _ _ _) (by rfl) ?_ | refine yJ (vB _ _ _ _) (by rfl) ?_ | refine xA (vA _ _ _) (by rfl) ?_ | refine yJ (vA _ _ _) (by rfl) ?_)) | (refine sM (by rfl) ?_; try (first | refine qW (by assumption) (by omega) (by omega) (fun _ _ => ?_) | refine uU (by omega) (by omega) ?_ | refine wH (Nat.le_of_ble_eq_true (by rfl)) ?_ | refine yY (by rfl) (by rfl) (by rfl) (by omega) ?_)))) | refine vW (by rfl) (by rfl) (by rfl) (by rfl) (Nat.le_of_ble_eq_true (by rfl)) ?_ | (refine tF (by rfl) (by rfl) ?_; try (first | refine yY (by rfl) (by rfl) (by rfl) (Nat.le_of_ble_eq_true (by rfl)) ?_ | refine yY (by rfl) (by rfl) (by rfl) (by omega) ?_)) | refine qK (by rfl) (by rfl) ?_ | refine pY (by rfl) (by rfl) (by rfl) ?_ | refine tG (by rfl) ?_ | refine nZ (by rfl) ?_)) | (refine gD (by rfl) (by rfl) ?_; try (first | (refine xd_q (by rfl) ?_; try (first | refine q_mv (by rfl) ?_ | refine vL (by rfl) ?_ | (refine sC ?_; try (first | refine sX (by rfl) (by assumption) ?_ | refine vS (by rfl) (by assumption) ?_ | refine vT (by rfl) ?_ | refine wM (by rfl) ?_ | refine wL (by rfl) ?_)) | (refine sE ?_; try (first | refine sY (by rfl) (by rfl) (by assumption) (by omega) (by omega) ?_ | refine vI (by rfl) (by rfl) (by assumption) (by omega) (by omega) ?_ | refine vR (by rfl) (by rfl) (by decide) (by decide) ?_ | refine yK (by rfl) (by rfl) (by decide) (by decide) ?_ | refine vP (by rfl) (by rfl) (by decide) (by decide) ?_ | refine yK (by rfl) (by rfl) (by omega) (by omega) ?_)) | refine q_cm (by rfl) (by rfl) ?_ | refine q_ar (by rfl) (by rfl) (by rfl) ?_ | refine uF (by rfl) ?_ | (refine sI ?_; try (first | refine wX (by rfl) ?_ | refine wY (by rfl) ?_ | refine vU (by rfl) ?_)) | refine sH (by rfl) (by rfl) ?_ | refine vK (by rfl) ?_ | refine vM (by rfl) ?_ | refine tR (by rfl) (by rfl) (by first | decide | omega) ?_ | refine tY (by rfl) (by rfl) (by first | decide | omega) ?_ | refine sJ (by rfl) (by rfl) ?_ | refine sK (by rfl) (by rfl) (by rfl) ?_ | refine sA (by rfl) ?_ | refine tZ (by rfl) ?_ | refine wP (by rfl) (by rfl) ?_ | refine wQ (by rfl) (by rfl) ?_ | refine tX ?_ | refine sD ?_ | refine sG (by rfl) (by rfl) ?_ | refine uE (by rfl) (by rfl) ?_ | refine wS (by rfl) ?_ | refine q_mx (by rfl) (by rfl) ?_ | refine q_mn (by rfl) (by rfl) ?_ | refine sB (by rfl) (by rfl) (by rfl) ?_ | refine sF (by rfl) ?_ | refine uG (by rfl) ?_ | refine uH (by rfl) ?_ | refine wR (by rfl) ?_ | refine vN (by rfl) (by rfl) ?_ | refine vO (by rfl) (by rfl) ?_)) | (refine qJ ?_; try (first | (refine sL (by rfl) ?_; try (first | refine xA (by rfl) (by rfl) ?_ | refine yJ (by rfl) (by rfl) ?_ | refine xA (yL _ _) (by rfl) ?_ | refine yJ (yL _ _) (by rfl) ?_ | refine xA (vB _ _ _ _) (by rfl) ?_ | refine yJ (vB _ _ _ _) (by rfl) ?_ | refine xA (vA _ _ _) (by rfl) ?_ | refine yJ (vA _ _ _) (by rfl) ?_)) | (refine sM (by rfl) ?_; try (first | refine qW (by assumption) (by omega) (by omega) (fun _ _ => ?_) | refine uU (by omega) (by omega) ?_ | refine wH (Nat.le_of_ble_eq_true (by rfl)) ?_ | refine yY (by rfl) (by rfl) (by rfl) (by omega) ?_)))) | refine vW (by rfl) (by rfl) (by rfl) (by rfl) (Nat.le_of_ble_eq_true (by rfl)) ?_ | (refine tF (by rfl) (by rfl) ?_; try (first | refine yY (by rfl) (by rfl) (by rfl) (Nat.le_of_ble_eq_true (by rfl)) ?_ | refine yY (by rfl) (by rfl) (by rfl) (by omega) ?_)) | refine qK (by rfl) (by rfl) ?_ | refine pY (by rfl) (by rfl) (by rfl) ?_ | refine tG (by rfl) ?_ | refine nZ (by rfl) ?_)) | (refine d_nil ?_; try (first | refine s_n ?_ | refine s_r ?_ | refine s_e ?_ | refine k_n ?_ | refine k_r ?_ | refine k_e (by rfl) ?_ | refine k_o (by rfl) ?_ | refine l_r ?_ | refine l_e ?_ | refine b_r ?_ | refine b_n ?_)) | refine d_none (by rfl) (by rfl) ?_ | refine d_guard (by rfl) (by rfl) (by rfl) ?_) | (refine g_x ?_; first | (refine x_q (by rfl) ?_; try (first | refine q_mv (by rfl) ?_ | refine vL (by rfl) ?_ | (refine sC ?_; try (first | refine sX (by rfl) (by assumption) ?_ | refine vS (by rfl) (by assumption) ?_ | refine vT (by rfl) ?_ | refine wM (by rfl) ?_ | refine wL (by rfl) ?_)) | (refine sE ?_; try (first | refine sY (by rfl) (by rfl) (by assumption) (by omega) (by omega) ?_ | refine vI (by rfl) (by rfl) (by assumption) (by omega) (by omega) ?_ | refine vR (by rfl) (by rfl) (by decide) (by decide) ?_ | refine yK (by rfl) (by rfl) (by decide) (by decide) ?_ | refine vP (by rfl) (by rfl) (by decide) (by decide) ?_ | refine yK (by rfl) (by rfl) (by omega) (by omega) ?_)) | refine q_cm (by rfl) (by rfl) ?_ | refine q_ar (by rfl) (by rfl) (by rfl) ?_ | refine uF (by rfl) ?_ | (refine sI ?_; try (first | refine wX (by rfl) ?_ | refine wY (by rfl) ?_ | refine vU (by rfl) ?_)) | refine sH (by rfl) (by rfl) ?_ | refine vK (by rfl) ?_ | refine vM (by rfl) ?_ | refine tR (by rfl) (by rfl) (by first | decide | omega) ?_ | refine tY (by rfl) (by rfl) (by first | decide | omega) ?_ | refine sJ (by rfl) (by rfl) ?_ | refine sK (by rfl) (by rfl) (by rfl) ?_ | refine sA (by rfl) ?_ | refine tZ (by rfl) ?_ | refine wP (by rfl) (by rfl) ?_ | refine wQ (by rfl) (by rfl) ?_ | refine tX ?_ | refine sD ?_ | refine sG (by rfl) (by rfl) ?_ | refine uE (by rfl) (by rfl) ?_ | refine wS (by rfl) ?_ | refine q_mx (by rfl) (by rfl) ?_ | refine q_mn (by rfl) (by rfl) ?_ | refine sB (by rfl) (by rfl) (by rfl) ?_ | refine sF (by rfl) ?_ | refine uG (by rfl) ?_ | refine uH (by rfl) ?_ | refine wR (by rfl) ?_ | refine vN (by rfl) (by rfl) ?_ | refine vO (by rfl) (by rfl) ?_)) | (refine nU ?_; try (first | (refine sL (by rfl) ?_; try (first | refine xA (by rfl) (by rfl) ?_ | refine yJ (by rfl) (by rfl) ?_ | refine xA (yL _ _) (by rfl) ?_ | refine yJ (yL _ _) (by rfl) ?_ | refine xA (vB _ _ _ _) (by rfl) ?_ | refine yJ (vB _ _ _ _) (by rfl) ?_ | refine xA (vA _ _ _) (by rfl) ?_ | refine yJ (vA _ _ _) (by rfl) ?_)) | (refine sM (by rfl) ?_; try (first | refine qW (by assumption) (by omega) (by omega) (fun _ _ => ?_) | refine uU (by omega) (by omega) ?_ | refine wH (Nat.le_of_ble_eq_true (by rfl)) ?_ | refine yY (by rfl) (by rfl) (by rfl) (by omega) ?_)))) | refine sQ (by rfl) (by rfl) (by rfl) (by rfl) (Nat.le_of_ble_eq_true (by rfl)) ?_ | (refine jI (by rfl) (by rfl) ?_; try (first | refine yY (by rfl) (by rfl) (by rfl) (Nat.le_of_ble_eq_true (by rfl)) ?_ | refine yY (by rfl) (by rfl) (by rfl) (by omega) ?_)) | refine gX (by rfl) (by rfl) ?_ | refine x_box (by rfl) (by rfl) ?_ | refine gI ?_ | refine x_frzSl (by rfl) ?_ | refine x_app ?_ | refine nT ?_ | refine gG ?_ | refine gH (by rfl) (by rfl) (by rfl) (by rfl) ?_ | refine pR (by rfl) (by rfl) (by rfl) ?_) | (refine g_q ?_; first | refine q_mv (by rfl) ?_ | refine vL (by rfl) ?_ | (refine sC ?_; try (first | refine sX (by rfl) (by assumption) ?_ | refine vS (by rfl) (by assumption) ?_ | refine vT (by rfl) ?_ | refine wM (by rfl) ?_ | refine wL (by rfl) ?_)) | (refine sE ?_; try (first | refine sY (by rfl) (by rfl) (by assumption) (by omega) (by omega) ?_ | refine vI (by rfl) (by rfl) (by assumption) (by omega) (by omega) ?_ | refine vR (by rfl) (by rfl) (by decide) (by decide) ?_ | refine yK (by rfl) (by rfl) (by decide) (by decide) ?_ | refine vP (by rfl) (by rfl) (by decide) (by decide) ?_ | refine yK (by rfl) (by rfl) (by omega) (by omega) ?_)) | refine q_cm (by rfl) (by rfl) ?_ | refine q_ar (by rfl) (by rfl) (by rfl) ?_ | refine uF (by rfl) ?_ | (refine sI ?_; try (first | refine wX (by rfl) ?_ | refine wY (by rfl) ?_ | refine vU (by rfl) ?_)) | refine sH (by rfl) (by rfl) ?_ | refine vK (by rfl) ?_ | refine vM (by rfl) ?_ | refine tR (by rfl) (by rfl) (by first | decide | omega) ?_ | refine tY (by rfl) (by rfl) (by first | decide | omega) ?_ | refine sJ (by rfl) (by rfl) ?_ | refine sK (by rfl) (by rfl) (by rfl) ?_ | refine sA (by rfl) ?_ | refine tZ (by rfl) ?_ | refine wP (by rfl) (by rfl) ?_ | refine wQ (by rfl) (by rfl) ?_ | refine tX ?_ | refine sD ?_ | refine sG (by rfl) (by rfl) ?_ | refine uE (by rfl) (by rfl) ?_ | refine wS (by rfl) ?_ | refine q_mx (by rfl) (by rfl) ?_ | refine q_mn (by rfl) (by rfl) ?_ | refine sB (by rfl) (by rfl) (by rfl) ?_ | refine sF (by rfl) ?_ | refine uG (by rfl) ?_ | refine uH (by rfl) ?_ | refine wR (by rfl) ?_ | refine vN (by rfl) (by rfl) ?_ | refine vO (by rfl) (by rfl) ?_) | (refine g_c ?_; first | refine c_t (by rfl) ?_ | refine c_f (by rfl) ?_) | (refine g_k ?_; first | refine k_n ?_ | refine k_r ?_ | refine k_e (by rfl) ?_ | refine k_o (by rfl) ?_) | (refine g_lo ?_; first | refine l_r ?_ | refine l_e ?_) | (refine g_xd ?_; first | (refine xd_q (by rfl) ?_; try (first | refine q_mv (by rfl) ?_ | refine vL (by rfl) ?_ | (refine sC ?_; try (first | refine sX (by rfl) (by assumption) ?_ | refine vS (by rfl) (by assumption) ?_ | refine vT (by rfl) ?_ | refine wM (by rfl) ?_ | refine wL (by rfl) ?_)) | (refine sE ?_; try (first | refine sY (by rfl) (by rfl) (by assumption) (by omega) (by omega) ?_ | refine vI (by rfl) (by rfl) (by assumption) (by omega) (by omega) ?_ | refine vR (by rfl) (by rfl) (by decide) (by decide) ?_ | refine yK (by rfl) (by rfl) (by decide) (by decide) ?_ | refine vP (by rfl) (by rfl) (by decide) (by decide) ?_ | refine yK (by rfl) (by rfl) (by omega) (by omega) ?_)) | refine q_cm (by rfl) (by rfl) ?_ | refine q_ar (by rfl) (by rfl) (by rfl) ?_ | refine uF (by rfl) ?_ | (refine sI ?_; try (first | refine wX (by rfl) ?_ | refine wY (by rfl) ?_ | refine vU (by rfl) ?_)) | refine sH (by rfl) (by rfl) ?_ | refine vK (by rfl) ?_ | refine vM (by rfl) ?_ | refine tR (by rfl) (by rfl) (by first | decide | omega) ?_ | refine tY (by rfl) (by rfl) (by first | decide | omega) ?_ | refine sJ (by rfl) (by rfl) ?_ | refine sK (by rfl) (by rfl) (by rfl) ?_ | refine sA (by rfl) ?_ | refine tZ (by rfl) ?_ | refine wP (by rfl) (by rfl) ?_ | refine wQ (by rfl) (by rfl) ?_ | refine tX ?_ | refine sD ?_ | refine sG (by rfl) (by rfl) ?_ | refine uE (by rfl) (by rfl) ?_ | refine wS (by rfl) ?_ | refine q_mx (by rfl) (by rfl) ?_ | refine q_mn (by rfl) (by rfl) ?_ | refine sB (by rfl) (by rfl) (by rfl) ?_ | refine sF (by rfl) ?_ | refine uG (by rfl) ?_ | refine uH (by rfl) ?_ | refine wR (by rfl) ?_ | refine vN (by rfl) (by rfl) ?_ | refine vO (by rfl) (by rfl) ?_)) | (refine qJ ?_; try (first | (refine sL (by rfl) ?_; try (first | refine xA (by rfl) (by rfl) ?_ | refine yJ (by rfl) (by rfl) ?_ | refine xA (yL _ _) (by rfl) ?_ | refine yJ (yL _ _) (by rfl) ?_ | refine xA (vB _ _ _ _) (by rfl) ?_ | refine yJ (vB _ _ _ _) (by rfl) ?_ | refine xA (vA _ _ _) (by rfl) ?_ | refine yJ (vA _ _ _) (by rfl) ?_)) | (refine sM (by rfl) ?_; try (first | refine qW (by assumption) (by omega) (by omega) (fun _ _ => ?_) | refine uU (by omega) (by omega) ?_ | refine wH (Nat.le_of_ble_eq_true (by rfl)) ?_ | refine yY (by rfl) (by rfl) (by rfl) (by omega) ?_)))) | refine vW (by rfl) (by rfl) (by rfl) (by rfl) (Nat.le_of_ble_eq_true (by rfl)) ?_ | (refine tF (by rfl) (by rfl) ?_; try (first | refine yY (by rfl) (by rfl) (by rfl) (Nat.le_of_ble_eq_true (by rfl)) ?_ | refine yY (by rfl) (by rfl) (by rfl) (by omega) ?_)) | refine qK (by rfl) (by rfl) ?_ | refine pY (by rfl) (by rfl) (by rfl) ?_ | refine tG (by rfl) ?_ | refine nZ (by rfl) ?_) | (refine g_l ?_; first | (refine sL (by rfl) ?_; try (first | refine xA (by rfl) (by rfl) ?_ | refine yJ (by rfl) (by rfl) ?_ | refine xA (yL _ _) (by rfl) ?_ | refine yJ (yL _ _) (by rfl) ?_ | refine xA (vB _ _ _ _) (by rfl) ?_ | refine yJ (vB _ _ _ _) (by rfl) ?_ | refine xA (vA _ _ _) (by rfl) ?_ | refine yJ (vA _ _ _) (by rfl) ?_)) | (refine sM (by rfl) ?_; try (first | refine qW (by assumption) (by omega) (by omega) (fun _ _ => ?_) | refine uU (by omega) (by omega) ?_ | refine wH (Nat.le_of_ble_eq_true (by rfl)) ?_ | refine yY (by rfl) (by rfl) (by rfl) (by omega) ?_))) | (refine g_len ?_; first | refine sX (by rfl) (by assumption) ?_ | refine vS (by rfl) (by assumption) ?_ | refine vT (by rfl) ?_ | refine wM (by rfl) ?_ | refine wL (by rfl) ?_) | (refine g_nil ?_; first | refine wX (by rfl) ?_ | refine wY (by rfl) ?_ | refine vU (by rfl) ?_) | (refine g_iad ?_; first | refine sY (by rfl) (by rfl) (by assumption) (by omega) (by omega) ?_ | refine vI (by rfl) (by rfl) (by assumption) (by omega) (by omega) ?_ | refine vR (by rfl) (by rfl) (by decide) (by decide) ?_ | refine yK (by rfl) (by rfl) (by decide) (by decide) ?_ | refine vP (by rfl) (by rfl) (by decide) (by decide) ?_ | refine yK (by rfl) (by rfl) (by omega) (by omega) ?_) | (refine g_box ?_; first | refine xA (by rfl) (by rfl) ?_ | refine yJ (by rfl) (by rfl) ?_ | refine xA (yL _ _) (by rfl) ?_ | refine yJ (yL _ _) (by rfl) ?_ | refine xA (vB _ _ _ _) (by rfl) ?_ | refine yJ (vB _ _ _ _) (by rfl) ?_ | refine xA (vA _ _ _) (by rfl) ?_ | refine yJ (vA _ _ _) (by rfl) ?_) | (refine g_cells ?_; first | refine qW (by assumption) (by omega) (by omega) (fun _ _ => ?_) | refine uU (by omega) (by omega) ?_ | refine wH (Nat.le_of_ble_eq_true (by rfl)) ?_) | (refine g_st ?_; first | refine yY (by rfl) (by rfl) (by rfl) (Nat.le_of_ble_eq_true (by rfl)) ?_) | (refine g_b ?_; first | refine b_r ?_ | refine b_n ?_) | (refine g_r ?_; first | refine r_tmp (by rfl) ?_ | refine r_cell ?_ | refine r_nil ?_))
 exact hgo.out):A:=h ⟨k⟩
theorem along_get {x k:List Rat} {c:Rat} {i:Nat} (h:k.length=x.length) (hi:i<x.length):(yM x c k)[i]'(by simp [yM]; omega)=x[i]+c*k[i]'(by omega):=by simp [yM]
theorem yX {x k:List Rat} {c:Rat} (h:k.length=x.length):(yM x c k).length=x.length:=by simp [yM]; omega
theorem wJ {a b d:Nat} {x k:List Rat} {c:Rat} (hx:CpL a x) (hc:CpL b [c]) (hk:CpL d k):CpL (a+b+d+1) (yM x c k):=by
 obtain ⟨D,h1,h2,h3⟩:=hx
 obtain ⟨E,g1,g2,g3⟩:=hc
 obtain ⟨F,f1,f2,f3⟩:=hk
 refine ⟨D*(E*F),Nat.mul_pos h1 (Nat.mul_pos g1 f1),?_,fun q hq => ?_⟩
 ·refine Nat.le_trans (two_mul (e:=a+(b+d)) rfl h2 (two_mul (e:=b+d) rfl g2 f2)) (Nat.pow_le_pow_right (by decide) (by omega))
 ·unfold yM at hq
  obtain ⟨i,hi,rfl⟩:=List.getElem_of_mem hq
  rw [List.getElem_zipWith]
  simp only [List.length_zipWith] at hi
  have c1:=(h3 _ (List.getElem_mem (show i<x.length by omega))).dvd (E:=D*(E*F)) ⟨E*F,rfl⟩
  have c2:=((g3 c (by simp)).mul (f3 _ (List.getElem_mem (show i<k.length by omega)))).dvd (E:=D*(E*F)) ⟨D,Nat.mul_comm _ _⟩
  refine (c1.add c2).mono ?_
  rw [←Nat.pow_add,Nat.pow_succ]
  have e1:=Nat.pow_le_pow_right (show 0<2 by decide) (show a≤a+b+d by omega)
  have e2:=Nat.pow_le_pow_right (show 0<2 by decide) (show b+d≤a+b+d by omega)
  omega
attribute [local irreducible] yA semH semC qLen qNil qIad qSlc qIdx yW yN xB appX appI slcX awpF yQ xH xopF xN qval lval seqQ xI xY xW xT cnd arith IntKind.wrap
theorem step_along {cx ck:C} {cc:List C} {x k:List Rat} {c:Rat} {n:Nat} (hx:Ls (elQ 4194304) cx x) (hc:IQ 4194304 cc c) (hk:Ls (elQ 4194304) ck k) (hl:k.length=x.length) (hlen:x.length<1048576) (hb:CpL n (yM x c k)) (hn:n+n<134217728):semC Tryz.prog n_step_along [.c cx,.agg cc,.c ck] (LsK (elQ 4194304) (yM x c k)):=by
 refine yD ok_step_along rfl (show HFVs [.c cx,.agg cc,.c ck] from ⟨hx.hf,hc.hf,hk.hf,trivial⟩) ?_
 obtain ⟨a0,a1,a2,a3,a4,a5,rfl⟩:=id hc.six
 refine go13 ?_
 refine vG (by rfl) (by rfl) ⟨by omega,by omega,by omega,by omega⟩ ?_
 refine go13 ?_
 refine goN ?_
 have hal:=yX (c:=c) hl
 refine yR (fun w vs H => ∃ (i:Nat) (cells:List C),vs=[.c cx,.c ck,.c (.ptr 0 0),.c (.sl 1 0 x.length (some x.length) 6),i64 x.length,i64 i]∧H=[.live ⟨[a0,a1,a2,a3,a4,a5],xK,.rw⟩,.live ⟨cells,xK,.rw⟩]∧w=x.length - i∧i≤x.length∧Fill (elQ 4194304) zeroQ x.length cells ((yM x c k).take i)) (by rfl) ⟨0,_,rfl,rfl,rfl,by omega,.zero rfl⟩ ?_
 rintro w vs H ⟨i,cells,rfl,rfl,rfl,i1,i2⟩
 have hcl:cells.length=x.length*6:=i2.len
 have htl:((yM x c k).take i).length=i:=by rw [List.length_take]; omega
 refine go13 ?_
 cases hi:yA Cm.lss (i:Int) (x.length:Int)
 case false =>
  simp [yA] at hi
  have ei:i=x.length:=by omega
  subst ei
  rw [vE (by omega)] at i2
  have h4:=i2.done (by omega)
  have h5:=Ls.imm h4
  rw [hal] at h5
  refine go13 ?_
  exact ⟨_,.c (fz_sl (bx:=⟨cells,xK,.rw⟩) (ds:=cells) (by rfl) (by simp) (by simp) (by rw [List.drop_zero,List.take_of_length_le (by simp only; omega)]) h4.hf),_,rfl,h5⟩
 simp [yA] at hi
 refine go13 ?_
 refine uA hx (i:=i) hi (by omega) rfl (fun cs hcs => ?_)
 refine go13 ?_
 refine uA hk (i:=i) (by omega) (by omega) rfl (fun ds hds => ?_)
 refine go13 ?_
 refine yB (jN hc hds (by decide)) (fun u hu => ?_)
 obtain ⟨es,rfl,g1⟩:=hu
 refine go13 ?_
 refine yB (bC hcs g1 (by decide)) (fun u hu => ?_)
 obtain ⟨gs,rfl,g2⟩:=hu
 rw [←along_get hl hi] at g2
 have g2:=g2.tightS (hb.bd (k:=4194304) (by omega) (List.getElem_mem (by omega)))
 obtain ⟨_,_,_,_,_,_,rfl⟩:=id g2.six
 refine go13 ?_
 rw [yZ i (by omega)]
 have h4:=i2.put (cs:=_) (a:=_) (by rw [htl]; exact hi) g2
 rw [htl] at h4
 refine l_n (by rfl) (n':=x.length - (i+1)) (by omega) ⟨i+1,_,rfl,by rw [Nat.zero_add,Int.toNat_natCast]; rfl,rfl,by omega,?_⟩
 rw [xU (show i<(yM x c k).length by omega)]
 exact h4
theorem slices_CloneH {k:Nat} {c:C} {l:List Rat} {H:Hp} {K:V→Hp→Prop} (hc:Ls (elQ k) c l) (hl:l.length<1048576) (h:∀ R' c',Out (elQ k) xK H.length (H++R') c' l→K (.c c') (H++R')):semH Tryz.prog n_slices_Clone_sl_num_Q_num_Q [.c c] H K:=by
 refine sR ok_slices_Clone_sl_num_Q_num_Q rfl ?_
 cases hc with
 | nil =>
  refine go13 ?_
  have:=h [] .nilSl .nil
  rw [List.append_nil] at this
  exact this
 | @imm ds l h' =>
  refine go2 ?_
  refine app_lsS (F:=H) (R:=[.live ⟨[],xK,.rw⟩]) (c:=.sl H.length 0 0 (some 0) 6) (out:=[]) (E:=elQ k) rfl (.sl (cells:=[]) (ds:=[]) (Nat.le_refl _) (yL _ _) rfl rfl .nil) (by rfl) (by rfl) (.imm h') rfl (by simp; omega) (fun R' c' q => ?_)
  refine go2 ?_
  exact h R' c' q
theorem step_rate {cf cx:C} {ch ct:List C} {f:List Pl} {x:List Rat} {h t:Rat} {n:Nat} (hc:Ls elM cf f) (hf:nH (x.length+1) f) (hh:IQ 4194304 ch h) (hx:Ls (elQ 4194304) cx x) (ht:IQ 4194304 ct t) (hl:x.length<1048575) (hb:CpL n (x++[t])) (hn:2446+24*n<134217728):semC Tryz.prog n_step_system_rate [.agg (cf :: ch),.c cx,.agg ct] (LsK (elQ 4194304) (qP f (x++[t]))):=by
 refine yD ok_step_system_rate rfl (show HFVs [.agg (cf :: ch),.c cx,.agg ct] from ⟨⟨hc.hf,hh.hf⟩,hx.hf,ht.hf,trivial⟩) ?_
 obtain ⟨a0,a1,a2,a3,a4,a5,rfl⟩:=id hh.six
 obtain ⟨b0,b1,b2,b3,b4,b5,rfl⟩:=id ht.six
 refine go12 ?_
 refine slices_CloneH hx (by omega) (fun R c q => ⟨keep_low5 (F:=[.live ⟨[cf,a0,a1,a2,a3,a4,a5],vX,.rw⟩,.live ⟨[b0,b1,b2,b3,b4,b5],xK,.rw⟩]) (by rfl),?_⟩)
 refine go12 ?_
 refine app_imm (bytes:=80) (F:=[.live ⟨[cf,a0,a1,a2,a3,a4,a5],vX,.rw⟩,.live ⟨[b0,b1,b2,b3,b4,b5],xK,.rw⟩]) (R:=R) (a:=t) rfl q (by rfl) (by rfl) rfl ht (by omega) (fun R2 o2 q2 => ?_)
 refine ⟨keep_low4 (F:=[.live ⟨[cf,a0,a1,a2,a3,a4,a5],vX,.rw⟩,.live ⟨[b0,b1,b2,b3,b4,b5],xK,.rw⟩]) (by rfl),?_⟩
 refine go12 ?_
 obtain ⟨bs,d,f1,l1⟩:=q2.closeS
 refine yS bs (.cons (.c (.hf hc.hf)) (.cons (.c f1) .nil)) (step_At hc (by rw [List.length_append]; exact hf) l1 hb hn) (fun u hu => ?_)
 obtain ⟨c3,rfl,h3⟩:=hu
 refine go12 ?_
 exact LsK.fz h3
end Go.Proofs.YtokckcnfojjpjaaGreat

namespace Go.Proofs.YtokckcnfojjpjaaGreat
open Go.RowKit
set_option maxRecDepth 20000
def flQ (q:Rat):Int:=(rp q).1 / (rp q).2
noncomputable def pA (q:Rat) (g:Int):Int:=bif dec ((1:Rat) / 2<q*g - flQ (q*g)∨(q*g - flQ (q*g)=(1:Rat) / 2∧flQ (q*g) % 2=1)) then flQ (q*g)+1 else flQ (q*g)
noncomputable def qG (q:Rat) (g:Int):Rat:=(pA q g:Rat) / (g:Rat)
noncomputable def rdV (g:Int) (q:Rat):Rat:=bif dec (0<g) then qG q g else q
theorem and_u32 {n:Nat} (h:n<4294967296):arith .and .u32 (n:Int) 1=((n % 2:Nat):Int):=by
 show IntKind.u32.wrap (((BitVec.ofInt 32 (n:Int) &&& BitVec.ofInt 32 1).toNat:Nat):Int)=_
 rw [xG]
 have e:(BitVec.ofInt 32 (n:Int) &&& BitVec.ofInt 32 1).toNat=n % 2:=by
  rw [BitVec.toNat_and]
  have e1:(BitVec.ofInt 32 (n:Int)).toNat=n:=by
   rw [BitVec.toNat_ofInt]
   omega
  rw [e1,show (BitVec.ofInt 32 1).toNat=1 by decide,Nat.and_one_is_mod]
 rw [e]
 omega
theorem and_i64 {v:Int}:arith .and .i64 v 1=v % 2:=by
 show IntKind.i64.wrap (((BitVec.ofInt 64 v &&& BitVec.ofInt 64 1).toNat:Nat):Int)=_
 have e:(BitVec.ofInt 64 v &&& BitVec.ofInt 64 1).toNat=(v % 2).toNat:=by
  rw [BitVec.toNat_and,show (BitVec.ofInt 64 1).toNat=1 by decide,Nat.and_one_is_mod,BitVec.toNat_ofInt]
  omega
 rw [e,yI (by omega) (by omega)]
 omega
theorem val_odd {l:List Nat} (h:0<l.length):val l % 2=l[0] % 2:=by
 cases l with
 | nil => cases h
 | cons a l =>
  simp only [List.getElem_cons_zero,val]
  omega
theorem amt_odd (neg:Bool) (n:Nat):(amt neg n % 2=1)↔n % 2=1:=by
 cases neg <;> simp only [amt,cond_false,cond_true] <;> omega
theorem fl_bd {k:Nat} {q:Rat} (h:Bd k (rp q)):Sz k (flQ q):=by
 unfold flQ
 have h1:=h.n
 have h2:=h.pos
 unfold Sz at *
 exact Nat.lt_of_le_of_lt (ediv_le h2) h1
attribute [local irreducible] yA semH semC qLen qNil qIad qSlc qIdx yW yN xB appX appI slcX awpF yQ xH xopF xN qval lval seqQ xI xY xW xT cnd arith IntKind.wrap
theorem q_Frac {a b:Int} (h1:a.natAbs<4294967296) (h2:b.natAbs<4294967296) (h0:b≠0):semC Tryz.prog n_num_Frac [i64 a,i64 b] (QV 1 ((a:Rat) / (b:Rat))):=by
 refine yD ok_num_Frac rfl (show HFVs [i64 a,i64 b] from ⟨trivial,trivial,trivial⟩) ?_
 have s1:Sz 1 a:=by unfold Sz; simpa using h1
 have s2:Sz 1 b:=by unfold Sz; simpa using h2
 refine go13 ?_
 refine yB (bX a (by omega) (by omega)) (fun u hu => ?_)
 obtain ⟨es,rfl,g1⟩:=hu
 obtain ⟨_,_,_,rfl⟩:=g1.three
 refine go13 ?_
 refine yB (bX b (by omega) (by omega)) (fun u hu => ?_)
 obtain ⟨fs,rfl,g2⟩:=hu
 obtain ⟨_,_,_,rfl⟩:=g2.three
 refine go13 ?_
 refine yB (vH (fun u hu => qB.rat hu h0 (Rat.divInt_eq_div a b) s1 s2) (pT (Sz.cl (n:=1) (by decide)) (quoOk (by decide)) g1 g2 s1 s2 h0)) (fun u hu => ?_)
 obtain ⟨gs,rfl,g3⟩:=hu
 obtain ⟨_,_,_,_,_,_,rfl⟩:=id g3.six
 refine go13 ?_
 exact QV.fz g3
theorem num_Z_Odd {cs:List C} {x:Int} (hx:IsZ cs x):semC Tryz.prog n_num_Z_Odd [.agg cs] (uC (x % 2=1)):=by
 refine yD ok_num_Z_Odd rfl (show HFVs [.agg cs] from ⟨hx.hf,trivial⟩) ?_
 rcases hx.look with ⟨rfl,x1,x2⟩ | ⟨lx,nx,rfl,xn,xv,xe⟩
 ·refine go13 ?_
  rw [and_i64]
  cases hq:yA Cm.eql (x % 2) 1
  ·simp [yA] at hq
   exact ⟨_,.c (.hf trivial),false,rfl,⟨fun h => (by cases h),fun h => absurd h hq⟩⟩
  ·simp [yA] at hq
   exact ⟨_,.c (.hf trivial),true,rfl,⟨fun _ => hq,fun _ => rfl⟩⟩
 ·have hl:0<lx.length:=by
   rcases Nat.eq_zero_or_pos lx.length with h | h
   ·have:=List.eq_nil_of_length_eq_zero h
    subst this
    simp [val] at xv
   ·exact h
  have hw:Wd (.imm lx.length (lx.map W)) lx:=.imm lx
  have ha:at0 lx 0=lx[0]:=by simp [at0,hl]
  have hlt:at0 lx 0<4294967296:=by rw [ha]; exact xn.1 _ (List.getElem_mem hl)
  have ho:(x % 2=1)↔at0 lx 0 % 2=1:=by rw [xe,amt_odd,val_odd hl,ha]
  refine go13 ?_
  rw [show ((0:Int).toNat)=0 from rfl,and_u32 hlt]
  cases hq:yA Cm.eql ((at0 lx 0 % 2:Nat):Int) 1
  ·simp [yA] at hq
   refine go13 ?_
   exact ⟨_,.c (.hf trivial),false,rfl,⟨fun h => (by cases h),fun h => absurd (ho.1 h) (by omega)⟩⟩
  ·simp [yA] at hq
   refine go13 ?_
   exact ⟨_,.c (.hf trivial),true,rfl,⟨fun _ => ho.2 (by omega),fun _ => rfl⟩⟩
theorem num_Q_Round {k:Nat} {cs:List C} {q:Rat} {g:Int} (hx:IQ k cs q) (hg:0<g) (hg2:g<4294967296) (hk:3*k+8≤134217728):semC Tryz.prog n_num_Q_Round [.agg cs,i64 g] (QV (k+3) (qG q g)):=by
 refine yD ok_num_Q_Round rfl (show HFVs [.agg cs,i64 g] from ⟨hx.hf,trivial,trivial⟩) ?_
 obtain ⟨a0,a1,a2,a3,a4,a5,rfl⟩:=id hx.six
 refine go13 ?_
 refine yH (nL (g:=g) (by omega)) (fun u hu => ?_)
 obtain ⟨es,rfl,g1⟩:=hu
 refine go13 ?_
 refine yH (jN hx g1 (by omega)) (fun u hu => ?_)
 obtain ⟨fs,rfl,g2⟩:=hu
 have e:(q*((g:Int):Rat))=q*(g:Rat):=rfl
 obtain ⟨f0,f1,f2,f3,f4,f5,rfl⟩:=id g2.six
 refine go13 ?_
 refine goN ?_
 refine yB (num_Q_Floor (Sz.cl (n:=k+1) (by omega)) (quoOk (by omega)) g2.is g2.bd.n g2.bd.d g2.bd.pos) (fun u hu => ?_)
 obtain ⟨ks,rfl,g3⟩:=hu
 obtain ⟨k0,k1,k2,rfl⟩:=g3.three
 have sk:Sz (k+1) (flQ (q*g)):=fl_bd g2.bd
 refine go13 ?_
 refine goN ?_
 refine yH (bX 1 (by decide) (by decide)) (fun u hu => ?_)
 obtain ⟨os,rfl,go⟩:=hu
 obtain ⟨o0,o1,o2,rfl⟩:=go.three
 have hI:IQ (k+1) [k0,k1,k2,o0,o1,o2] ((flQ (q*g):Int):Rat):=⟨by rw [nV]; exact .mk (p:=(flQ (q*g),1)) g3 go,by rw [nV]; exact ⟨sk,(Sz.one (n:=0)).up (by omega),by simp⟩⟩
 refine go13 ?_
 refine yB (q_Sub2 g2 hI (by omega)) (fun u hu => ?_)
 obtain ⟨ds,rfl,g4⟩:=hu
 refine go13 ?_
 refine yB (q_Frac (a:=1) (b:=2) (by decide) (by decide) (by decide)) (fun u hu => ?_)
 obtain ⟨hs,rfl,g5⟩:=hu
 refine go13 ?_
 refine yB (q_Cmp2 g4 g5 (by omega)) (fun u hu => ?_)
 obtain rfl:=hu
 have e12:((1:Int):Rat) / ((2:Int):Rat)=(1:Rat) / 2:=by simp
 refine go13 ?_
 rw [cq_gtr,e12]
 have sg:Sz (k+3) g:=(show Sz 1 g by unfold Sz; simp; omega).up (by omega)
 cases c1:dec ((1:Rat) / 2<q*g - flQ (q*g))
 case true =>
  have c1:=yF.1 c1
  have hr:pA q g=flQ (q*g)+1:=by
   unfold pA
   rw [yF.2 (by first | exact .inl c1 | exact .inr ⟨c2,hz⟩)]
   rfl
  refine go13 ?_
  refine yH (bX 1 (by decide) (by decide)) (fun u hu => ?_)
  obtain ⟨us,rfl,gu⟩:=hu
  obtain ⟨_,_,_,rfl⟩:=gu.three
  refine go13 ?_
  refine yB (bO (n:=k+1) g3 gu sk ((Sz.one (n:=0)).up (by omega)) (by omega)) (fun u hu => ?_)
  obtain ⟨ws,rfl,gw⟩:=hu
  obtain ⟨_,_,_,rfl⟩:=gw.three
  have sN:Sz (k+3) (flQ (q*g)+1):=sk.add2 ((Sz.one (n:=0)).up (show 1≤k+1 by omega)) (by omega)
  refine go13 ?_
  refine yH (bX g (by omega) (by omega)) (fun u hu => ?_)
  obtain ⟨ps,rfl,g7⟩:=hu
  refine go13 ?_
  refine yB (vH (fun u hu => qB.rat hu (Int.ne_of_gt hg) (Rat.divInt_eq_div _ _) sN sg) (pT (Sz.cl (n:=k+3) (by omega)) (quoOk (by omega)) gw g7 sN sg (Int.ne_of_gt hg))) (fun u hu => ?_)
  obtain ⟨gs,rfl,g8⟩:=hu
  obtain ⟨_,_,_,_,_,_,rfl⟩:=id g8.six
  refine go13 ?_
  rw [show qG q g=((flQ (q*g)+1:Int):Rat) / ((g:Int):Rat) by unfold qG; rw [hr]]
  exact QV.fz g8
 have c1:=yG.1 c1
 refine go13 ?_
 rw [cq_eql]
 cases c2:dec (q*g - flQ (q*g)=(1:Rat) / 2)
 case false =>
  have c2:=yG.1 c2
  have hr:pA q g=flQ (q*g):=by
   unfold pA
   rw [yG.2 (by rintro (h | ⟨h,_⟩) <;> contradiction)]
   rfl
  have sN:Sz (k+3) (flQ (q*g)):=sk.up (by omega)
  refine go13 ?_
  refine yH (bX g (by omega) (by omega)) (fun u hu => ?_)
  obtain ⟨ps,rfl,g7⟩:=hu
  refine go13 ?_
  refine yB (vH (fun u hu => qB.rat hu (Int.ne_of_gt hg) (Rat.divInt_eq_div _ _) sN sg) (pT (Sz.cl (n:=k+3) (by omega)) (quoOk (by omega)) g3 g7 sN sg (Int.ne_of_gt hg))) (fun u hu => ?_)
  obtain ⟨gs,rfl,g8⟩:=hu
  obtain ⟨_,_,_,_,_,_,rfl⟩:=id g8.six
  refine go13 ?_
  rw [show qG q g=((flQ (q*g):Int):Rat) / ((g:Int):Rat) by unfold qG; rw [hr]]
  exact QV.fz g8
 have c2:=yF.1 c2
 refine go13 ?_
 refine yB (num_Z_Odd g3) (fun u hu => ?_)
 obtain ⟨z,rfl,hz⟩:=hu
 cases z
 case false =>
  have hr:pA q g=flQ (q*g):=by
   unfold pA
   rw [yG.2 (by
    rintro (h | ⟨_,h⟩)
    ·exact c1 h
    ·cases hz.2 h)]
   rfl
  have sN:Sz (k+3) (flQ (q*g)):=sk.up (by omega)
  refine go13 ?_
  refine yH (bX g (by omega) (by omega)) (fun u hu => ?_)
  obtain ⟨ps,rfl,g7⟩:=hu
  refine go13 ?_
  refine yB (vH (fun u hu => qB.rat hu (Int.ne_of_gt hg) (Rat.divInt_eq_div _ _) sN sg) (pT (Sz.cl (n:=k+3) (by omega)) (quoOk (by omega)) g3 g7 sN sg (Int.ne_of_gt hg))) (fun u hu => ?_)
  obtain ⟨gs,rfl,g8⟩:=hu
  obtain ⟨_,_,_,_,_,_,rfl⟩:=id g8.six
  refine go13 ?_
  rw [show qG q g=((flQ (q*g):Int):Rat) / ((g:Int):Rat) by unfold qG; rw [hr]]
  exact QV.fz g8
 have hz:=hz.1 rfl
 have hr:pA q g=flQ (q*g)+1:=by
  unfold pA
  rw [yF.2 (by first | exact .inl c1 | exact .inr ⟨c2,hz⟩)]
  rfl
 refine go13 ?_
 refine yH (bX 1 (by decide) (by decide)) (fun u hu => ?_)
 obtain ⟨us,rfl,gu⟩:=hu
 obtain ⟨_,_,_,rfl⟩:=gu.three
 refine go13 ?_
 refine yB (bO (n:=k+1) g3 gu sk ((Sz.one (n:=0)).up (by omega)) (by omega)) (fun u hu => ?_)
 obtain ⟨ws,rfl,gw⟩:=hu
 obtain ⟨_,_,_,rfl⟩:=gw.three
 have sN:Sz (k+3) (flQ (q*g)+1):=sk.add2 ((Sz.one (n:=0)).up (show 1≤k+1 by omega)) (by omega)
 refine go13 ?_
 refine yH (bX g (by omega) (by omega)) (fun u hu => ?_)
 obtain ⟨ps,rfl,g7⟩:=hu
 refine go13 ?_
 refine yB (vH (fun u hu => qB.rat hu (Int.ne_of_gt hg) (Rat.divInt_eq_div _ _) sN sg) (pT (Sz.cl (n:=k+3) (by omega)) (quoOk (by omega)) gw g7 sN sg (Int.ne_of_gt hg))) (fun u hu => ?_)
 obtain ⟨gs,rfl,g8⟩:=hu
 obtain ⟨_,_,_,_,_,_,rfl⟩:=id g8.six
 refine go13 ?_
 rw [show qG q g=((flQ (q*g)+1:Int):Rat) / ((g:Int):Rat) by unfold qG; rw [hr]]
 exact QV.fz g8
end Go.Proofs.YtokckcnfojjpjaaGreat

namespace Go.Proofs.YtokckcnfojjpjaaGreat
open Go.RowKit
set_option maxRecDepth 20000
theorem fit_ratS {q:Rat} (h:fitR (rp q)=true):wE (rp q).1 (rp q).2:=by
 unfold fitR at h
 have h1:=yF.1 h
 have h2:=rp_good q
 exact ⟨by have:=h2.1; omega,h1.2.2,h1.1,h1.2.1,h2.2⟩
def uZ (m:List Rat):Prop:=∀ q∈m,fitR (rp q)=true
def RdK (m:List Rat) (u:V):Prop:=(uZ m∧∃ c,u=.tup [.c c,.c (.bool true)]∧Ls (elQ 2) c m)∨(¬ uZ m∧u=.tup [.c .nilSl,.c (.bool false)])
theorem rd_pos {g:Int} {q:Rat} (h:0<g):rdV g q=qG q g:=by
 unfold rdV
 rw [yF.2 h]
 rfl
theorem rd_none {g:Int} {q:Rat} (h:¬ 0<g):rdV g q=q:=by
 unfold rdV
 rw [yG.2 h]
 rfl
attribute [local irreducible] yA semH semC qLen qNil qIad qSlc qIdx yW yN xB appX appI slcX awpF yQ xH xopF xN qval lval seqQ xI xY xW xT cnd arith IntKind.wrap
theorem mQ {cx:C} {x:List Rat} {g:Int} (hx:Ls (elQ 4194304) cx x) (hl:x.length<1048576) (hg:g<4294967296):semC Tryz.prog n_step_rounded [.c cx,i64 g] (RdK (x.map (rdV g))):=by
 refine yD ok_step_rounded rfl (show HFVs [.c cx,i64 g] from ⟨hx.hf,trivial,trivial⟩) ?_
 refine go13 ?_
 refine vG (by rfl) (by rfl) ⟨by omega,by omega,by omega,by omega⟩ ?_
 refine go13 ?_
 refine goN ?_
 refine yR (fun w vs H => ∃ (i:Nat) (cells:List C) (R:Hp),vs=[.c cx,i64 g,.c (.sl 0 0 x.length (some x.length) 6),i64 x.length,i64 i]∧H=.live ⟨cells,xK,.rw⟩ :: R∧w=x.length - i∧i≤x.length∧Fill (elQ 2) zeroQ x.length cells ((x.map (rdV g)).take i)∧∀ q∈(x.map (rdV g)).take i,fitR (rp q)=true) (by rfl) ⟨0,_,[],rfl,rfl,rfl,by omega,.zero rfl,by simp⟩ ?_
 rintro w vs H ⟨i,cells,R,rfl,rfl,rfl,i1,i2,i3⟩
 have hcl:cells.length=x.length*6:=i2.len
 have hfl:(x.map (rdV g)).length=x.length:=by simp
 have htl:((x.map (rdV g)).take i).length=i:=by rw [List.length_take]; omega
 refine go13 ?_
 cases hi:yA Cm.lss (i:Int) (x.length:Int)
 case false =>
  simp [yA] at hi
  have ei:i=x.length:=by omega
  subst ei
  rw [vE (by omega)] at i2 i3
  have h4:=i2.done (by omega)
  have h5:=Ls.imm h4
  rw [hfl] at h5
  refine go13 ?_
  exact ⟨_,.tup (.cons (.c (fz_sl (bx:=⟨cells,xK,.rw⟩) (ds:=cells) (by rfl) (by simp) (by simp) (by rw [List.drop_zero,List.take_of_length_le (by simp only; omega)]) h4.hf)) (.cons (.c (.hf trivial)) .nil)),.inl ⟨i3,_,rfl,h5⟩⟩
 simp [yA] at hi
 refine go13 ?_
 refine uA hx (i:=i) hi (by omega) rfl (fun cs hcs => ?_)
 obtain ⟨e0,e1,e2,e3,e4,e5,rfl⟩:=id (show IQ 4194304 _ _ from hcs).six
 refine go13 ?_
 rw [show 0+(i:Int).toNat*6=i*6 by omega]
 cases hg0:yA Cm.gtr g 0
 case false =>
  simp [yA] at hg0
  have g1:IQ 4194307 [e0,e1,e2,e3,e4,e5] (rdV g x[i]):=by
   rw [rd_none (by omega)]
   exact (show IQ 4194304 _ _ from hcs).up (by decide)
  refine go13 ?_
  refine ld_splice (cells:=cells) (off:=i*6) (cs:=[e0,e1,e2,e3,e4,e5]) (by rfl) (by rfl) (by omega) (by omega) ?_
  refine go13 ?_
  refine yB (num_Q_Out g1.is (bW _)) (fun u hu => ?_)
  obtain rfl:=hu
  unfold outV
  cases hf:fitR (rp (rdV g x[i]))
  case false =>
   have hno:¬ uZ (x.map (rdV g)):=fun h => by
    have:=h (rdV g x[i]) (List.mem_map_of_mem (xZ hi))
    rw [hf] at this
    cases this
   refine go13 ?_
   exact ⟨_,.tup (.cons (.c (.hf trivial)) (.cons (.c (.hf trivial)) .nil)),.inr ⟨hno,rfl⟩⟩
  refine go13 ?_
  rw [yZ i (by omega)]
  have g2:=g1.tightS (fit_ratS hf).bd
  have h4:=i2.put (cs:=[e0,e1,e2,e3,e4,e5]) (a:=rdV g x[i]) (by rw [htl]; exact hi) g2
  rw [htl] at h4
  refine l_n (by rfl) (n':=x.length - (i+1)) (by omega) ⟨i+1,_,_,rfl,rfl,rfl,by omega,?_,fun q hq => ?_⟩
  ·rw [xU (show i<(x.map (rdV g)).length by simpa using hi),List.getElem_map]
   exact h4
  ·rw [xU (show i<(x.map (rdV g)).length by simpa using hi),List.getElem_map] at hq
   rcases List.mem_append.1 hq with hq | hq
   ·exact i3 q hq
   ·simp at hq
    subst hq
    exact hf
 simp [yA] at hg0
 refine go13 ?_
 refine uA hx (i:=i) hi (by omega) rfl (fun cs hcs => ?_)
 refine go13 ?_
 refine yB (num_Q_Round (show IQ 4194304 _ _ from hcs) hg0 hg (by decide)) (fun u hu => ?_)
 obtain ⟨es,rfl,g1⟩:=hu
 rw [←rd_pos hg0] at g1
 obtain ⟨f0,f1,f2,f3,f4,f5,rfl⟩:=id g1.six
 refine go13 ?_
 refine yY (cs:=splice cells (i*6) [e0,e1,e2,e3,e4,e5]) (by rfl) (by rfl) (by rfl) (by rw [sW (by simp only [List.length_cons,List.length_nil]; omega)]; omega) ?_
 rw [show 0+(i:Int).toNat*6=i*6 by omega,mR (by omega) (by rfl)]
 clear hcs
 refine go13 ?_
 refine ld_splice (cells:=cells) (off:=i*6) (cs:=[f0,f1,f2,f3,f4,f5]) (by rfl) (by rfl) (by omega) (by omega) ?_
 refine go13 ?_
 refine yB (num_Q_Out g1.is (bW _)) (fun u hu => ?_)
 obtain rfl:=hu
 unfold outV
 cases hf:fitR (rp (rdV g x[i]))
 case false =>
  have hno:¬ uZ (x.map (rdV g)):=fun h => by
   have:=h (rdV g x[i]) (List.mem_map_of_mem (xZ hi))
   rw [hf] at this
   cases this
  refine go13 ?_
  exact ⟨_,.tup (.cons (.c (.hf trivial)) (.cons (.c (.hf trivial)) .nil)),.inr ⟨hno,rfl⟩⟩
 refine go13 ?_
 rw [yZ i (by omega)]
 have g2:=g1.tightS (fit_ratS hf).bd
 have h4:=i2.put (cs:=[f0,f1,f2,f3,f4,f5]) (a:=rdV g x[i]) (by rw [htl]; exact hi) g2
 rw [htl] at h4
 refine l_n (by rfl) (n':=x.length - (i+1)) (by omega) ⟨i+1,_,_,rfl,rfl,rfl,by omega,?_,fun q hq => ?_⟩
 ·rw [xU (show i<(x.map (rdV g)).length by simpa using hi),List.getElem_map]
  exact h4
 ·rw [xU (show i<(x.map (rdV g)).length by simpa using hi),List.getElem_map] at hq
  rcases List.mem_append.1 hq with hq | hq
  ·exact i3 q hq
  ·simp at hq
   subst hq
   exact hf
end Go.Proofs.YtokckcnfojjpjaaGreat

namespace Go.Proofs.YtokckcnfojjpjaaGreat
open Go.RowKit
set_option maxRecDepth 20000
noncomputable def valS (f:List Pl):Int:=sysE 1 ((f.length:Int)+1) true f
def ValK (f:List Pl) (v:V):Prop:=∃ e:Int,v=i64 e∧(qY f→e=valS f)∧(e=0→qY f)∧0≤e∧e≤3
def AffS (f:List Pl):Prop:=∀ p∈f,∀ t∈p,sumP (t.2.take (t.2.length - 1))≤1
structure gV (m:Int) (f:List Pl) (t:R2) (x:List R2) (h:R2) (g n:Int):Prop where
 sys:valS f=0
 ht:wE t.1 t.2
 hx:tT x
 hh:wE h.1 h.2
 m0:0≤m
 m6:m≤6
 hp:0<h.1
 g0:0≤g
 gm:g≤1000000
 n0:0≤n
 nm:n≤60
 len:x.length=f.length
 aff:m=4∨m=5→AffS f
theorem jJ {f:List Pl} (h:valS f=0):nH (f.length+1) f∧1≤f.length:=by
 obtain ⟨h1,h2,h3⟩:=sys_zero h
 refine ⟨⟨by omega,fun p hp => ⟨?_,fun t ht => ?_⟩⟩,by omega⟩
 ·exact Classical.byContradiction fun h => h2 ⟨p,hp,.inl (by omega)⟩
 ·have hb:¬ BadT ((f.length:Int)+1) t:=fun h => by
   obtain ⟨j,hj,rfl⟩:=List.getElem_of_mem ht
   exact h3 ⟨p,hp,j,hj,.inl h⟩
  have hw:¬ WideT true t:=fun h => h2 ⟨p,hp,.inr ⟨t,ht,h⟩⟩
  refine ⟨?_,Classical.byContradiction fun h => hb (.inr (.inl h)),fun k hk => ?_,?_⟩
  ·have:(t.2.length:Int)=(f.length:Int)+1:=Classical.byContradiction fun h => hb (.inl h)
   omega
  ·exact Classical.byContradiction fun h => hb (.inr (.inr (.inr ⟨k,hk,by omega⟩)))
  ·exact Classical.byContradiction fun h => hw (.inl (by omega))
noncomputable def tS (m:Int) (f:List Pl) (t:R2) (x:List R2) (h:R2) (g n:Int):Int :=
 bif dec (valS f=0) then bif dec (wE t.1 t.2∧tT x∧wE h.1 h.2) then bif dec (m<0∨6<m∨h.1≤0∨g<0∨1000000<g∨n<0∨60<n) then 1 else
  bif dec (x.length=f.length) then bif dec ((m=4∨m=5)∧¬ AffS f) then 6 else 0 else 8 else 1 else valS f
section
variable {m:Int} {f:List Pl} {t:R2} {x:List R2} {h:R2} {g n:Int}
theorem known_sys (h1:valS f≠0):tS m f t x h g n=valS f:=by
 unfold tS
 rw [yG.2 h1]
 rfl
theorem mG (h1:valS f=0) (h2:¬ (wE t.1 t.2∧tT x∧wE h.1 h.2)):tS m f t x h g n=1:=by
 unfold tS
 rw [yF.2 h1,yG.2 h2]
 rfl
theorem jF (h1:valS f=0) (h3:m<0∨6<m∨h.1≤0∨g<0∨1000000<g∨n<0∨60<n):tS m f t x h g n=1:=by
 by_cases h2:wE t.1 t.2∧tT x∧wE h.1 h.2
 ·unfold tS
  rw [yF.2 h1,yF.2 h2,yF.2 h3]
  rfl
 ·exact mG h1 h2
theorem known_fit (h1:valS f=0) (h2:wE t.1 t.2∧tT x∧wE h.1 h.2) (h3:¬ (m<0∨6<m∨h.1≤0∨g<0∨1000000<g∨n<0∨60<n)) (h4:x.length≠f.length):tS m f t x h g n=8:=by
 unfold tS
 rw [yF.2 h1,yF.2 h2,yG.2 h3,yG.2 h4]
 rfl
theorem known_aff (h1:valS f=0) (h2:wE t.1 t.2∧tT x∧wE h.1 h.2) (h3:¬ (m<0∨6<m∨h.1≤0∨g<0∨1000000<g∨n<0∨60<n)) (h4:x.length=f.length) (h5:(m=4∨m=5)∧¬ AffS f):tS m f t x h g n=6:=by
 unfold tS
 rw [yF.2 h1,yF.2 h2,yG.2 h3,yF.2 h4,yF.2 h5]
 rfl
theorem nA (h1:valS f=0) (h2:wE t.1 t.2∧tT x∧wE h.1 h.2) (h3:¬ (m<0∨6<m∨h.1≤0∨g<0∨1000000<g∨n<0∨60<n)) (h4:x.length=f.length) (h5:¬ ((m=4∨m=5)∧¬ AffS f)):tS m f t x h g n=0∧gV m f t x h g n:=by
 refine ⟨?_,h1,h2.1,h2.2.1,h2.2.2,by omega,by omega,by omega,by omega,by omega,by omega,by omega,h4,fun hm => Classical.byContradiction fun h => h5 ⟨hm,h⟩⟩
 unfold tS
 rw [yF.2 h1,yF.2 h2,yG.2 h3,yF.2 h4,yG.2 h5]
 rfl
end
def pJ (m:Int) (f:List Pl) (t:R2) (x:List R2) (h:R2) (g n:Int) (v:V):Prop:=∃ e:Int,v=i64 e∧(qY f→e=tS m f t x h g n)∧(e=0→gV m f t x h g n)
theorem pJ.of {m:Int} {f:List Pl} {t:R2} {x:List R2} {h:R2} {g n e:Int} {H:Hp} (h1:qY f→e=tS m f t x h g n) (h2:e≠0):∃ d,FzV H (i64 e) d∧pJ m f t x h g n d:=⟨_,.c (.hf trivial),e,rfl,h1,fun h => absurd h h2⟩
theorem nK:∀ (l m:List Int),sumP (l++m)=sumP l+sumP m
 | [],m => by simp [sumP]
 | x :: l,m => by simp only [List.cons_append,sumP,nK l m]; omega
theorem sT (a b:Int):yA Cm.neq a b=dec (a≠b):=rfl
attribute [local irreducible] yA semH semC qLen qNil qIad qSlc qIdx yW yN xB appX appI slcX awpF yQ xH xopF xN qval lval seqQ xI xY xW xT cnd arith IntKind.wrap
theorem step_Validate {c:C} {f:List Pl} (hc:Ls elM c f) (hf:f.length<wD):semC Tryz.prog n_step_Validate [.c c] (ValK f):=by
 refine yD ok_step_Validate rfl (show HFVs [.c c] from ⟨hc.hf,trivial⟩) ?_
 have hw:f.length≤3→arith .add .i64 (f.length:Int) 1=(f.length:Int)+1:=fun h => by rw [xC]; exact yI (by omega) (by omega)
 refine go13 ?_
 generalize arith .add .i64 (f.length:Int) 1=u at hw
 refine yB (step_Check 1 u true hc hf (fun h => by rw [hw h]; omega)) (fun u hu => ?_)
 obtain ⟨e,rfl,h1,h2,h3⟩:=hu
 refine go13 ?_
 refine ⟨_,.c (.hf trivial),e,rfl,fun hS => ?_,h2,h3⟩
 rw [h1 hS]
 unfold valS
 rcases Nat.lt_or_ge 3 f.length with h | h
 ·rw [hU (.inr h),hU (.inr h)]
 ·rw [hw h]
theorem step_isAffine {c:C} {f:List Pl} {m:Nat} (hc:Ls elM c f) (hf:nH m f) (hm:1≤m∧m≤1024):semC Tryz.prog n_step_isAffine [.c c] (uC (AffS f)):=by
 refine yD ok_step_isAffine rfl (show HFVs [.c c] from ⟨hc.hf,trivial⟩) ?_
 have hlen:=hf.len
 refine go13 ?_
 refine yR (fun w vs H => ∃ (i:Nat),vs=[.c c,i64 f.length,i64 i]∧w=f.length - i∧i≤f.length∧∀ p∈f.take i,∀ t∈p,sumP (t.2.take (t.2.length - 1))≤1) (by rfl) ⟨0,rfl,rfl,by omega,by simp⟩ ?_
 rintro w vs H ⟨i,rfl,rfl,i1,i2⟩
 refine go13 ?_
 cases hi:yA Cm.lss (i:Int) (f.length:Int)
 case false =>
  simp [yA] at hi
  rw [vE (by omega)] at i2
  refine go13 ?_
  exact ⟨_,.c (.hf trivial),true,rfl,⟨fun _ => i2,fun _ => rfl⟩⟩
 simp [yA] at hi
 refine go13 ?_
 refine uA hc (i:=i) hi (by omega) rfl (fun cs hcs => ?_)
 obtain ⟨d,rfl,hd,hdl⟩:=hcs
 have hp:=hf.poly f[i] (xZ hi)
 have hpl:=hp.len
 refine go13 ?_
 refine yR (fun w vs H => ∃ (j:Nat),vs=[.c c,i64 f.length,i64 i,.c d,i64 f[i].length,i64 j]∧w=f[i].length - j∧j≤f[i].length∧∀ t∈f[i].take j,sumP (t.2.take (t.2.length - 1))≤1) (by rfl) ⟨0,rfl,rfl,by omega,by simp⟩ ?_
 rintro w vs H ⟨j,rfl,rfl,j1,j2⟩
 refine go13 ?_
 cases hj:yA Cm.lss (j:Int) (f[i].length:Int)
 case false =>
  simp [yA] at hj
  rw [vE (by omega)] at j2
  refine go13 ?_
  rw [yZ i (by omega)]
  refine l_n (by rfl) (n':=f.length - (i+1)) (by omega) ⟨i+1,rfl,rfl,by omega,fun p hp => ?_⟩
  rw [xU hi] at hp
  rcases List.mem_append.1 hp with hp | hp
  ·exact i2 p hp
  ·simp at hp
   subst hp
   exact j2
 simp [yA] at hj
 refine go13 ?_
 refine uA hd (i:=j) hj (by omega) rfl (fun cs hcs => ?_)
 obtain ⟨e,rfl,he,hel⟩:=hcs
 have ht:=hp.term f[i][j] (xZ hj)
 have hxl:=ht.len
 refine go13 ?_
 rw [jK _ (by omega) (by omega)]
 refine slc_ls (l:=f[i][j].2) (a:=0) (b:=((f[i][j].2.length - 1:Nat):Int)) (by rfl) he rfl (by rfl) (by rfl) (by omega) (by omega) (by omega) (fun a1 ha1 => ?_)
 rw [show (f[i][j].2.drop (0:Int).toNat).take (((f[i][j].2.length - 1:Nat):Int).toNat - (0:Int).toNat)=f[i][j].2.take (f[i][j].2.length - 1) by simp] at ha1
 obtain ⟨L,hL⟩:∃ L,L=f[i][j].2.take (f[i][j].2.length - 1):=⟨_,rfl⟩
 rw [←hL] at ha1
 have hLl:L.length≤1024:=by rw [hL,List.length_take]; omega
 have hLn:∀ k∈L,0≤k:=fun k hk => ht.nn k (List.mem_of_mem_take (by rw [←hL]; exact hk))
 have hLs:sumP L≤12:=by rw [hL]; exact Int.le_trans (sumP_take _ _) ht.deg
 refine go13 ?_
 refine yR (fun w vs H => ∃ (k:Nat),vs=[i64 (sumP (L.take k)),.c c,i64 f.length,i64 i,.c d,i64 f[i].length,i64 j,.c a1,i64 L.length,i64 k]∧w=L.length - k∧k≤L.length) (by rfl) ⟨0,by simp [sumP,i64],rfl,by omega⟩ ?_
 rintro w vs H ⟨k,rfl,rfl,k1⟩
 refine go13 ?_
 cases hk:yA Cm.lss (k:Int) (L.length:Int)
 case false =>
  simp [yA] at hk
  rw [vE (by omega)]
  refine go13 ?_
  cases hg:yA Cm.gtr (sumP L) 1
  case true =>
   simp [yA] at hg
   refine go13 ?_
   refine ⟨_,.c (.hf trivial),false,rfl,⟨fun h => (by cases h),fun h => ?_⟩⟩
   have:=h f[i] (xZ hi) f[i][j] (xZ hj)
   rw [←hL] at this
   omega
  simp [yA] at hg
  refine go13 ?_
  rw [yZ j (by omega)]
  refine l_n (by rfl) (n':=f[i].length - (j+1)) (by omega) ⟨j+1,rfl,rfl,by omega,fun t ht => ?_⟩
  rw [xU hj] at ht
  rcases List.mem_append.1 ht with ht | ht
  ·exact j2 t ht
  ·simp at ht
   subst ht
   rw [←hL]
   exact hg
 simp [yA] at hk
 have hn:=hLn _ (xZ hk)
 have hs:arith .add .i64 (sumP (L.take k)) L[k]=sumP (L.take (k+1)):=by
  have h1:=sumP_take L (k+1)
  have h0:=nJ (L.take k)
  rw [xU hk,nK] at h1
  rw [xU hk,nK,xC]
  have h2:sumP [L[k]]=L[k]:=by
   simp only [sumP]
   split <;> omega
  rw [h2] at h1 ⊢
  exact yI (by omega) (by omega)
 refine go13 ?_
 rw [hs,yZ k (by omega)]
 exact l_n (by rfl) (n':=L.length - (k+1)) (by omega) ⟨k+1,rfl,rfl,by omega⟩
theorem step_known {cf cx:C} {f:List Pl} {x:List R2} (m:Int) (t h:R2) (g n:Int) (hc:Ls elM cf f) (hf:f.length<wD) (hx:Ls elP cx x) (hxl:x.length<wD):semC Tryz.prog n_step_known [i64 m,.c cf,.agg (ratC t),.c cx,.agg (ratC h),i64 g,i64 n] (pJ m f t x h g n):=by
 refine yD ok_step_known rfl (show HFVs [i64 m,.c cf,.agg (ratC t),.c cx,.agg (ratC h),i64 g,i64 n] from ⟨trivial,hc.hf,tN _,hx.hf,tN _,trivial,trivial,trivial⟩) ?_
 refine go13 ?_
 refine yB (step_Validate hc hf) (fun u hu => ?_)
 obtain ⟨e,rfl,v1,v2,v3⟩:=hu
 refine go13 ?_
 rw [sT]
 cases h1:dec (e≠0)
 case true =>
  have h1:=yF.1 h1
  refine go13 ?_
  exact pJ.of (fun hS => by rw [v1 hS] at h1 ⊢; rw [known_sys h1]) h1
 have h1:e=0:=Classical.byContradiction (yG.1 h1)
 have hS:=v2 h1
 have hv:valS f=0:=by rw [←v1 hS,h1]
 obtain ⟨hsys,hf1⟩:=jJ hv
 have hsl:=hsys.len
 refine go13 ?_
 refine yB (num_Valid t.1 t.2) (fun u hu => ?_)
 obtain ⟨z1,rfl,k1⟩:=hu
 cases z1
 case false =>
  refine go13 ?_
  exact pJ.of (fun _ => (mG hv (fun h => by cases k1.2 h.1)).symm) (by decide)
 refine go13 ?_
 refine yB (num_AllValidW hx hxl) (fun u hu => ?_)
 obtain ⟨z2,rfl,k2⟩:=hu
 cases z2
 case false =>
  refine go13 ?_
  exact pJ.of (fun _ => (mG hv (fun h => by cases k2.2 h.2.1)).symm) (by decide)
 refine go13 ?_
 refine yB (num_Valid h.1 h.2) (fun u hu => ?_)
 obtain ⟨z3,rfl,k3⟩:=hu
 cases z3
 case false =>
  refine go13 ?_
  exact pJ.of (fun _ => (mG hv (fun h => by cases k3.2 h.2.2)).symm) (by decide)
 have hr:wE t.1 t.2∧tT x∧wE h.1 h.2:=⟨k1.1 rfl,k2.1 rfl,k3.1 rfl⟩
 refine go13 ?_
 cases c1:yA Cm.lss m 0
 case true =>
  simp [yA] at c1
  refine go13 ?_
  exact pJ.of (fun _ => (jF hv (by omega)).symm) (by decide)
 simp [yA] at c1
 refine go13 ?_
 cases c2:yA Cm.gtr m 6
 case true =>
  simp [yA] at c2
  refine go13 ?_
  exact pJ.of (fun _ => (jF hv (by omega)).symm) (by decide)
 simp [yA] at c2
 refine go13 ?_
 cases c3:yA Cm.leq h.1 0
 case true =>
  simp [yA] at c3
  refine go13 ?_
  exact pJ.of (fun _ => (jF hv (by omega)).symm) (by decide)
 simp [yA] at c3
 refine go13 ?_
 cases c4:yA Cm.lss g 0
 case true =>
  simp [yA] at c4
  refine go13 ?_
  exact pJ.of (fun _ => (jF hv (by omega)).symm) (by decide)
 simp [yA] at c4
 refine go13 ?_
 cases c5:yA Cm.gtr g 1000000
 case true =>
  simp [yA] at c5
  refine go13 ?_
  exact pJ.of (fun _ => (jF hv (by omega)).symm) (by decide)
 simp [yA] at c5
 refine go13 ?_
 cases c6:yA Cm.lss n 0
 case true =>
  simp [yA] at c6
  refine go13 ?_
  exact pJ.of (fun _ => (jF hv (by omega)).symm) (by decide)
 simp [yA] at c6
 refine go13 ?_
 cases c7:yA Cm.gtr n 60
 case true =>
  simp [yA] at c7
  refine go13 ?_
  exact pJ.of (fun _ => (jF hv (by omega)).symm) (by decide)
 simp [yA] at c7
 have hno:¬ (m<0∨6<m∨h.1≤0∨g<0∨1000000<g∨n<0∨60<n):=by omega
 refine go13 ?_
 cases c8:yA Cm.neq (x.length:Int) (f.length:Int)
 case true =>
  simp [yA] at c8
  refine go13 ?_
  exact pJ.of (fun _ => (known_fit hv hr hno (by omega)).symm) (by decide)
 simp [yA] at c8
 refine go13 ?_
 cases c9:yA Cm.eql m 4
 case true =>
  simp [yA] at c9
  refine go13 ?_
  refine yB (step_isAffine hc hsys (by omega)) (fun u hu => ?_)
  obtain ⟨za,rfl,ka⟩:=hu
  cases za
  case false =>
   refine go13 ?_
   exact pJ.of (fun _ => (known_aff hv hr hno (by omega) ⟨by omega,fun h => by cases ka.2 h⟩).symm) (by decide)
  refine go13 ?_
  have hk:=nA (x:=x) hv hr hno (by omega) (fun h => h.2 (ka.1 rfl))
  exact ⟨_,.c (.hf trivial),0,rfl,fun _ => hk.1.symm,fun _ => hk.2⟩
 simp [yA] at c9
 refine go13 ?_
 cases c10:yA Cm.eql m 5
 case true =>
  simp [yA] at c10
  refine go13 ?_
  refine yB (step_isAffine hc hsys (by omega)) (fun u hu => ?_)
  obtain ⟨za,rfl,ka⟩:=hu
  cases za
  case false =>
   refine go13 ?_
   exact pJ.of (fun _ => (known_aff hv hr hno (by omega) ⟨by omega,fun h => by cases ka.2 h⟩).symm) (by decide)
  refine go13 ?_
  have hk:=nA (x:=x) hv hr hno (by omega) (fun h => h.2 (ka.1 rfl))
  exact ⟨_,.c (.hf trivial),0,rfl,fun _ => hk.1.symm,fun _ => hk.2⟩
 simp [yA] at c10
 refine go13 ?_
 have hk:=nA (x:=x) hv hr hno (by omega) (by omega)
 exact ⟨_,.c (.hf trivial),0,rfl,fun _ => hk.1.symm,fun _ => hk.2⟩
end Go.Proofs.YtokckcnfojjpjaaGreat

namespace Go.Proofs.YtokckcnfojjpjaaGreat
open Go.RowKit
set_option maxRecDepth 20000
theorem uW {a b:Nat} {p q:Rat} (h1:CpL a [p]) (h2:CpL b [q]):CpL (a+b+1) [p+q]:=by
 obtain ⟨D,g1,g2,g3⟩:=h1.append h2
 have c1:=g3 p (by simp)
 have c2:=g3 q (by simp)
 refine ⟨D,g1,Nat.le_trans g2 (Nat.pow_le_pow_right (by decide) (by omega)),fun r hr => ?_⟩
 simp at hr
 subst hr
 refine (c1.add c2).mono ?_
 rw [Nat.pow_succ]
 omega
theorem vF {a b:Nat} {p q:Rat} (h1:CpL a [p]) (h2:CpL b [q]):CpL (a+b) [p*q]:=by
 obtain ⟨D,g1,g2,g3⟩:=h1
 obtain ⟨E,f1,f2,f3⟩:=h2
 refine ⟨D*E,Nat.mul_pos g1 f1,two_mul rfl g2 f2,fun r hr => ?_⟩
 simp at hr
 subst hr
 rw [Nat.pow_add]
 exact (g3 p (by simp)).mul (f3 q (by simp))
theorem cp_frac {a b n:Nat} (h0:0<b) (h1:a≤2 ^ n) (h2:b≤2 ^ n) (s:Bool):CpL n [(((bif s then -(a:Int) else (a:Int)):Int):Rat) / ((b:Int):Rat)]:=by
 refine ⟨b,h0,h2,fun r hr => ?_⟩
 simp at hr
 subst hr
 have hb:(b:Rat)≠0:=by
  intro h
  have:b=0:=by exact_mod_cast h
  omega
 refine ⟨bif s then -(a:Int) else (a:Int),?_,?_⟩
 ·rw [Rat.intCast_natCast,Rat.div_mul_cancel hb]
 ·refine Nat.le_trans (show _≤a by cases s <;> simp) (Nat.le_trans h1 (Nat.le_mul_of_pos_right _ h0))
def yU (f:List Pl) (x:List Rat) (t:Rat):List Rat:=qP f (x++[t])
theorem wO {a b m:Nat} {f:List Pl} {x:List Rat} {t:Rat} (hf:nH m f) (hx:CpL a x) (ht:CpL b [t]):CpL (7200+12*(a+b)) (yU f x t):=field_cpl hf (hx.append ht)
theorem wA {f:List Pl} {x:List Rat} {t:Rat}:(yU f x t).length=f.length:=by simp [yU,qP]
def vJ:Rat:=((1:Int):Rat) / ((2:Int):Rat)
theorem nP:CpL 1 [vJ]:=cp_frac (a:=1) (b:=2) (n:=1) (by decide) (by decide) (by decide) false
theorem uV {z:Int} {n:Nat} (h:z.natAbs≤2 ^ n):CpL n [(z:Rat)]:=by
 refine ⟨1,by decide,Nat.one_le_two_pow,fun r hr => ?_⟩
 simp at hr
 subst hr
 exact (Cap.int z).mono h
def eulerV (f:List Pl) (h t:Rat) (x:List Rat):List Rat:=yM x h (yU f x t)
def heunV (f:List Pl) (h t:Rat) (x:List Rat):List Rat:=yM x (h*vJ) (yM (yU f x t) ((1:Int):Rat) (yU f (yM x h (yU f x t)) (t+h)))
def midV (f:List Pl) (h t:Rat) (x:List Rat):List Rat:=yM x h (yU f (yM x (h*vJ) (yU f x t)) (t+h*vJ))
def k1V (f:List Pl) (h t:Rat) (x:List Rat):List Rat:=yU f x t
def k2V (f:List Pl) (h t:Rat) (x:List Rat):List Rat:=yU f (yM x (h*vJ) (k1V f h t x)) (t+h*vJ)
def k3V (f:List Pl) (h t:Rat) (x:List Rat):List Rat:=yU f (yM x (h*vJ) (k2V f h t x)) (t+h*vJ)
def k4V (f:List Pl) (h t:Rat) (x:List Rat):List Rat:=yU f (yM x h (k3V f h t x)) (t+h)
def sumV (f:List Pl) (h t:Rat) (x:List Rat):List Rat:=yM (yM (yM (k1V f h t x) ((2:Int):Rat) (k2V f h t x)) ((2:Int):Rat) (k3V f h t x)) ((1:Int):Rat) (k4V f h t x)
def gT (f:List Pl) (h t:Rat) (x:List Rat):List Rat:=yM x (h / ((6:Int):Rat)) (sumV f h t x)
def OneK (r:Option (List Rat)) (u:V):Prop:=(∃ y c,r=some y∧u=.tup [.c c,.c (.bool true)]∧Ls (elQ 4194304) c y)∨(r=none∧u=.tup [.c .nilSl,.c (.bool false)])
theorem OneK.fz {y:List Rat} {c:C} {H:Hp} (h:Ls (elQ 4194304) c y):∃ d,FzV H (.tup [.c c,.c (.bool true)]) d∧OneK (some y) d:=⟨_,.tup (.cons (.c (.hf h.hf)) (.cons (.c (.hf trivial)) .nil)),.inl ⟨y,c,rfl,rfl,h⟩⟩
structure pQ (cf cx:C) (ch ct:List C) (f:List Pl) (x:List Rat) (h t:Rat):Prop where
 hc:Ls elM cf f
 hf:nH (x.length+1) f
 hl:f.length=x.length
 hh:IQ 4194304 ch h
 hx:Ls (elQ 4194304) cx x
 ht:IQ 4194304 ct t
 bx:CpL 120 x
 bt:CpL 90 [t]
 bh:CpL 45 [h]
section
variable {cf cx:C} {ch ct:List C} {f:List Pl} {x:List Rat} {h t:Rat}
theorem pQ.x3 (hi:pQ cf cx ch ct f x h t):x.length≤3:=by rw [←hi.hl]; exact hi.hf.len
theorem pQ.hfv (hi:pQ cf cx ch ct f x h t):HFVs [.agg (cf :: ch),.c cx,.agg ct]:=⟨⟨hi.hc.hf,hi.hh.hf⟩,hi.hx.hf,hi.ht.hf,trivial⟩
end
theorem vD {m n:Nat} {f:List Pl} (h:nH m f) (e:m=n):nH n f:=by rwa [←e]
attribute [local irreducible] yA semH semC qLen qNil qIad qSlc qIdx yW yN xB appX appI slcX awpF yQ xH xopF xN qval lval seqQ xI xY xW xT cnd arith IntKind.wrap
section
variable {cf cx:C} {ch ct:List C} {f:List Pl} {x:List Rat} {h t:Rat}
theorem pW (hi:pQ cf cx ch ct f x h t) {cy:C} {cs:List C} {y:List Rat} {s:Rat} {a b:Nat} (ly:Ls (elQ 4194304) cy y) (hy:y.length=x.length) (gs:IQ 4194304 cs s) (bY:CpL a y) (bS:CpL b [s]) (hn:2446+24*(a+b)<134217728):semC Tryz.prog n_step_system_rate [.agg (cf :: ch),.c cy,.agg cs] (LsK (elQ 4194304) (yU f y s)) :=
 step_rate hi.hc (vD hi.hf (by rw [hy])) hi.hh ly gs (by have:=hi.x3; omega) (bY.append bS) hn
theorem uX {x3:x.length≤3} (hx:Ls (elQ 4194304) cx x) {cc:List C} {ck:C} {k:List Rat} {c:Rat} {a d e:Nat} (bx:CpL a x) (hc:IQ 4194304 cc c) (bc:CpL d [c]) (lk:Ls (elQ 4194304) ck k) (hk:k.length=x.length) (bk:CpL e k) (hn:(a+d+e+1)+(a+d+e+1)<134217728):semC Tryz.prog n_step_along [.c cx,.agg cc,.c ck] (LsK (elQ 4194304) (yM x c k)) :=
 step_along hx hc lk hk (by omega) (wJ bx bc bk) hn
theorem mW {cs:List C} {q:Rat} {n:Nat} (h:IQ n cs q) (hn:n≤4194304):IQ 4194304 cs q:=h.up hn
theorem step_euler (hi:pQ cf cx ch ct f x h t):semC Tryz.prog n_step_method_2 [.agg (cf :: ch),.c cx,.agg ct] (OneK (some (eulerV f h t x))):=by
 refine yD ok_step_method_2 rfl hi.hfv ?_
 have h3:=hi.x3
 obtain ⟨a0,a1,a2,a3,a4,a5,rfl⟩:=id hi.hh.six
 obtain ⟨b0,b1,b2,b3,b4,b5,rfl⟩:=id hi.ht.six
 have c1:CpL 9720 (yU f x t):=(wO hi.hf hi.bx hi.bt).mono (by decide)
 have n1:(yU f x t).length=x.length:=by rw [wA,hi.hl]
 refine go13 ?_
 refine yH (pW hi hi.hx rfl hi.ht hi.bx hi.bt (by decide)) (fun u hu => ?_)
 obtain ⟨r1,rfl,l1⟩:=hu
 refine go13 ?_
 refine yB (uX (x3:=h3) hi.hx hi.bx hi.hh hi.bh l1 n1 c1 (by decide)) (fun u hu => ?_)
 obtain ⟨r2,rfl,l2⟩:=hu
 refine go13 ?_
 exact OneK.fz l2
theorem step_heun {hs:List C} (hi:pQ cf cx ch ct f x h t) (hhs:IQ 1 hs vJ):semC Tryz.prog n_step_method_1 [.agg (cf :: ch),.c cx,.agg ct,.c (.ipt hs)] (OneK (some (heunV f h t x))):=by
 refine yD ok_step_method_1 rfl (show HFVs [.agg (cf :: ch),.c cx,.agg ct,.c (.ipt hs)] from ⟨⟨hi.hc.hf,hi.hh.hf⟩,hi.hx.hf,hi.ht.hf,hhs.hf,trivial⟩) ?_
 have h3:=hi.x3
 obtain ⟨a0,a1,a2,a3,a4,a5,rfl⟩:=id hi.hh.six
 obtain ⟨b0,b1,b2,b3,b4,b5,rfl⟩:=id hi.ht.six
 obtain ⟨d0,d1,d2,d3,d4,d5,rfl⟩:=id hhs.six
 have c1:CpL 9720 (yU f x t):=(wO hi.hf hi.bx hi.bt).mono (by decide)
 have n1:(yU f x t).length=x.length:=by rw [wA,hi.hl]
 have c2:CpL 10000 (yM x h (yU f x t)):=(wJ hi.bx hi.bh c1).mono (by decide)
 have n2:(yM x h (yU f x t)).length=x.length:=yX n1
 have ct':CpL 140 [t+h]:=(uW hi.bt hi.bh).mono (by decide)
 have c3:CpL 130000 (yU f (yM x h (yU f x t)) (t+h)):=(wO (vD hi.hf (show _=(yM x h (yU f x t)).length+1 by rw [n2])) c2 ct').mono (by decide)
 have n3:(yU f (yM x h (yU f x t)) (t+h)).length=x.length:=by rw [wA,hi.hl]
 have c4:CpL 140000 (yM (yU f x t) ((1:Int):Rat) (yU f (yM x h (yU f x t)) (t+h))):=(wJ c1 (uV (n:=1) (by decide)) c3).mono (by decide)
 have n4:(yM (yU f x t) ((1:Int):Rat) (yU f (yM x h (yU f x t)) (t+h))).length=x.length:=by rw [yX (by rw [n1,n3]),n1]
 refine go13 ?_
 refine yB (pW hi hi.hx rfl hi.ht hi.bx hi.bt (by decide)) (fun u hu => ?_)
 obtain ⟨r1,rfl,l1⟩:=hu
 refine go13 ?_
 refine yH (uX (x3:=h3) hi.hx hi.bx hi.hh hi.bh l1 n1 c1 (by decide)) (fun u hu => ?_)
 obtain ⟨r2,rfl,l2⟩:=hu
 refine go13 ?_
 refine yH (bC hi.ht hi.hh (by decide)) (fun u hu => ?_)
 obtain ⟨r3,rfl,g3⟩:=hu
 have g3:=g3.tightS (ct'.bd (k:=4194304) (by decide) (by simp))
 refine go13 ?_
 refine yB (pW hi l2 n2 g3 c2 ct' (by decide)) (fun u hu => ?_)
 obtain ⟨r4,rfl,l4⟩:=hu
 refine go13 ?_
 refine yB (jN hi.hh hhs (by decide)) (fun u hu => ?_)
 obtain ⟨r5,rfl,g5⟩:=hu
 have g5:=g5.tightS ((vF hi.bh nP).bd (k:=4194304) (by decide) (by simp))
 refine go13 ?_
 refine yB (nL (g:=1) (by decide)) (fun u hu => ?_)
 obtain ⟨r6,rfl,g6⟩:=hu
 refine go13 ?_
 refine yB (uX (x3:=by omega) l1 c1 (mW g6 (by decide)) (uV (n:=1) (by decide)) l4 (by rw [n3,n1]) c3 (by decide)) (fun u hu => ?_)
 obtain ⟨r7,rfl,l7⟩:=hu
 refine go13 ?_
 refine yB (uX (x3:=h3) hi.hx hi.bx g5 (vF hi.bh nP) l7 n4 c4 (by decide)) (fun u hu => ?_)
 obtain ⟨r8,rfl,l8⟩:=hu
 refine go13 ?_
 exact OneK.fz l8
theorem step_mid {hs:List C} (hi:pQ cf cx ch ct f x h t) (hhs:IQ 1 hs vJ):semC Tryz.prog n_step_method_3 [.agg (cf :: ch),.c cx,.agg ct,.c (.ipt hs)] (OneK (some (midV f h t x))):=by
 refine yD ok_step_method_3 rfl (show HFVs [.agg (cf :: ch),.c cx,.agg ct,.c (.ipt hs)] from ⟨⟨hi.hc.hf,hi.hh.hf⟩,hi.hx.hf,hi.ht.hf,hhs.hf,trivial⟩) ?_
 have h3:=hi.x3
 obtain ⟨a0,a1,a2,a3,a4,a5,rfl⟩:=id hi.hh.six
 obtain ⟨b0,b1,b2,b3,b4,b5,rfl⟩:=id hi.ht.six
 obtain ⟨d0,d1,d2,d3,d4,d5,rfl⟩:=id hhs.six
 have c1:CpL 9720 (yU f x t):=(wO hi.hf hi.bx hi.bt).mono (by decide)
 have n1:(yU f x t).length=x.length:=by rw [wA,hi.hl]
 have bh2:=vF hi.bh nP
 have c2:CpL 10000 (yM x (h*vJ) (yU f x t)):=(wJ hi.bx bh2 c1).mono (by decide)
 have n2:(yM x (h*vJ) (yU f x t)).length=x.length:=yX n1
 have ct':CpL 140 [t+h*vJ]:=(uW hi.bt bh2).mono (by decide)
 have c3:CpL 130000 (yU f (yM x (h*vJ) (yU f x t)) (t+h*vJ)):=(wO (vD hi.hf (show _=(yM x (h*vJ) (yU f x t)).length+1 by rw [n2])) c2 ct').mono (by decide)
 have n3:(yU f (yM x (h*vJ) (yU f x t)) (t+h*vJ)).length=x.length:=by rw [wA,hi.hl]
 refine go13 ?_
 refine yB (jN hi.hh hhs (by decide)) (fun u hu => ?_)
 obtain ⟨r5,rfl,g5⟩:=hu
 have g5:=g5.tightS (bh2.bd (k:=4194304) (by decide) (by simp))
 obtain ⟨e0,e1,e2,e3,e4,e5,rfl⟩:=id g5.six
 refine go13 ?_
 refine yH (pW hi hi.hx rfl hi.ht hi.bx hi.bt (by decide)) (fun u hu => ?_)
 obtain ⟨r1,rfl,l1⟩:=hu
 refine go13 ?_
 refine yH (uX (x3:=h3) hi.hx hi.bx g5 bh2 l1 n1 c1 (by decide)) (fun u hu => ?_)
 obtain ⟨r2,rfl,l2⟩:=hu
 refine go13 ?_
 refine yH (bC hi.ht g5 (by decide)) (fun u hu => ?_)
 obtain ⟨r3,rfl,g3⟩:=hu
 have g3:=g3.tightS (ct'.bd (k:=4194304) (by decide) (by simp))
 refine go13 ?_
 refine yH (pW hi l2 n2 g3 c2 ct' (by decide)) (fun u hu => ?_)
 obtain ⟨r4,rfl,l4⟩:=hu
 refine go13 ?_
 refine yB (uX (x3:=h3) hi.hx hi.bx hi.hh hi.bh l4 n3 c3 (by decide)) (fun u hu => ?_)
 obtain ⟨r8,rfl,l8⟩:=hu
 refine go13 ?_
 exact OneK.fz l8
theorem step_classic {hs:List C} (hi:pQ cf cx ch ct f x h t) (hhs:IQ 1 hs vJ):semC Tryz.prog n_step_method_4 [.agg (cf :: ch),.c cx,.agg ct,.c (.ipt hs)] (OneK (some (gT f h t x))):=by
 refine yD ok_step_method_4 rfl (show HFVs [.agg (cf :: ch),.c cx,.agg ct,.c (.ipt hs)] from ⟨⟨hi.hc.hf,hi.hh.hf⟩,hi.hx.hf,hi.ht.hf,hhs.hf,trivial⟩) ?_
 have h3:=hi.x3
 obtain ⟨a0,a1,a2,a3,a4,a5,rfl⟩:=id hi.hh.six
 obtain ⟨b0,b1,b2,b3,b4,b5,rfl⟩:=id hi.ht.six
 obtain ⟨d0,d1,d2,d3,d4,d5,rfl⟩:=id hhs.six
 have bh2:=vF hi.bh nP
 have ct2:CpL 140 [t+h*vJ]:=(uW hi.bt bh2).mono (by decide)
 have ct1:CpL 140 [t+h]:=(uW hi.bt hi.bh).mono (by decide)
 have c1:CpL 9720 (k1V f h t x):=(wO hi.hf hi.bx hi.bt).mono (by decide)
 have n1:(k1V f h t x).length=x.length:=by rw [k1V,wA,hi.hl]
 have p1:CpL 10000 (yM x (h*vJ) (k1V f h t x)):=(wJ hi.bx bh2 c1).mono (by decide)
 have m1:(yM x (h*vJ) (k1V f h t x)).length=x.length:=yX n1
 have c2:CpL 130000 (k2V f h t x):=(wO (vD hi.hf (show _=(yM x (h*vJ) (k1V f h t x)).length+1 by rw [m1])) p1 ct2).mono (by decide)
 have n2:(k2V f h t x).length=x.length:=by rw [k2V,wA,hi.hl]
 have p2:CpL 131000 (yM x (h*vJ) (k2V f h t x)):=(wJ hi.bx bh2 c2).mono (by decide)
 have m2:(yM x (h*vJ) (k2V f h t x)).length=x.length:=yX n2
 have c3:CpL 1600000 (k3V f h t x):=(wO (vD hi.hf (show _=(yM x (h*vJ) (k2V f h t x)).length+1 by rw [m2])) p2 ct2).mono (by decide)
 have n3:(k3V f h t x).length=x.length:=by rw [k3V,wA,hi.hl]
 have p3:CpL 1610000 (yM x h (k3V f h t x)):=(wJ hi.bx hi.bh c3).mono (by decide)
 have m3:(yM x h (k3V f h t x)).length=x.length:=yX n3
 have c4:CpL 19400000 (k4V f h t x):=(wO (vD hi.hf (show _=(yM x h (k3V f h t x)).length+1 by rw [m3])) p3 ct1).mono (by decide)
 have n4:(k4V f h t x).length=x.length:=by rw [k4V,wA,hi.hl]
 have s1:CpL 140000 (yM (k1V f h t x) ((2:Int):Rat) (k2V f h t x)):=(wJ c1 (uV (n:=1) (by decide)) c2).mono (by decide)
 have q1:(yM (k1V f h t x) ((2:Int):Rat) (k2V f h t x)).length=x.length:=by rw [yX (by rw [n1,n2]),n1]
 have s2:CpL 1800000 (yM (yM (k1V f h t x) ((2:Int):Rat) (k2V f h t x)) ((2:Int):Rat) (k3V f h t x)):=(wJ s1 (uV (n:=1) (by decide)) c3).mono (by decide)
 have q2:(yM (yM (k1V f h t x) ((2:Int):Rat) (k2V f h t x)) ((2:Int):Rat) (k3V f h t x)).length=x.length:=by rw [yX (by rw [q1,n3]),q1]
 have s3:CpL 22000000 (sumV f h t x):=(wJ s2 (uV (n:=1) (by decide)) c4).mono (by decide)
 have q3:(sumV f h t x).length=x.length:=by rw [sumV,yX (by rw [q2,n4]),q2]
 refine go13 ?_
 refine yB (jN hi.hh hhs (by decide)) (fun u hu => ?_)
 obtain ⟨r5,rfl,g5⟩:=hu
 have g5:=g5.tightS (bh2.bd (k:=4194304) (by decide) (by simp))
 obtain ⟨e0,e1,e2,e3,e4,e5,rfl⟩:=id g5.six
 refine go13 ?_
 refine yB (pW hi hi.hx rfl hi.ht hi.bx hi.bt (by decide)) (fun u hu => ?_)
 obtain ⟨r1,rfl,l1⟩:=hu
 have l1:Ls (elQ 4194304) r1 (k1V f h t x):=l1
 refine go13 ?_
 refine yH (uX (x3:=h3) hi.hx hi.bx g5 bh2 l1 n1 c1 (by decide)) (fun u hu => ?_)
 obtain ⟨r2,rfl,l2⟩:=hu
 refine go13 ?_
 refine yH (bC hi.ht g5 (by decide)) (fun u hu => ?_)
 obtain ⟨r3,rfl,g3⟩:=hu
 have g3:=g3.tightS (ct2.bd (k:=4194304) (by decide) (by simp))
 refine go13 ?_
 refine yB (pW hi l2 m1 g3 p1 ct2 (by decide)) (fun u hu => ?_)
 obtain ⟨r4,rfl,l4⟩:=hu
 have l4:Ls (elQ 4194304) r4 (k2V f h t x):=l4
 refine go13 ?_
 refine goN ?_
 refine yH (uX (x3:=h3) hi.hx hi.bx g5 bh2 l4 n2 c2 (by decide)) (fun u hu => ?_)
 obtain ⟨r6,rfl,l6⟩:=hu
 refine go13 ?_
 refine yH (bC hi.ht g5 (by decide)) (fun u hu => ?_)
 obtain ⟨r7,rfl,g7⟩:=hu
 have g7:=g7.tightS (ct2.bd (k:=4194304) (by decide) (by simp))
 refine go13 ?_
 refine yB (pW hi l6 m2 g7 p2 ct2 (by decide)) (fun u hu => ?_)
 obtain ⟨r8,rfl,l8⟩:=hu
 have l8:Ls (elQ 4194304) r8 (k3V f h t x):=l8
 refine go13 ?_
 refine goN ?_
 refine yH (uX (x3:=h3) hi.hx hi.bx hi.hh hi.bh l8 n3 c3 (by decide)) (fun u hu => ?_)
 obtain ⟨r9,rfl,l9⟩:=hu
 refine go13 ?_
 refine yH (bC hi.ht hi.hh (by decide)) (fun u hu => ?_)
 obtain ⟨r10,rfl,g10⟩:=hu
 have g10:=g10.tightS (ct1.bd (k:=4194304) (by decide) (by simp))
 refine go13 ?_
 refine yB (pW hi l9 m3 g10 p3 ct1 (by decide)) (fun u hu => ?_)
 obtain ⟨r11,rfl,l11⟩:=hu
 have l11:Ls (elQ 4194304) r11 (k4V f h t x):=l11
 refine go13 ?_
 refine goN ?_
 refine yH (nL (g:=2) (by decide)) (fun u hu => ?_)
 obtain ⟨r12,rfl,g12⟩:=hu
 refine go13 ?_
 refine yH (uX (x3:=by omega) l1 c1 (mW g12 (by decide)) (uV (n:=1) (by decide)) l4 (by rw [n2,n1]) c2 (by decide)) (fun u hu => ?_)
 obtain ⟨r13,rfl,l13⟩:=hu
 have l13:Ls (elQ 4194304) r13 (yM (k1V f h t x) ((2:Int):Rat) (k2V f h t x)):=l13
 refine go13 ?_
 refine yH (nL (g:=2) (by decide)) (fun u hu => ?_)
 obtain ⟨r14,rfl,g14⟩:=hu
 refine go13 ?_
 refine yH (uX (x3:=by omega) l13 s1 (mW g14 (by decide)) (uV (n:=1) (by decide)) l8 (by rw [q1,n3]) c3 (by decide)) (fun u hu => ?_)
 obtain ⟨r15,rfl,l15⟩:=hu
 have l15:Ls (elQ 4194304) r15 (yM (yM (k1V f h t x) ((2:Int):Rat) (k2V f h t x)) ((2:Int):Rat) (k3V f h t x)):=l15
 refine go13 ?_
 refine yH (nL (g:=1) (by decide)) (fun u hu => ?_)
 obtain ⟨r16,rfl,g16⟩:=hu
 refine go13 ?_
 refine yB (uX (x3:=by omega) l15 s2 (mW g16 (by decide)) (uV (n:=1) (by decide)) l11 (by rw [q2,n4]) c4 (by decide)) (fun u hu => ?_)
 obtain ⟨r17,rfl,l17⟩:=hu
 have l17:Ls (elQ 4194304) r17 (sumV f h t x):=l17
 refine go13 ?_
 refine yH (nL (g:=6) (by decide)) (fun u hu => ?_)
 obtain ⟨r18,rfl,g18⟩:=hu
 refine go13 ?_
 refine yB (q_Div2 hi.hh g18 (by decide) (by decide)) (fun u hu => ?_)
 obtain ⟨r19,rfl,g19⟩:=hu
 have b19:CpL 49 [h / ((6:Int):Rat)]:=by
  have:=vF hi.bh (cp_frac (a:=1) (b:=6) (n:=3) (by decide) (by decide) (by decide) false)
  have e:h*((((bif false then -((1:Nat):Int) else ((1:Nat):Int)):Int):Rat) / (((6:Nat):Int):Rat))=h / ((6:Int):Rat):=by
   simp only [cond_false]
   grind
  rw [e] at this
  exact this.mono (by decide)
 have g19:=g19.tightS (b19.bd (k:=4194304) (by decide) (by simp))
 refine go13 ?_
 refine yB (uX (x3:=h3) hi.hx hi.bx g19 b19 l17 q3 s3 (by decide)) (fun u hu => ?_)
 obtain ⟨r20,rfl,l20⟩:=hu
 refine go13 ?_
 exact OneK.fz l20
end
end Go.Proofs.YtokckcnfojjpjaaGreat

namespace Go.Proofs.YtokckcnfojjpjaaGreat
open Go.RowKit
set_option maxRecDepth 20000
abbrev Mx:=Nat→Nat→Rat
def qE (M:Mx) (k p:Nat):Mx:=fun i => if i=k then M p else if i=p then M k else M i
noncomputable def bE (M:Mx) (k:Nat):Mx:=fun i j => bif dec (i=k∨M i k=0∨j<k) then M i j else M i j - M i k / M k k*M k j
def IsPiv (M:Mx) (n k p:Nat):Prop:=k≤p∧p<n∧M p k≠0∧∀ i,k≤i→i<p→M i k=0
noncomputable def stageV (n k:Nat) (M:Mx):Option Mx:=bif dec (∃ p,IsPiv M n k p) then some (bE (qE M k (Classical.epsilon fun p => IsPiv M n k p)) k) else none
noncomputable def uN (n:Nat) (M:Mx):Nat→Option Mx
 | 0 => some M
 | k+1 => (uN n M k).bind (stageV n k)
noncomputable def jL (n:Nat) (M:Mx):Option (List Rat):=(uN n M n).map fun R => (List.range n).map fun i => R i n / R i i
def tW (n k:Nat):List Rat:=(List.replicate n (0:Rat)).set k 1
noncomputable def impM (f:List Pl) (x:List Rat) (a t:Rat):Mx:=fun i j =>
 if j<x.length then (if i=j then -(a*((yU f (tW x.length j) t).getD i 0 - (yU f (List.replicate x.length 0) t).getD i 0))+1 else -(a*((yU f (tW x.length j) t).getD i 0 - (yU f (List.replicate x.length 0) t).getD i 0)))
 else x.getD i 0+a*(yU f (List.replicate x.length 0) t).getD i 0
noncomputable def tP (f:List Pl) (x:List Rat) (a t:Rat):Option (List Rat):=jL x.length (impM f x a t)
noncomputable def mA (f:List Pl) (h t:Rat) (x:List Rat):Option (List Rat):=tP f (yM x (h*vJ) (yU f x t)) (h*vJ) (t+h)
noncomputable def wF (m:Int) (f:List Pl) (h t:Rat) (x:List Rat):Option (List Rat) :=
 bif dec (m=0) then some (eulerV f h t x) else bif dec (m=1∨m=6) then some (heunV f h t x) else bif dec (m=2) then some (midV f h t x) else
  bif dec (m=3) then some (gT f h t x) else bif dec (m=4) then tP f x h (t+h) else mA f h t x
def DoK (m:Int) (u:V):Prop:=∃ g caps,u=.c (.fn g caps)∧HFL caps∧∀ {cf cx:C} {ch ct:List C} {f:List Pl} {x:List Rat} {h t:Rat},pQ cf cx ch ct f x h t→(m=4∨m=5→AffS f)→semC Tryz.prog g ([.agg (cf :: ch),.c cx,.agg ct]++caps.map .c) (OneK (wF m f h t x))
def ImpOk (m:Int):Prop:=∀ {cf cx:C} {ch ct hs:List C} {f:List Pl} {x:List Rat} {h t:Rat},pQ cf cx ch ct f x h t→AffS f→IQ 1 hs vJ→(m=4→semC Tryz.prog n_step_method_5 [.agg (cf :: ch),.c cx,.agg ct] (OneK (tP f x h (t+h))))∧(m=5→semC Tryz.prog n_step_method_6 [.agg (cf :: ch),.c cx,.agg ct,.c (.ipt hs)] (OneK (mA f h t x)))
theorem DoK.fn {m:Int} {H:Hp} {g:FuncId} (h:∀ {cf cx:C} {ch ct:List C} {f:List Pl} {x:List Rat} {h t:Rat},pQ cf cx ch ct f x h t→(m=4∨m=5→AffS f)→semC Tryz.prog g [.agg (cf :: ch),.c cx,.agg ct] (OneK (wF m f h t x))):∃ d,FzV H (.c (.fn g [])) d∧DoK m d:=⟨_,.c (.fn .nil),g,[],rfl,trivial,h⟩
theorem DoK.fnP {m:Int} {H:Hp} {g:FuncId} {b:Nat} {hs:List C} {el:TypeId} (hb:H[b]?=some (.live ⟨hs,el,.rw⟩)) (hh:IQ 1 hs vJ) (h:∀ {cf cx:C} {ch ct:List C} {f:List Pl} {x:List Rat} {h t:Rat},pQ cf cx ch ct f x h t→(m=4∨m=5→AffS f)→semC Tryz.prog g [.agg (cf :: ch),.c cx,.agg ct,.c (.ipt hs)] (OneK (wF m f h t x))):∃ d,FzV H (.c (.fn g [.ptr b 0])) d∧DoK m d :=
 ⟨_,.c (.fn (.cons (.ptr hb (by simp) (by simp) (.hf hh.hf)) .nil)),g,[.ipt hs],rfl,⟨hh.hf,trivial⟩,h⟩
theorem one_0 {f:List Pl} {h t:Rat} {x:List Rat}:wF 0 f h t x=some (eulerV f h t x):=by simp [wF,dec]
theorem one_1 {f:List Pl} {h t:Rat} {x:List Rat}:wF 1 f h t x=some (heunV f h t x):=by simp [wF,dec]
theorem one_6 {f:List Pl} {h t:Rat} {x:List Rat}:wF 6 f h t x=some (heunV f h t x):=by simp [wF,dec]
theorem one_2 {f:List Pl} {h t:Rat} {x:List Rat}:wF 2 f h t x=some (midV f h t x):=by simp [wF,dec]
theorem one_3 {f:List Pl} {h t:Rat} {x:List Rat}:wF 3 f h t x=some (gT f h t x):=by simp [wF,dec]
theorem one_4 {f:List Pl} {h t:Rat} {x:List Rat}:wF 4 f h t x=tP f x h (t+h):=by simp [wF,dec]
theorem one_5 {f:List Pl} {h t:Rat} {x:List Rat}:wF 5 f h t x=mA f h t x:=by simp [wF,dec]
attribute [local irreducible] yA semH semC qLen qNil qIad qSlc qIdx yW yN xB appX appI slcX awpF yQ xH xopF xN qval lval seqQ xI xY xW xT cnd arith IntKind.wrap
theorem step_method {m:Int} (h0:0≤m) (h6:m≤6) (hi:ImpOk m):semC Tryz.prog n_step_method [i64 m] (DoK m):=by
 refine yD ok_step_method rfl (show HFVs [i64 m] from ⟨trivial,trivial⟩) ?_
 have hm:m=0∨m=1∨m=2∨m=3∨m=4∨m=5∨m=6:=by omega
 refine go13 ?_
 refine yB (q_Frac (a:=1) (b:=2) (by decide) (by decide) (by decide)) (fun u hu => ?_)
 obtain ⟨hs,rfl,g1⟩:=hu
 obtain ⟨a0,a1,a2,a3,a4,a5,rfl⟩:=id g1.six
 have g1:IQ 1 [a0,a1,a2,a3,a4,a5] vJ:=g1
 rcases hm with rfl | rfl | rfl | rfl | rfl | rfl | rfl
 case inl =>
  refine go13 ?_
  exact DoK.fn (fun hj _ => by rw [one_0]; exact step_euler hj)
 case inr.inl =>
  refine go13 ?_
  exact DoK.fnP (by rfl) g1 (fun hj _ => by rw [one_1]; exact step_heun hj g1)
 case inr.inr.inl =>
  refine go13 ?_
  exact DoK.fnP (by rfl) g1 (fun hj _ => by rw [one_2]; exact step_mid hj g1)
 case inr.inr.inr.inl =>
  refine go13 ?_
  exact DoK.fnP (by rfl) g1 (fun hj _ => by rw [one_3]; exact step_classic hj g1)
 case inr.inr.inr.inr.inl =>
  refine go13 ?_
  exact DoK.fn (fun hj ha => by rw [one_4]; exact (hi hj (ha (.inl rfl)) g1).1 rfl)
 case inr.inr.inr.inr.inr.inl =>
  refine go13 ?_
  exact DoK.fnP (by rfl) g1 (fun hj ha => by rw [one_5]; exact (hi hj (ha (.inr rfl)) g1).2 rfl)
 case inr.inr.inr.inr.inr.inr =>
  refine go13 ?_
  exact DoK.fnP (by rfl) g1 (fun hj _ => by rw [one_6]; exact step_heun hj g1)
end Go.Proofs.YtokckcnfojjpjaaGreat

namespace Go.Proofs.YtokckcnfojjpjaaGreat
open Go.RowKit
set_option maxRecDepth 20000
def elL (k:Nat):El (List Rat):=⟨fun cs l => ∃ c,cs=[c]∧Ls (elQ k) c l,1,fun h => by obtain ⟨c,rfl,_⟩:=h; rfl,fun h => by obtain ⟨c,rfl,h⟩:=h; exact ⟨h.hf,trivial⟩⟩
noncomputable def uT (m:Int) (f:List Pl) (h a:Rat) (i:Nat) (last prev:List Rat):Option (List Rat) :=
 bif dec (m=6∧0<i) then some (yM (yM last (h*(((3:Int):Rat) / ((2:Int):Rat))) (yU f last a)) (h*(((-1:Int):Rat) / ((2:Int):Rat))) (yU f prev (a - h))) else wF m f h a last
noncomputable def wG (m:Int) (f:List Pl) (h t:Rat) (g:Int) (i:Nat) (out:List (List Rat)):Except Int (List (List Rat)) :=
 match uT m f h (t+h*((i:Int):Rat)) i (out.getD i []) (out.getD (i - 1) []) with
 | none => .error 4
 | some y => bif dec (uZ (y.map (rdV g))) then .ok (out++[y.map (rdV g)]) else .error 3
noncomputable def runV (m:Int) (f:List Pl) (h t:Rat) (g:Int) (x:List Rat):Nat→Except Int (List (List Rat))
 | 0 => .ok [x]
 | i+1 => match runV m f h t g x i with
  | .error e => .error e
  | .ok out => wG m f h t g i out
theorem uK {m:Int} {f:List Pl} {h t:Rat} {g:Int} {x:List Rat} {i n:Nat} {e:Int} (h1:runV m f h t g x i=.error e) (hn:i≤n):runV m f h t g x n=.error e:=by
 induction n with
 | zero =>
  have:i=0:=by omega
  subst this
  exact h1
 | succ n ih =>
  rcases Nat.lt_or_ge i (n+1) with h | h
  ·simp only [runV,ih (by omega)]
  ·have:i=n+1:=by omega
   subst this
   exact h1
def RunK (r:Except Int (List (List Rat))) (u:V):Prop:=(∃ e,r=.error e∧e≠0∧u=.tup [.c .nilSl,i64 e])∨(∃ out c,r=.ok out∧u=.tup [.c c,i64 0]∧Ls (elL 2) c out)
def Told (f:List Pl) (l:List Rat):Prop:=l.length=f.length∧uZ l
theorem tQ {f:List Pl} {l:List Rat} (hf:f.length≤3) (h:Told f l):CpL 120 l:=by
 have h1:tT (l.map rp):=fun p hp => by
  obtain ⟨q,hq,rfl⟩:=List.mem_map.1 hp
  exact fit_ratS (h.2 q hq)
 have h2:=CpL.rats h1
 have h3:(l.map rp).map rt=l:=by
  rw [List.map_map]
  conv => rhs; rw [←List.map_id l]
  exact List.map_congr_left fun q _ => rt_rp q
 rw [h3,List.length_map] at h2
 exact h2.mono (by have:=h.1; omega)
theorem cp_neg {a:Nat} {p:Rat} (h:CpL a [p]):CpL a [-p]:=by
 obtain ⟨D,g1,g2,g3⟩:=h
 refine ⟨D,g1,g2,fun r hr => ?_⟩
 simp at hr
 subst hr
 exact (g3 p (by simp)).neg
theorem cp_sub {a b:Nat} {p q:Rat} (h1:CpL a [p]) (h2:CpL b [q]):CpL (a+b+1) [p - q]:=by
 rw [Rat.sub_eq_add_neg]
 exact uW h1 (cp_neg h2)
theorem c32:CpL 2 [((3:Int):Rat) / ((2:Int):Rat)]:=cp_frac (a:=3) (b:=2) (n:=2) (by decide) (by decide) (by decide) false
theorem c12:CpL 2 [((-1:Int):Rat) / ((2:Int):Rat)]:=cp_frac (a:=1) (b:=2) (n:=2) (by decide) (by decide) (by decide) true
theorem ld_L {k:Nat} {c:C} {l:List (List Rat)} {n i:Nat} {K:V→Prop} (hc:Ls (elL k) c l) (hi:i<l.length) (hn:n=i) (h:∀ d,Ls (elQ k) d l[i]→K (.c d)):yN (c.ds.drop (n*1)) false 1 K:=by
 subst hn
 obtain ⟨cs,r,⟨d,rfl,h1⟩,h2⟩:=hc.els.get hi
 have h2:c.ds.drop (n*1)=[d]++r:=h2
 rw [h2]
 exact h d h1
theorem Out.isSl {α:Type} {E:El α} {el:TypeId} {m:Nat} {H:Hp} {c:C} {l:List α} (h:Out E el m H c l) (h0:0<l.length):∃ b co,c=.sl b 0 l.length co E.s:=by
 cases h with
 | nil => simp at h0
 | @sl b n co cells ds _ hm hb hn hc hE =>
  subst hn
  exact ⟨b,co,rfl⟩
theorem Out.extS {α:Type} {E:El α} {el:TypeId} {m:Nat} {H S:Hp} {c:C} {l:List α} (h:Out E el m H c l):Out E el m (H++S) c l:=by
 cases h with
 | nil => exact .nil
 | sl hm hb hn hc h => exact .sl hm (by rw [List.getElem?_append_left (lt_of_getElem? hb)]; exact hb) hn hc h
theorem ld_outL {k:Nat} {el:TypeId} {m n i b off:Nat} {co:Option Nat} {H:Hp} {l:List (List Rat)} {K:V→Prop} (ho:Out (elL k) el m H (.sl b off n co 1) l) (hi:i<l.length) {o:Nat} (hof:o=off+i*1) (h:∀ d,Ls (elQ k) d l[i]→K (.c d)):yW H[b]? false 1 o K:=by
 subst hof
 cases ho with
 | @sl _ _ _ cells ds _ hm hb hn hc hE =>
  obtain ⟨cs,r,⟨d,rfl,h1⟩,h2⟩:=hE.get hi
  refine xA (c:=d) hb ?_ (h d h1)
  simp only
  have e:ds[i*1]?=some d:=by
   have:=congrArg (·[0]?) h2
   simpa [List.getElem?_drop,elL] using this
  rw [←hc,List.getElem?_take] at e
  split at e
  ·simpa using e
  ·cases e
theorem x_callG {P:Program} {e:Env} {H:Hp} {K:V→Hp→Prop} {f:AO} {args:List AO} {g:FuncId} {us:List V} {cs:List C} (h:f.ev e=some (.c (.fn g cs))) (h2:evs e args=some us) (k:semH P g (us++cs.map .c) H K):xopF P e H (.call f args) K:=by
 cases cs with
 | nil =>
  rw [List.map_nil,List.append_nil] at k
  exact gX h h2 k
 | cons c cs => exact x_callc h h2 k
theorem mF {m:Int} {f:List Pl} {h t:Rat} {x y:List Rat} (hl:f.length=x.length) (hy:wF m f h t x=some y):y.length=x.length:=by
 have r:∀ z s,(yU f z s).length=x.length:=fun z s => by rw [wA,hl]
 have sol:∀ {n:Nat} {M:Mx} {z:List Rat},jL n M=some z→z.length=n:=by
  intro n M z hz
  unfold jL at hz
  cases hg:uN n M n with
  | none => rw [hg] at hz; cases hz
  | some R =>
   rw [hg] at hz
   simp at hz
   subst hz
   simp
 unfold wF at hy
 cases h0:dec (m=0) <;> rw [h0] at hy
 case true =>
  cases hy
  exact yX (r _ _)
 cases h1:dec (m=1∨m=6) <;> rw [h1] at hy
 case true =>
  cases hy
  refine yX ?_
  rw [yX] <;> simp [r]
 cases h2:dec (m=2) <;> rw [h2] at hy
 case true =>
  cases hy
  exact yX (r _ _)
 cases h3:dec (m=3) <;> rw [h3] at hy
 case true =>
  cases hy
  refine yX ?_
  have k1:(k1V f h t x).length=x.length:=r _ _
  have k2:(k2V f h t x).length=x.length:=r _ _
  have k3:(k3V f h t x).length=x.length:=r _ _
  have k4:(k4V f h t x).length=x.length:=r _ _
  have q1:(yM (k1V f h t x) ((2:Int):Rat) (k2V f h t x)).length=x.length:=by rw [yX (by rw [k1,k2]),k1]
  have q2:(yM (yM (k1V f h t x) ((2:Int):Rat) (k2V f h t x)) ((2:Int):Rat) (k3V f h t x)).length=x.length:=by rw [yX (by rw [q1,k3]),q1]
  rw [sumV,yX (by rw [q2,k4]),q2]
 cases h4:dec (m=4) <;> rw [h4] at hy
 case true => exact sol hy
 have:=sol hy
 rw [this]
 exact yX (r _ _)
attribute [local irreducible] yA semH semC qLen qNil qIad qSlc qIdx yW yN xB appX appI slcX awpF yQ xH xopF xN qval lval seqQ xI xY xW xT cnd arith IntKind.wrap
theorem step_run {cf cx:C} {ch ct:List C} {f:List Pl} {x:List Rat} {h t:Rat} {m g:Int} {n:Nat} (hc:Ls elM cf f) (hf:nH (f.length+1) f) (hx:Ls (elQ 2) cx x) (hT:Told f x) (hh:IQ 8 ch h) (bh:CpL 42 [h]) (ht:IQ 8 ct t) (bt:CpL 40 [t]) (m0:0≤m) (m6:m≤6) (hg:g<4294967296) (hn:n≤60) (hi:ImpOk m) (ha:m=4∨m=5→AffS f) :
  semC Tryz.prog n_step_run [i64 m,.agg (cf :: ch),.agg ct,.c cx,i64 g,i64 n] (RunK (runV m f h t g x n)):=by
 refine yD ok_step_run rfl (show HFVs [i64 m,.agg (cf :: ch),.agg ct,.c cx,i64 g,i64 n] from ⟨trivial,⟨hc.hf,hh.hf⟩,ht.hf,hx.hf,trivial,trivial,trivial⟩) ?_
 have hf3:=hf.len
 obtain ⟨a0,a1,a2,a3,a4,a5,rfl⟩:=id hh.six
 obtain ⟨b0,b1,b2,b3,b4,b5,rfl⟩:=id ht.six
 refine go5 ?_
 refine yB (step_method m0 m6 hi) (fun u hu => ?_)
 obtain ⟨gf,caps,rfl,hcap,hdo⟩:=hu
 refine go5 ?_
 refine goN ?_
 obtain ⟨F,hF⟩:∃ F:Hp,F=[.live ⟨[cf,a0,a1,a2,a3,a4,a5],vX,.rw⟩,.live ⟨[b0,b1,b2,b3,b4,b5],xK,.rw⟩]:=⟨_,rfl⟩
 refine yR (fun w vs H => ∃ (i:Nat) (o:C) (R:Hp) (out:List (List Rat)),vs=[i64 m,i64 g,.c (.ptr 0 0),.c (.ptr 1 0),.c o,.c (.fn gf caps),i64 n,i64 i]∧H=[.live ⟨[cf,a0,a1,a2,a3,a4,a5],vX,.rw⟩,.live ⟨[b0,b1,b2,b3,b4,b5],xK,.rw⟩]++R∧w=n - i∧i≤n∧runV m f h t g x i=.ok out∧out.length=i+1∧(∀ l∈out,Told f l)∧Out (elL 2) pI 2 H o out) (by rfl) ⟨0,_,[.live ⟨[cx],pI,.rw⟩],[x],rfl,rfl,rfl,by omega,rfl,rfl,by simpa using hT,.sl (cells:=[cx]) (ds:=[cx]) (by decide) rfl rfl rfl (.one ⟨cx,rfl,hx⟩)⟩ ?_
 rintro w vs H ⟨i,o,R,out,rfl,rfl,rfl,i1,i2,i3,i4,i5⟩
 obtain ⟨b,co,rfl⟩:=i5.isSl (by omega)
 refine go13 ?_
 cases hi:yA Cm.lss (i:Int) (n:Int)
 case false =>
  simp [yA] at hi
  have ei:i=n:=by omega
  subst ei
  refine go13 ?_
  obtain ⟨d,f1,l1⟩:=i5.fz (p:=(·≠.bor)) (by simp)
  exact ⟨_,.tup (.cons (.c f1) (.cons (.c (.hf trivial)) .nil)),.inr ⟨out,d,i2,rfl,l1⟩⟩
 simp [yA] at hi
 have hlast:=i4 _ (List.getElem_mem (show i<out.length by omega))
 have hgl:out.getD i []=out[i]'(by omega):=by simp [List.getD,i3]
 refine go13 ?_
 refine yH (nL (g:=(i:Int)) (by omega)) (fun u hu => ?_)
 obtain ⟨r1,rfl,g1⟩:=hu
 refine go13 ?_
 refine yH (jN hh g1 (by decide)) (fun u hu => ?_)
 obtain ⟨r2,rfl,g2⟩:=hu
 refine go13 ?_
 refine yH (bC ht g2 (by decide)) (fun u hu => ?_)
 obtain ⟨r3,rfl,g3⟩:=hu
 have bi:CpL 6 [((i:Int):Rat)]:=uV (by omega)
 have ba:CpL 90 [t+h*((i:Int):Rat)]:=(uW bt (vF bh bi)).mono (by decide)
 obtain ⟨c0,c1,c2,c3,c4,c5,rfl⟩:=id g3.six
 refine go13 ?_
 refine ld_outL i5.extS (i:=i) (by omega) (by omega) (fun cl hcl => ?_)
 have bl:=tQ hf3 hlast
 have g3:=g3.up (show _≤4194304 by decide)
 have hin:pQ cf cl [a0,a1,a2,a3,a4,a5] [c0,c1,c2,c3,c4,c5] f (out[i]'(by omega)) h (t+h*((i:Int):Rat)):=⟨hc,vD hf (by rw [hlast.1]),hlast.1.symm,hh.up (by decide),hcl.up (by decide),g3,bl,ba,bh.mono (by decide)⟩
 refine go13 ?_
 cases c6:yA Cm.eql m 6
 case false =>
  simp [yA] at c6
  have hnx:uT m f h (t+h*((i:Int):Rat)) i (out.getD i []) (out.getD (i - 1) [])=wF m f h (t+h*((i:Int):Rat)) (out[i]'(by omega)):=by
   unfold uT
   rw [yG.2 (by omega),hgl]
   rfl
  refine go13 ?_
  refine x_callG (by rfl) (by rfl) (yB (hdo hin ha) (fun u hu => ?_))
  rcases hu with ⟨y,cy,hy,rfl,ly⟩ | ⟨hy,rfl⟩
  case inr =>
   have he:runV m f h t g x (i+1)=.error 4:=by
    simp only [runV,i2,wG,hnx,hy]
   refine go13 ?_
   exact ⟨_,.tup (.cons (.c (.hf trivial)) (.cons (.c (.hf trivial)) .nil)),.inl ⟨4,uK he (by omega),by decide,rfl⟩⟩
  have hny:y.length=f.length:=by rw [mF hin.hl hy,hlast.1]
  rw [hy] at hnx
  refine go13 ?_
  refine yB (mQ ly (by omega) hg) (fun u hu => ?_)
  rcases hu with ⟨hfit,cz,rfl,lz⟩ | ⟨hfit,rfl⟩
  case inr =>
   have he:runV m f h t g x (i+1)=.error 3:=by
    simp only [runV,i2,wG,hnx]
    rw [yG.2 hfit]
    rfl
   refine go13 ?_
   exact ⟨_,.tup (.cons (.c (.hf trivial)) (.cons (.c (.hf trivial)) .nil)),.inl ⟨3,uK he (by omega),by decide,rfl⟩⟩
  have hr:runV m f h t g x (i+1)=.ok (out++[y.map (rdV g)]):=by
   simp only [runV,i2,wG,hnx]
   rw [yF.2 hfit]
   rfl
  refine go13 ?_
  refine app_imm (bytes:=24) (E:=elL 2) (F:=[.live ⟨[cf,a0,a1,a2,a3,a4,a5],vX,.rw⟩,.live ⟨[b0,b1,b2,b3,b4,b5],xK,.rw⟩]) (a:=y.map (rdV g)) (List.append_assoc _ _ _) (by rw [←List.append_assoc]; exact i5.extS) (by rfl) (by rfl) rfl ⟨cz,rfl,lz⟩ (by omega) (fun R2 o2 q2 => ?_)
  refine go13 ?_
  rw [yZ i (by omega)]
  refine l_n (by rfl) (n':=n - (i+1)) (by omega) ⟨i+1,_,_,_,rfl,rfl,rfl,by omega,hr,by simp; omega,fun l hl => ?_,q2⟩
  rcases List.mem_append.1 hl with hl | hl
  ·exact i4 l hl
  ·simp only [List.mem_singleton] at hl
   subst hl
   exact ⟨by rw [List.length_map,hny],hfit⟩
 simp [yA] at c6
 refine go13 ?_
 cases c7:yA Cm.gtr (i:Int) 0
 case false =>
  simp [yA] at c7
  have hnx:uT m f h (t+h*((i:Int):Rat)) i (out.getD i []) (out.getD (i - 1) [])=wF m f h (t+h*((i:Int):Rat)) (out[i]'(by omega)):=by
   unfold uT
   rw [yG.2 (by omega),hgl]
   rfl
  refine go13 ?_
  refine x_callG (by rfl) (by rfl) (yB (hdo hin ha) (fun u hu => ?_))
  rcases hu with ⟨y,cy,hy,rfl,ly⟩ | ⟨hy,rfl⟩
  case inr =>
   have he:runV m f h t g x (i+1)=.error 4:=by
    simp only [runV,i2,wG,hnx,hy]
   refine go13 ?_
   exact ⟨_,.tup (.cons (.c (.hf trivial)) (.cons (.c (.hf trivial)) .nil)),.inl ⟨4,uK he (by omega),by decide,rfl⟩⟩
  have hny:y.length=f.length:=by rw [mF hin.hl hy,hlast.1]
  rw [hy] at hnx
  refine go13 ?_
  refine yB (mQ ly (by omega) hg) (fun u hu => ?_)
  rcases hu with ⟨hfit,cz,rfl,lz⟩ | ⟨hfit,rfl⟩
  case inr =>
   have he:runV m f h t g x (i+1)=.error 3:=by
    simp only [runV,i2,wG,hnx]
    rw [yG.2 hfit]
    rfl
   refine go13 ?_
   exact ⟨_,.tup (.cons (.c (.hf trivial)) (.cons (.c (.hf trivial)) .nil)),.inl ⟨3,uK he (by omega),by decide,rfl⟩⟩
  have hr:runV m f h t g x (i+1)=.ok (out++[y.map (rdV g)]):=by
   simp only [runV,i2,wG,hnx]
   rw [yF.2 hfit]
   rfl
  refine go13 ?_
  refine app_imm (bytes:=24) (E:=elL 2) (F:=[.live ⟨[cf,a0,a1,a2,a3,a4,a5],vX,.rw⟩,.live ⟨[b0,b1,b2,b3,b4,b5],xK,.rw⟩]) (a:=y.map (rdV g)) (List.append_assoc _ _ _) (by rw [←List.append_assoc]; exact i5.extS) (by rfl) (by rfl) rfl ⟨cz,rfl,lz⟩ (by omega) (fun R2 o2 q2 => ?_)
  refine go13 ?_
  rw [yZ i (by omega)]
  refine l_n (by rfl) (n':=n - (i+1)) (by omega) ⟨i+1,_,_,_,rfl,rfl,rfl,by omega,hr,by simp; omega,fun l hl => ?_,q2⟩
  rcases List.mem_append.1 hl with hl | hl
  ·exact i4 l hl
  ·simp only [List.mem_singleton] at hl
   subst hl
   exact ⟨by rw [List.length_map,hny],hfit⟩
 simp [yA] at c7
 refine go13 ?_
 rw [jK i (by omega) (by omega)]
 refine go13 ?_
 refine ld_outL i5.extS (i:=i - 1) (by omega) (by omega) (fun cp hcp => ?_)
 have hprev:=i4 _ (List.getElem_mem (show i - 1<out.length by omega))
 have bp:=tQ hf3 hprev
 have hgp:out.getD (i - 1) []=out[i - 1]'(by omega):=by
  have:i - 1<out.length:=by omega
  simp [List.getD,this]
 have bm:CpL 140 [t+h*((i:Int):Rat) - h]:=(cp_sub ba bh).mono (by decide)
 have hnx:uT m f h (t+h*((i:Int):Rat)) i (out.getD i []) (out.getD (i - 1) [])=some (yM (yM (out[i]'(by omega)) (h*(((3:Int):Rat) / ((2:Int):Rat))) (yU f (out[i]'(by omega)) (t+h*((i:Int):Rat)))) (h*(((-1:Int):Rat) / ((2:Int):Rat))) (yU f (out[i - 1]'(by omega)) (t+h*((i:Int):Rat) - h))):=by
  unfold uT
  rw [yF.2 ⟨c6,by omega⟩,hgl,hgp]
  rfl
 have r1:CpL 9720 (yU f (out[i]'(by omega)) (t+h*((i:Int):Rat))):=(wO hin.hf bl ba).mono (by decide)
 have n1:(yU f (out[i]'(by omega)) (t+h*((i:Int):Rat))).length=(out[i]'(by omega)).length:=by rw [wA,hlast.1]
 have r2:CpL 11000 (yU f (out[i - 1]'(by omega)) (t+h*((i:Int):Rat) - h)):=(wO (vD hf (show _=(out[i - 1]'(by omega)).length+1 by rw [hprev.1])) bp bm).mono (by decide)
 have n2:(yU f (out[i - 1]'(by omega)) (t+h*((i:Int):Rat) - h)).length=(out[i]'(by omega)).length:=by rw [wA,hlast.1]
 have x1:CpL 10000 (yM (out[i]'(by omega)) (h*(((3:Int):Rat) / ((2:Int):Rat))) (yU f (out[i]'(by omega)) (t+h*((i:Int):Rat)))):=(wJ bl (vF bh c32) r1).mono (by decide)
 have m1:(yM (out[i]'(by omega)) (h*(((3:Int):Rat) / ((2:Int):Rat))) (yU f (out[i]'(by omega)) (t+h*((i:Int):Rat)))).length=(out[i]'(by omega)).length:=yX n1
 refine go13 ?_
 refine yH (pW hin hin.hx rfl hin.ht bl ba (by decide)) (fun u hu => ?_)
 obtain ⟨s1,rfl,l1⟩:=hu
 refine go13 ?_
 refine yH (q_Sub2 g3 hh (by decide)) (fun u hu => ?_)
 obtain ⟨s2,rfl,l2⟩:=hu
 have l2:=l2.tightS (bm.bd (k:=4194304) (by decide) (by simp))
 refine go13 ?_
 refine yB (pW hin (hcp.up (by decide)) (by rw [hprev.1,hlast.1]) l2 bp bm (by decide)) (fun u hu => ?_)
 obtain ⟨s3,rfl,l3⟩:=hu
 refine go13 ?_
 refine yH (q_Frac (a:=3) (b:=2) (by decide) (by decide) (by decide)) (fun u hu => ?_)
 obtain ⟨s4,rfl,l4⟩:=hu
 refine go13 ?_
 refine yH (jN hh l4 (by decide)) (fun u hu => ?_)
 obtain ⟨s5,rfl,l5⟩:=hu
 refine go13 ?_
 refine yH (uX (x3:=hin.x3) hin.hx bl (mW l5 (by decide)) (vF bh c32) l1 n1 r1 (by decide)) (fun u hu => ?_)
 obtain ⟨s6,rfl,l6⟩:=hu
 refine go13 ?_
 refine yH (q_Frac (a:=-1) (b:=2) (by decide) (by decide) (by decide)) (fun u hu => ?_)
 obtain ⟨s7,rfl,l7⟩:=hu
 refine go13 ?_
 refine yB (jN hh l7 (by decide)) (fun u hu => ?_)
 obtain ⟨s8,rfl,l8⟩:=hu
 refine go13 ?_
 refine yB (uX (x3:=by rw [m1]; exact hin.x3) l6 x1 (mW l8 (by decide)) (vF bh c12) l3 (by rw [n2,m1]) r2 (by decide)) (fun u hu => ?_)
 obtain ⟨s9,rfl,ly⟩:=hu
 generalize hyy:yM (yM (out[i]'(by omega)) (h*(((3:Int):Rat) / ((2:Int):Rat))) (yU f (out[i]'(by omega)) (t+h*((i:Int):Rat)))) (h*(((-1:Int):Rat) / ((2:Int):Rat))) (yU f (out[i - 1]'(by omega)) (t+h*((i:Int):Rat) - h))=y at hnx ly
 have hny:y.length=f.length:=by rw [←hyy,yX (by rw [n2,m1]),m1,hlast.1]
 refine go13 ?_
 refine yB (mQ ly (by omega) hg) (fun u hu => ?_)
 rcases hu with ⟨hfit,cz,rfl,lz⟩ | ⟨hfit,rfl⟩
 case inr =>
  have he:runV m f h t g x (i+1)=.error 3:=by
   simp only [runV,i2,wG,hnx]
   rw [yG.2 hfit]
   rfl
  refine go13 ?_
  exact ⟨_,.tup (.cons (.c (.hf trivial)) (.cons (.c (.hf trivial)) .nil)),.inl ⟨3,uK he (by omega),by decide,rfl⟩⟩
 have hr:runV m f h t g x (i+1)=.ok (out++[y.map (rdV g)]):=by
  simp only [runV,i2,wG,hnx]
  rw [yF.2 hfit]
  rfl
 refine go13 ?_
 refine app_imm (bytes:=24) (E:=elL 2) (F:=[.live ⟨[cf,a0,a1,a2,a3,a4,a5],vX,.rw⟩,.live ⟨[b0,b1,b2,b3,b4,b5],xK,.rw⟩]) (a:=y.map (rdV g)) (List.append_assoc _ _ _) (by rw [←List.append_assoc]; exact i5.extS) (by rfl) (by rfl) rfl ⟨cz,rfl,lz⟩ (by omega) (fun R2 o2 q2 => ?_)
 refine go13 ?_
 rw [yZ i (by omega)]
 refine l_n (by rfl) (n':=n - (i+1)) (by omega) ⟨i+1,_,_,_,rfl,rfl,rfl,by omega,hr,by simp; omega,fun l hl => ?_,q2⟩
 rcases List.mem_append.1 hl with hl | hl
 ·exact i4 l hl
 ·simp only [List.mem_singleton] at hl
  subst hl
  exact ⟨by rw [List.length_map,hny],hfit⟩
end Go.Proofs.YtokckcnfojjpjaaGreat
