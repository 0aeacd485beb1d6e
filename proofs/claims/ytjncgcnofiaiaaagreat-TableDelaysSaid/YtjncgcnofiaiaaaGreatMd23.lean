/-
  Parts of the proof: Lists of numbers: all valid, as numbers of any size, rising, the same.
-/
import Derived.Test.YtjncgcnofiaiaaaGreatMd21
import Derived.Test.YtjncgcnofiaiaaaGreatMd22
set_option linter.unusedVariables false
set_option linter.unusedSimpArgs false
namespace Go.Proofs.YtjncgcnofiaiaaaGreat
open Go.RowKit
set_option maxRecDepth 20000
theorem go5 {A B : Prop} (k : B) (h : Held B → A := by
  intro hgo
  repeat (first | (refine g_o ?_; first | (refine o_some ?_; try (first | (refine x_q (by rfl) ?_; try (first | refine q_mv (by rfl) ?_ | refine q_faddr (by rfl) ?_ | (refine q_len ?_; try (first | refine len_ls (by rfl) (by assumption) ?_ | refine len_wd (by rfl) (by assumption) ?_ | refine len_sl (by rfl) ?_ | refine len_imm (by rfl) ?_ | refine len_nil (by rfl) ?_)) | (refine q_iad ?_; try (first | refine idx_ls (by rfl) (by rfl) (by assumption) (by omega) (by omega) ?_ | refine idx_wd (by rfl) (by rfl) (by assumption) (by omega) (by omega) ?_ | refine idx_ptr (by rfl) (by rfl) (by decide) (by decide) ?_ | refine idx_sl (by rfl) (by rfl) (by decide) (by decide) ?_ | refine idx_imm (by rfl) (by rfl) (by decide) (by decide) ?_ | refine idx_sl (by rfl) (by rfl) (by omega) (by omega) ?_)) | refine q_cm (by rfl) (by rfl) ?_ | refine q_ar (by rfl) (by rfl) (by rfl) ?_ | refine q_conv (by rfl) ?_ | (refine q_eqN ?_; try (first | refine eqn_nil (by rfl) ?_ | refine eqn_imm (by rfl) ?_ | refine eqn_sl (by rfl) ?_)) | refine q_ext (by rfl) (by rfl) ?_ | refine q_build (by rfl) ?_ | refine q_shl (by rfl) (by rfl) (by first | decide | omega) ?_ | refine q_shr (by rfl) (by rfl) (by first | decide | omega) ?_ | refine q_eqB (by rfl) (by rfl) ?_ | refine q_eqA (by rfl) (by rfl) (by rfl) ?_ | refine q_neg (by rfl) ?_ | refine q_not (by rfl) ?_ | refine q_pick_t (by rfl) (by rfl) ?_ | refine q_pick_f (by rfl) (by rfl) ?_ | refine q_slc ?_ | refine q_idx ?_ | refine q_fld (by rfl) (by rfl) ?_ | refine q_fldA (by rfl) (by rfl) ?_ | refine q_faddrI (by rfl) ?_ | refine q_mx (by rfl) (by rfl) ?_ | refine q_mn (by rfl) (by rfl) ?_ | refine q_fnc (by rfl) ?_ | refine q_chkP (by rfl) ?_ | refine q_chkF (by rfl) ?_ | refine q_ifaceA (by rfl) ?_ | refine q_asrtY (by rfl) (by rfl) ?_ | refine q_asrtN (by rfl) (by rfl) ?_)) | (refine x_load ?_; try (first | (refine l_ptr (by rfl) ?_; try (first | refine ld_box (by rfl) (by rfl) ?_ | refine ld_boxA (by rfl) (by rfl) ?_ | refine ld_box (last_live _ _) (by rfl) ?_ | refine ld_boxA (last_live _ _) (by rfl) ?_)) | (refine l_ipt (by rfl) ?_; try (first | refine ld_wd (by omega) (by omega) ?_ | refine ld_cellsA (Nat.le_of_ble_eq_true (by rfl)) ?_ | refine st_box (by rfl) (by rfl) (by rfl) (by omega) ?_)))) | refine x_store_last (by rfl) (by rfl) (by rfl) (by rfl) (Nat.le_of_ble_eq_true (by rfl)) ?_ | (refine x_store (by rfl) (by rfl) ?_; try (first | refine st_box (by rfl) (by rfl) (by rfl) (Nat.le_of_ble_eq_true (by rfl)) ?_ | refine st_box (by rfl) (by rfl) (by rfl) (by omega) ?_)) | refine x_call (by rfl) (by rfl) ?_ | refine x_box (by rfl) (by rfl) ?_ | refine x_alloc ?_ | refine x_buildSl (by rfl) ?_ | refine x_app ?_ | refine x_slcA ?_)) | (refine o_nil ?_; try (first | refine s_n ?_ | refine s_r ?_ | refine s_e ?_ | refine k_n ?_ | refine k_r ?_ | refine k_e (by rfl) ?_ | refine k_o (by rfl) ?_ | refine l_r ?_ | refine l_e ?_ | refine b_r ?_ | refine b_n ?_)) | refine o_guard (by rfl) ?_ | refine o_guardT (by rfl) ?_ | refine o_none ?_ | refine o_guardN (by rfl) ?_) | (refine g_f ?_; first | refine f_seq ?_ | refine f_reg ?_ | (refine f_cond (by rfl) ?_; try (first | refine c_t (by rfl) ?_ | refine c_f (by rfl) ?_)) | refine f_block ?_ | refine f_skip ?_ | refine f_ret ?_ | refine f_exit ?_ | refine f_regD0 ?_ | refine f_regD ?_) | (refine g_s ?_; first | refine s_n ?_ | refine s_r ?_ | refine s_e ?_) | (refine g_d ?_; first | (refine d_some (T := none) (by rfl) (by rfl) ?_; try (first | (refine xd_q (by rfl) ?_; try (first | refine q_mv (by rfl) ?_ | refine q_faddr (by rfl) ?_ | (refine q_len ?_; try (first | refine len_ls (by rfl) (by assumption) ?_ | refine len_wd (by rfl) (by assumption) ?_ | refine len_sl (by rfl) ?_ | refine len_imm (by rfl) ?_ | refine len_nil (by rfl) ?_)) | (refine q_iad ?_; try (first | refine idx_ls (by rfl) (by rfl) (by assumption) (by omega) (by omega) ?_ | refine idx_wd (by rfl) (by rfl) (by assumption) (by omega) (by omega) ?_ | refine idx_ptr (by rfl) (by rfl) (by decide) (by decide) ?_ | refine idx_sl (by rfl) (by rfl) (by decide) (by decide) ?_ | refine idx_imm (by rfl) (by rfl) (by decide) (by decide) ?_ | refine idx_sl (by rfl) (by rfl) (by omega) (by omega) ?_)) | refine q_cm (by rfl) (by rfl) ?_ | refine q_ar (by rfl) (by rfl) (by rfl) ?_ | refine q_conv (by rfl) ?_ | (refine q_eqN ?_; try (first | refine eqn_nil (by rfl) ?_ | refine eqn_imm (by rfl) ?_ | refine eqn_sl (by rfl) ?_)) | refine q_ext (by rfl) (by rfl) ?_ | refine q_build (by rfl) ?_ | refine q_shl (by rfl) (by rfl) (by first | decide | omega) ?_ | refine q_shr (by rfl) (by rfl) (by first | decide | omega) ?_ | refine q_eqB (by rfl) (by rfl) ?_ | refine q_eqA (by rfl) (by rfl) (by rfl) ?_ | refine q_neg (by rfl) ?_ | refine q_not (by rfl) ?_ | refine q_pick_t (by rfl) (by rfl) ?_ | refine q_pick_f (by rfl) (by rfl) ?_ | refine q_slc ?_ | refine q_idx ?_ | refine q_fld (by rfl) (by rfl) ?_ | refine q_fldA (by rfl) (by rfl) ?_ | refine q_faddrI (by rfl) ?_ | refine q_mx (by rfl) (by rfl) ?_ | refine q_mn (by rfl) (by rfl) ?_ | refine q_fnc (by rfl) ?_ | refine q_chkP (by rfl) ?_ | refine q_chkF (by rfl) ?_ | refine q_ifaceA (by rfl) ?_ | refine q_asrtY (by rfl) (by rfl) ?_ | refine q_asrtN (by rfl) (by rfl) ?_)) | (refine xd_load ?_; try (first | (refine l_ptr (by rfl) ?_; try (first | refine ld_box (by rfl) (by rfl) ?_ | refine ld_boxA (by rfl) (by rfl) ?_ | refine ld_box (last_live _ _) (by rfl) ?_ | refine ld_boxA (last_live _ _) (by rfl) ?_)) | (refine l_ipt (by rfl) ?_; try (first | refine ld_wd (by omega) (by omega) ?_ | refine ld_cellsA (Nat.le_of_ble_eq_true (by rfl)) ?_ | refine st_box (by rfl) (by rfl) (by rfl) (by omega) ?_)))) | refine xd_store_last (by rfl) (by rfl) (by rfl) (by rfl) (Nat.le_of_ble_eq_true (by rfl)) ?_ | (refine xd_store (by rfl) (by rfl) ?_; try (first | refine st_box (by rfl) (by rfl) (by rfl) (Nat.le_of_ble_eq_true (by rfl)) ?_ | refine st_box (by rfl) (by rfl) (by rfl) (by omega) ?_)) | refine xd_call (by rfl) (by rfl) ?_ | refine xd_box (by rfl) (by rfl) (by rfl) ?_ | refine xd_alloc (by rfl) ?_ | refine xd_buildSl (by rfl) (by rfl) ?_)) | (refine d_some (by rfl) (by rfl) ?_; try (first | (refine xd_q (by rfl) ?_; try (first | refine q_mv (by rfl) ?_ | refine q_faddr (by rfl) ?_ | (refine q_len ?_; try (first | refine len_ls (by rfl) (by assumption) ?_ | refine len_wd (by rfl) (by assumption) ?_ | refine len_sl (by rfl) ?_ | refine len_imm (by rfl) ?_ | refine len_nil (by rfl) ?_)) | (refine q_iad ?_; try (first | refine idx_ls (by rfl) (by rfl) (by assumption) (by omega) (by omega) ?_ | refine idx_wd (by rfl) (by rfl) (by assumption) (by omega) (by omega) ?_ | refine idx_ptr (by rfl) (by rfl) (by decide) (by decide) ?_ | refine idx_sl (by rfl) (by rfl) (by decide) (by decide) ?_ | refine idx_imm (by rfl) (by rfl) (by decide) (by decide) ?_ | refine idx_sl (by rfl) (by rfl) (by omega) (by omega) ?_)) | refine q_cm (by rfl) (by rfl) ?_ | refine q_ar (by rfl) (by rfl) (by rfl) ?_ | refine q_conv (by rfl) ?_ | (refine q_eqN ?_; try (first | refine eqn_nil (by rfl) ?_ | refine eqn_imm (by rfl) ?_ | refine eqn_sl (by rfl) ?_)) | refine q_ext (by rfl) (by rfl) ?_ | refine q_build (by rfl) ?_ | refine q_shl (by rfl) (by rfl) (by first | decide | omega) ?_ | refine q_shr (by rfl) (by rfl) (by first | decide | omega) ?_ | refine q_eqB (by rfl) (by rfl) ?_ | refine q_eqA (by rfl) (by rfl) (by rfl) ?_ | refine q_neg (by rfl) ?_ | refine q_not (by rfl) ?_ | refine q_pick_t (by rfl) (by rfl) ?_ | refine q_pick_f (by rfl) (by rfl) ?_ | refine q_slc ?_ | refine q_idx ?_ | refine q_fld (by rfl) (by rfl) ?_ | refine q_fldA (by rfl) (by rfl) ?_ | refine q_faddrI (by rfl) ?_ | refine q_mx (by rfl) (by rfl) ?_ | refine q_mn (by rfl) (by rfl) ?_ | refine q_fnc (by rfl) ?_ | refine q_chkP (by rfl) ?_ | refine q_chkF (by rfl) ?_ | refine q_ifaceA (by rfl) ?_ | refine q_asrtY (by rfl) (by rfl) ?_ | refine q_asrtN (by rfl) (by rfl) ?_)) | (refine xd_load ?_; try (first | (refine l_ptr (by rfl) ?_; try (first | refine ld_box (by rfl) (by rfl) ?_ | refine ld_boxA (by rfl) (by rfl) ?_ | refine ld_box (last_live _ _) (by rfl) ?_ | refine ld_boxA (last_live _ _) (by rfl) ?_)) | (refine l_ipt (by rfl) ?_; try (first | refine ld_wd (by omega) (by omega) ?_ | refine ld_cellsA (Nat.le_of_ble_eq_true (by rfl)) ?_ | refine st_box (by rfl) (by rfl) (by rfl) (by omega) ?_)))) | refine xd_store_last (by rfl) (by rfl) (by rfl) (by rfl) (Nat.le_of_ble_eq_true (by rfl)) ?_ | (refine xd_store (by rfl) (by rfl) ?_; try (first | refine st_box (by rfl) (by rfl) (by rfl) (Nat.le_of_ble_eq_true (by rfl)) ?_ | refine st_box (by rfl) (by rfl) (by rfl) (by omega) ?_)) | refine xd_call (by rfl) (by rfl) ?_ | refine xd_box (by rfl) (by rfl) (by rfl) ?_ | refine xd_alloc (by rfl) ?_ | refine xd_buildSl (by rfl) (by rfl) ?_)) | (refine d_nil ?_; try (first | refine s_n ?_ | refine s_r ?_ | refine s_e ?_ | refine k_n ?_ | refine k_r ?_ | refine k_e (by rfl) ?_ | refine k_o (by rfl) ?_ | refine l_r ?_ | refine l_e ?_ | refine b_r ?_ | refine b_n ?_)) | refine d_none (by rfl) (by rfl) ?_ | refine d_guard (by rfl) (by rfl) (by rfl) ?_) | (refine g_x ?_; first | (refine x_q (by rfl) ?_; try (first | refine q_mv (by rfl) ?_ | refine q_faddr (by rfl) ?_ | (refine q_len ?_; try (first | refine len_ls (by rfl) (by assumption) ?_ | refine len_wd (by rfl) (by assumption) ?_ | refine len_sl (by rfl) ?_ | refine len_imm (by rfl) ?_ | refine len_nil (by rfl) ?_)) | (refine q_iad ?_; try (first | refine idx_ls (by rfl) (by rfl) (by assumption) (by omega) (by omega) ?_ | refine idx_wd (by rfl) (by rfl) (by assumption) (by omega) (by omega) ?_ | refine idx_ptr (by rfl) (by rfl) (by decide) (by decide) ?_ | refine idx_sl (by rfl) (by rfl) (by decide) (by decide) ?_ | refine idx_imm (by rfl) (by rfl) (by decide) (by decide) ?_ | refine idx_sl (by rfl) (by rfl) (by omega) (by omega) ?_)) | refine q_cm (by rfl) (by rfl) ?_ | refine q_ar (by rfl) (by rfl) (by rfl) ?_ | refine q_conv (by rfl) ?_ | (refine q_eqN ?_; try (first | refine eqn_nil (by rfl) ?_ | refine eqn_imm (by rfl) ?_ | refine eqn_sl (by rfl) ?_)) | refine q_ext (by rfl) (by rfl) ?_ | refine q_build (by rfl) ?_ | refine q_shl (by rfl) (by rfl) (by first | decide | omega) ?_ | refine q_shr (by rfl) (by rfl) (by first | decide | omega) ?_ | refine q_eqB (by rfl) (by rfl) ?_ | refine q_eqA (by rfl) (by rfl) (by rfl) ?_ | refine q_neg (by rfl) ?_ | refine q_not (by rfl) ?_ | refine q_pick_t (by rfl) (by rfl) ?_ | refine q_pick_f (by rfl) (by rfl) ?_ | refine q_slc ?_ | refine q_idx ?_ | refine q_fld (by rfl) (by rfl) ?_ | refine q_fldA (by rfl) (by rfl) ?_ | refine q_faddrI (by rfl) ?_ | refine q_mx (by rfl) (by rfl) ?_ | refine q_mn (by rfl) (by rfl) ?_ | refine q_fnc (by rfl) ?_ | refine q_chkP (by rfl) ?_ | refine q_chkF (by rfl) ?_ | refine q_ifaceA (by rfl) ?_ | refine q_asrtY (by rfl) (by rfl) ?_ | refine q_asrtN (by rfl) (by rfl) ?_)) | (refine x_load ?_; try (first | (refine l_ptr (by rfl) ?_; try (first | refine ld_box (by rfl) (by rfl) ?_ | refine ld_boxA (by rfl) (by rfl) ?_ | refine ld_box (last_live _ _) (by rfl) ?_ | refine ld_boxA (last_live _ _) (by rfl) ?_)) | (refine l_ipt (by rfl) ?_; try (first | refine ld_wd (by omega) (by omega) ?_ | refine ld_cellsA (Nat.le_of_ble_eq_true (by rfl)) ?_ | refine st_box (by rfl) (by rfl) (by rfl) (by omega) ?_)))) | refine x_store_last (by rfl) (by rfl) (by rfl) (by rfl) (Nat.le_of_ble_eq_true (by rfl)) ?_ | (refine x_store (by rfl) (by rfl) ?_; try (first | refine st_box (by rfl) (by rfl) (by rfl) (Nat.le_of_ble_eq_true (by rfl)) ?_ | refine st_box (by rfl) (by rfl) (by rfl) (by omega) ?_)) | refine x_call (by rfl) (by rfl) ?_ | refine x_box (by rfl) (by rfl) ?_ | refine x_alloc ?_ | refine x_buildSl (by rfl) ?_ | refine x_app ?_ | refine x_slcA ?_) | (refine g_q ?_; first | refine q_mv (by rfl) ?_ | refine q_faddr (by rfl) ?_ | (refine q_len ?_; try (first | refine len_ls (by rfl) (by assumption) ?_ | refine len_wd (by rfl) (by assumption) ?_ | refine len_sl (by rfl) ?_ | refine len_imm (by rfl) ?_ | refine len_nil (by rfl) ?_)) | (refine q_iad ?_; try (first | refine idx_ls (by rfl) (by rfl) (by assumption) (by omega) (by omega) ?_ | refine idx_wd (by rfl) (by rfl) (by assumption) (by omega) (by omega) ?_ | refine idx_ptr (by rfl) (by rfl) (by decide) (by decide) ?_ | refine idx_sl (by rfl) (by rfl) (by decide) (by decide) ?_ | refine idx_imm (by rfl) (by rfl) (by decide) (by decide) ?_ | refine idx_sl (by rfl) (by rfl) (by omega) (by omega) ?_)) | refine q_cm (by rfl) (by rfl) ?_ | refine q_ar (by rfl) (by rfl) (by rfl) ?_ | refine q_conv (by rfl) ?_ | (refine q_eqN ?_; try (first | refine eqn_nil (by rfl) ?_ | refine eqn_imm (by rfl) ?_ | refine eqn_sl (by rfl) ?_)) | refine q_ext (by rfl) (by rfl) ?_ | refine q_build (by rfl) ?_ | refine q_shl (by rfl) (by rfl) (by first | decide | omega) ?_ | refine q_shr (by rfl) (by rfl) (by first | decide | omega) ?_ | refine q_eqB (by rfl) (by rfl) ?_ | refine q_eqA (by rfl) (by rfl) (by rfl) ?_ | refine q_neg (by rfl) ?_ | refine q_not (by rfl) ?_ | refine q_pick_t (by rfl) (by rfl) ?_ | refine q_pick_f (by rfl) (by rfl) ?_ | refine q_slc ?_ | refine q_idx ?_ | refine q_fld (by rfl) (by rfl) ?_ | refine q_fldA (by rfl) (by rfl) ?_ | refine q_faddrI (by rfl) ?_ | refine q_mx (by rfl) (by rfl) ?_ | refine q_mn (by rfl) (by rfl) ?_ | refine q_fnc (by rfl) ?_ | refine q_chkP (by rfl) ?_ | refine q_chkF (by rfl) ?_ | refine q_ifaceA (by rfl) ?_ | refine q_asrtY (by rfl) (by rfl) ?_ | refine q_asrtN (by rfl) (by rfl) ?_) | (refine g_c ?_; first | refine c_t (by rfl) ?_ | refine c_f (by rfl) ?_) | (refine g_k ?_; first | refine k_n ?_ | refine k_r ?_ | refine k_e (by rfl) ?_ | refine k_o (by rfl) ?_) | (refine g_lo ?_; first | refine l_r ?_ | refine l_e ?_) | (refine g_xd ?_; first | (refine xd_q (by rfl) ?_; try (first | refine q_mv (by rfl) ?_ | refine q_faddr (by rfl) ?_ | (refine q_len ?_; try (first | refine len_ls (by rfl) (by assumption) ?_ | refine len_wd (by rfl) (by assumption) ?_ | refine len_sl (by rfl) ?_ | refine len_imm (by rfl) ?_ | refine len_nil (by rfl) ?_)) | (refine q_iad ?_; try (first | refine idx_ls (by rfl) (by rfl) (by assumption) (by omega) (by omega) ?_ | refine idx_wd (by rfl) (by rfl) (by assumption) (by omega) (by omega) ?_ | refine idx_ptr (by rfl) (by rfl) (by decide) (by decide) ?_ | refine idx_sl (by rfl) (by rfl) (by decide) (by decide) ?_ | refine idx_imm (by rfl) (by rfl) (by decide) (by decide) ?_ | refine idx_sl (by rfl) (by rfl) (by omega) (by omega) ?_)) | refine q_cm (by rfl) (by rfl) ?_ | refine q_ar (by rfl) (by rfl) (by rfl) ?_ | refine q_conv (by rfl) ?_ | (refine q_eqN ?_; try (first | refine eqn_nil (by rfl) ?_ | refine eqn_imm (by rfl) ?_ | refine eqn_sl (by rfl) ?_)) | refine q_ext (by rfl) (by rfl) ?_ | refine q_build (by rfl) ?_ | refine q_shl (by rfl) (by rfl) (by first | decide | omega) ?_ | refine q_shr (by rfl) (by rfl) (by first | decide | omega) ?_ | refine q_eqB (by rfl) (by rfl) ?_ | refine q_eqA (by rfl) (by rfl) (by rfl) ?_ | refine q_neg (by rfl) ?_ | refine q_not (by rfl) ?_ | refine q_pick_t (by rfl) (by rfl) ?_ | refine q_pick_f (by rfl) (by rfl) ?_ | refine q_slc ?_ | refine q_idx ?_ | refine q_fld (by rfl) (by rfl) ?_ | refine q_fldA (by rfl) (by rfl) ?_ | refine q_faddrI (by rfl) ?_ | refine q_mx (by rfl) (by rfl) ?_ | refine q_mn (by rfl) (by rfl) ?_ | refine q_fnc (by rfl) ?_ | refine q_chkP (by rfl) ?_ | refine q_chkF (by rfl) ?_ | refine q_ifaceA (by rfl) ?_ | refine q_asrtY (by rfl) (by rfl) ?_ | refine q_asrtN (by rfl) (by rfl) ?_)) | (refine xd_load ?_; try (first | (refine l_ptr (by rfl) ?_; try (first | refine ld_box (by rfl) (by rfl) ?_ | refine ld_boxA (by rfl) (by rfl) ?_ | refine ld_box (last_live _ _) (by rfl) ?_ | refine ld_boxA (last_live _ _) (by rfl) ?_)) | (refine l_ipt (by rfl) ?_; try (first | refine ld_wd (by omega) (by omega) ?_ | refine ld_cellsA (Nat.le_of_ble_eq_true (by rfl)) ?_ | refine st_box (by rfl) (by rfl) (by rfl) (by omega) ?_)))) | refine xd_store_last (by rfl) (by rfl) (by rfl) (by rfl) (Nat.le_of_ble_eq_true (by rfl)) ?_ | (refine xd_store (by rfl) (by rfl) ?_; try (first | refine st_box (by rfl) (by rfl) (by rfl) (Nat.le_of_ble_eq_true (by rfl)) ?_ | refine st_box (by rfl) (by rfl) (by rfl) (by omega) ?_)) | refine xd_call (by rfl) (by rfl) ?_ | refine xd_box (by rfl) (by rfl) (by rfl) ?_ | refine xd_alloc (by rfl) ?_ | refine xd_buildSl (by rfl) (by rfl) ?_) | (refine g_l ?_; first | (refine l_ptr (by rfl) ?_; try (first | refine ld_box (by rfl) (by rfl) ?_ | refine ld_boxA (by rfl) (by rfl) ?_ | refine ld_box (last_live _ _) (by rfl) ?_ | refine ld_boxA (last_live _ _) (by rfl) ?_)) | (refine l_ipt (by rfl) ?_; try (first | refine ld_wd (by omega) (by omega) ?_ | refine ld_cellsA (Nat.le_of_ble_eq_true (by rfl)) ?_ | refine st_box (by rfl) (by rfl) (by rfl) (by omega) ?_))) | (refine g_len ?_; first | refine len_ls (by rfl) (by assumption) ?_ | refine len_wd (by rfl) (by assumption) ?_ | refine len_sl (by rfl) ?_ | refine len_imm (by rfl) ?_ | refine len_nil (by rfl) ?_) | (refine g_nil ?_; first | refine eqn_nil (by rfl) ?_ | refine eqn_imm (by rfl) ?_ | refine eqn_sl (by rfl) ?_) | (refine g_iad ?_; first | refine idx_ls (by rfl) (by rfl) (by assumption) (by omega) (by omega) ?_ | refine idx_wd (by rfl) (by rfl) (by assumption) (by omega) (by omega) ?_ | refine idx_ptr (by rfl) (by rfl) (by decide) (by decide) ?_ | refine idx_sl (by rfl) (by rfl) (by decide) (by decide) ?_ | refine idx_imm (by rfl) (by rfl) (by decide) (by decide) ?_ | refine idx_sl (by rfl) (by rfl) (by omega) (by omega) ?_) | (refine g_box ?_; first | refine ld_box (by rfl) (by rfl) ?_ | refine ld_boxA (by rfl) (by rfl) ?_ | refine ld_box (last_live _ _) (by rfl) ?_ | refine ld_boxA (last_live _ _) (by rfl) ?_) | (refine g_cells ?_; first | refine ld_wd (by omega) (by omega) ?_ | refine ld_cellsA (Nat.le_of_ble_eq_true (by rfl)) ?_) | (refine g_st ?_; first | refine st_box (by rfl) (by rfl) (by rfl) (Nat.le_of_ble_eq_true (by rfl)) ?_) | (refine g_b ?_; first | refine b_r ?_ | refine b_n ?_) | (refine g_r ?_; first | refine r_tmp (by rfl) ?_ | refine r_cell ?_ | refine r_nil ?_))
  exact hgo.out) : A := h ⟨k⟩
theorem go6 {A B : Prop} (k : B) (h : Held B → A := by
  intro hgo
  repeat (first | (refine g_o ?_; first | (refine o_some ?_; try (first | (refine x_q (by rfl) ?_; try (first | refine q_mv (by rfl) ?_ | refine q_faddr (by rfl) ?_ | (refine q_len ?_; try (first | refine len_ls (by rfl) (by assumption) ?_ | refine len_wd (by rfl) (by assumption) ?_ | refine len_sl (by rfl) ?_ | refine len_imm (by rfl) ?_ | refine len_nil (by rfl) ?_)) | (refine q_iad ?_; try (first | refine idx_ls (by rfl) (by rfl) (by assumption) (by omega) (by omega) ?_ | refine idx_wd (by rfl) (by rfl) (by assumption) (by omega) (by omega) ?_ | refine idx_ptr (by rfl) (by rfl) (by decide) (by decide) ?_ | refine idx_sl (by rfl) (by rfl) (by decide) (by decide) ?_ | refine idx_imm (by rfl) (by rfl) (by decide) (by decide) ?_ | refine idx_sl (by rfl) (by rfl) (by omega) (by omega) ?_)) | refine q_cm (by rfl) (by rfl) ?_ | refine q_ar (by rfl) (by rfl) (by rfl) ?_ | refine q_conv (by rfl) ?_ | (refine q_eqN ?_; try (first | refine eqn_nil (by rfl) ?_ | refine eqn_imm (by rfl) ?_ | refine eqn_sl (by rfl) ?_)) | refine q_ext (by rfl) (by rfl) ?_ | refine q_build (by rfl) ?_ | refine q_shl (by rfl) (by rfl) (by first | decide | omega) ?_ | refine q_shr (by rfl) (by rfl) (by first | decide | omega) ?_ | refine q_eqB (by rfl) (by rfl) ?_ | refine q_eqA (by rfl) (by rfl) (by rfl) ?_ | refine q_neg (by rfl) ?_ | refine q_not (by rfl) ?_ | refine q_pick_t (by rfl) (by rfl) ?_ | refine q_pick_f (by rfl) (by rfl) ?_ | refine q_slc ?_ | refine q_idx ?_ | refine q_fld (by rfl) (by rfl) ?_ | refine q_fldA (by rfl) (by rfl) ?_ | refine q_faddrI (by rfl) ?_ | refine q_mx (by rfl) (by rfl) ?_ | refine q_mn (by rfl) (by rfl) ?_ | refine q_fnc (by rfl) ?_ | refine q_chkP (by rfl) ?_ | refine q_chkF (by rfl) ?_ | refine q_ifaceA (by rfl) ?_ | refine q_asrtY (by rfl) (by rfl) ?_ | refine q_asrtN (by rfl) (by rfl) ?_)) | (refine x_load ?_; try (first | (refine l_ptr (by rfl) ?_; try (first | refine ld_box (by rfl) (by rfl) ?_ | refine ld_boxA (by rfl) (by rfl) ?_ | refine ld_box (last_live _ _) (by rfl) ?_ | refine ld_boxA (last_live _ _) (by rfl) ?_)) | (refine l_ipt (by rfl) ?_; try (first | refine ld_wd (by omega) (by omega) ?_ | refine ld_cellsA (Nat.le_of_ble_eq_true (by rfl)) ?_ | refine st_box (by rfl) (by rfl) (by rfl) (by omega) ?_)))) | refine x_store_last (by rfl) (by rfl) (by rfl) (by rfl) (Nat.le_of_ble_eq_true (by rfl)) ?_ | (refine x_store (by rfl) (by rfl) ?_; try (first | refine st_box (by rfl) (by rfl) (by rfl) (Nat.le_of_ble_eq_true (by rfl)) ?_ | refine st_box (by rfl) (by rfl) (by rfl) (by omega) ?_)) | refine x_call (by rfl) (by rfl) ?_ | refine x_box (by rfl) (by rfl) ?_ | refine x_alloc ?_ | refine x_buildSl (by rfl) ?_ | refine x_app ?_ | refine x_slcA ?_)) | (refine o_nil ?_; try (first | refine s_n ?_ | refine s_r ?_ | refine s_e ?_ | refine k_n ?_ | refine k_r ?_ | refine k_e (by rfl) ?_ | refine k_o (by rfl) ?_ | refine l_r ?_ | refine l_e ?_ | refine b_r ?_ | refine b_n ?_)) | refine o_guard (by rfl) ?_ | refine o_guardT (by rfl) ?_ | refine o_none ?_ | refine o_guardN (by rfl) ?_) | (refine g_f ?_; first | refine f_seq ?_ | refine f_reg ?_ | (refine f_cond (by rfl) ?_; try (first | refine c_t (by rfl) ?_ | refine c_f (by rfl) ?_)) | refine f_block ?_ | refine f_skip ?_ | refine f_ret ?_ | refine f_exit ?_ | refine f_regD0 ?_ | refine f_regD ?_) | (refine g_s ?_; first | refine s_n ?_ | refine s_r ?_ | refine s_e ?_) | (refine g_d ?_; first | refine d_late (T := none) (by rfl) (by rfl) (by rfl) ?_ | (refine d_some (T := none) (by rfl) (by rfl) ?_; try (first | (refine xd_q (by rfl) ?_; try (first | refine q_mv (by rfl) ?_ | refine q_faddr (by rfl) ?_ | (refine q_len ?_; try (first | refine len_ls (by rfl) (by assumption) ?_ | refine len_wd (by rfl) (by assumption) ?_ | refine len_sl (by rfl) ?_ | refine len_imm (by rfl) ?_ | refine len_nil (by rfl) ?_)) | (refine q_iad ?_; try (first | refine idx_ls (by rfl) (by rfl) (by assumption) (by omega) (by omega) ?_ | refine idx_wd (by rfl) (by rfl) (by assumption) (by omega) (by omega) ?_ | refine idx_ptr (by rfl) (by rfl) (by decide) (by decide) ?_ | refine idx_sl (by rfl) (by rfl) (by decide) (by decide) ?_ | refine idx_imm (by rfl) (by rfl) (by decide) (by decide) ?_ | refine idx_sl (by rfl) (by rfl) (by omega) (by omega) ?_)) | refine q_cm (by rfl) (by rfl) ?_ | refine q_ar (by rfl) (by rfl) (by rfl) ?_ | refine q_conv (by rfl) ?_ | (refine q_eqN ?_; try (first | refine eqn_nil (by rfl) ?_ | refine eqn_imm (by rfl) ?_ | refine eqn_sl (by rfl) ?_)) | refine q_ext (by rfl) (by rfl) ?_ | refine q_build (by rfl) ?_ | refine q_shl (by rfl) (by rfl) (by first | decide | omega) ?_ | refine q_shr (by rfl) (by rfl) (by first | decide | omega) ?_ | refine q_eqB (by rfl) (by rfl) ?_ | refine q_eqA (by rfl) (by rfl) (by rfl) ?_ | refine q_neg (by rfl) ?_ | refine q_not (by rfl) ?_ | refine q_pick_t (by rfl) (by rfl) ?_ | refine q_pick_f (by rfl) (by rfl) ?_ | refine q_slc ?_ | refine q_idx ?_ | refine q_fld (by rfl) (by rfl) ?_ | refine q_fldA (by rfl) (by rfl) ?_ | refine q_faddrI (by rfl) ?_ | refine q_mx (by rfl) (by rfl) ?_ | refine q_mn (by rfl) (by rfl) ?_ | refine q_fnc (by rfl) ?_ | refine q_chkP (by rfl) ?_ | refine q_chkF (by rfl) ?_ | refine q_ifaceA (by rfl) ?_ | refine q_asrtY (by rfl) (by rfl) ?_ | refine q_asrtN (by rfl) (by rfl) ?_)) | (refine xd_load ?_; try (first | (refine l_ptr (by rfl) ?_; try (first | refine ld_box (by rfl) (by rfl) ?_ | refine ld_boxA (by rfl) (by rfl) ?_ | refine ld_box (last_live _ _) (by rfl) ?_ | refine ld_boxA (last_live _ _) (by rfl) ?_)) | (refine l_ipt (by rfl) ?_; try (first | refine ld_wd (by omega) (by omega) ?_ | refine ld_cellsA (Nat.le_of_ble_eq_true (by rfl)) ?_ | refine st_box (by rfl) (by rfl) (by rfl) (by omega) ?_)))) | refine xd_store_last (by rfl) (by rfl) (by rfl) (by rfl) (Nat.le_of_ble_eq_true (by rfl)) ?_ | (refine xd_store (by rfl) (by rfl) ?_; try (first | refine st_box (by rfl) (by rfl) (by rfl) (Nat.le_of_ble_eq_true (by rfl)) ?_ | refine st_box (by rfl) (by rfl) (by rfl) (by omega) ?_)) | refine xd_call (by rfl) (by rfl) ?_ | refine xd_box (by rfl) (by rfl) (by rfl) ?_ | refine xd_alloc (by rfl) ?_ | refine xd_buildSl (by rfl) (by rfl) ?_)) | (refine d_some (by rfl) (by rfl) ?_; try (first | (refine xd_q (by rfl) ?_; try (first | refine q_mv (by rfl) ?_ | refine q_faddr (by rfl) ?_ | (refine q_len ?_; try (first | refine len_ls (by rfl) (by assumption) ?_ | refine len_wd (by rfl) (by assumption) ?_ | refine len_sl (by rfl) ?_ | refine len_imm (by rfl) ?_ | refine len_nil (by rfl) ?_)) | (refine q_iad ?_; try (first | refine idx_ls (by rfl) (by rfl) (by assumption) (by omega) (by omega) ?_ | refine idx_wd (by rfl) (by rfl) (by assumption) (by omega) (by omega) ?_ | refine idx_ptr (by rfl) (by rfl) (by decide) (by decide) ?_ | refine idx_sl (by rfl) (by rfl) (by decide) (by decide) ?_ | refine idx_imm (by rfl) (by rfl) (by decide) (by decide) ?_ | refine idx_sl (by rfl) (by rfl) (by omega) (by omega) ?_)) | refine q_cm (by rfl) (by rfl) ?_ | refine q_ar (by rfl) (by rfl) (by rfl) ?_ | refine q_conv (by rfl) ?_ | (refine q_eqN ?_; try (first | refine eqn_nil (by rfl) ?_ | refine eqn_imm (by rfl) ?_ | refine eqn_sl (by rfl) ?_)) | refine q_ext (by rfl) (by rfl) ?_ | refine q_build (by rfl) ?_ | refine q_shl (by rfl) (by rfl) (by first | decide | omega) ?_ | refine q_shr (by rfl) (by rfl) (by first | decide | omega) ?_ | refine q_eqB (by rfl) (by rfl) ?_ | refine q_eqA (by rfl) (by rfl) (by rfl) ?_ | refine q_neg (by rfl) ?_ | refine q_not (by rfl) ?_ | refine q_pick_t (by rfl) (by rfl) ?_ | refine q_pick_f (by rfl) (by rfl) ?_ | refine q_slc ?_ | refine q_idx ?_ | refine q_fld (by rfl) (by rfl) ?_ | refine q_fldA (by rfl) (by rfl) ?_ | refine q_faddrI (by rfl) ?_ | refine q_mx (by rfl) (by rfl) ?_ | refine q_mn (by rfl) (by rfl) ?_ | refine q_fnc (by rfl) ?_ | refine q_chkP (by rfl) ?_ | refine q_chkF (by rfl) ?_ | refine q_ifaceA (by rfl) ?_ | refine q_asrtY (by rfl) (by rfl) ?_ | refine q_asrtN (by rfl) (by rfl) ?_)) | (refine xd_load ?_; try (first | (refine l_ptr (by rfl) ?_; try (first | refine ld_box (by rfl) (by rfl) ?_ | refine ld_boxA (by rfl) (by rfl) ?_ | refine ld_box (last_live _ _) (by rfl) ?_ | refine ld_boxA (last_live _ _) (by rfl) ?_)) | (refine l_ipt (by rfl) ?_; try (first | refine ld_wd (by omega) (by omega) ?_ | refine ld_cellsA (Nat.le_of_ble_eq_true (by rfl)) ?_ | refine st_box (by rfl) (by rfl) (by rfl) (by omega) ?_)))) | refine xd_store_last (by rfl) (by rfl) (by rfl) (by rfl) (Nat.le_of_ble_eq_true (by rfl)) ?_ | (refine xd_store (by rfl) (by rfl) ?_; try (first | refine st_box (by rfl) (by rfl) (by rfl) (Nat.le_of_ble_eq_true (by rfl)) ?_ | refine st_box (by rfl) (by rfl) (by rfl) (by omega) ?_)) | refine xd_call (by rfl) (by rfl) ?_ | refine xd_box (by rfl) (by rfl) (by rfl) ?_ | refine xd_alloc (by rfl) ?_ | refine xd_buildSl (by rfl) (by rfl) ?_)) | (refine d_nil ?_; try (first | refine s_n ?_ | refine s_r ?_ | refine s_e ?_ | refine k_n ?_ | refine k_r ?_ | refine k_e (by rfl) ?_ | refine k_o (by rfl) ?_ | refine l_r ?_ | refine l_e ?_ | refine b_r ?_ | refine b_n ?_)) | refine d_none (by rfl) (by rfl) ?_ | refine d_guard (by rfl) (by rfl) (by rfl) ?_) | (refine g_x ?_; first | (refine x_q (by rfl) ?_; try (first | refine q_mv (by rfl) ?_ | refine q_faddr (by rfl) ?_ | (refine q_len ?_; try (first | refine len_ls (by rfl) (by assumption) ?_ | refine len_wd (by rfl) (by assumption) ?_ | refine len_sl (by rfl) ?_ | refine len_imm (by rfl) ?_ | refine len_nil (by rfl) ?_)) | (refine q_iad ?_; try (first | refine idx_ls (by rfl) (by rfl) (by assumption) (by omega) (by omega) ?_ | refine idx_wd (by rfl) (by rfl) (by assumption) (by omega) (by omega) ?_ | refine idx_ptr (by rfl) (by rfl) (by decide) (by decide) ?_ | refine idx_sl (by rfl) (by rfl) (by decide) (by decide) ?_ | refine idx_imm (by rfl) (by rfl) (by decide) (by decide) ?_ | refine idx_sl (by rfl) (by rfl) (by omega) (by omega) ?_)) | refine q_cm (by rfl) (by rfl) ?_ | refine q_ar (by rfl) (by rfl) (by rfl) ?_ | refine q_conv (by rfl) ?_ | (refine q_eqN ?_; try (first | refine eqn_nil (by rfl) ?_ | refine eqn_imm (by rfl) ?_ | refine eqn_sl (by rfl) ?_)) | refine q_ext (by rfl) (by rfl) ?_ | refine q_build (by rfl) ?_ | refine q_shl (by rfl) (by rfl) (by first | decide | omega) ?_ | refine q_shr (by rfl) (by rfl) (by first | decide | omega) ?_ | refine q_eqB (by rfl) (by rfl) ?_ | refine q_eqA (by rfl) (by rfl) (by rfl) ?_ | refine q_neg (by rfl) ?_ | refine q_not (by rfl) ?_ | refine q_pick_t (by rfl) (by rfl) ?_ | refine q_pick_f (by rfl) (by rfl) ?_ | refine q_slc ?_ | refine q_idx ?_ | refine q_fld (by rfl) (by rfl) ?_ | refine q_fldA (by rfl) (by rfl) ?_ | refine q_faddrI (by rfl) ?_ | refine q_mx (by rfl) (by rfl) ?_ | refine q_mn (by rfl) (by rfl) ?_ | refine q_fnc (by rfl) ?_ | refine q_chkP (by rfl) ?_ | refine q_chkF (by rfl) ?_ | refine q_ifaceA (by rfl) ?_ | refine q_asrtY (by rfl) (by rfl) ?_ | refine q_asrtN (by rfl) (by rfl) ?_)) | (refine x_load ?_; try (first | (refine l_ptr (by rfl) ?_; try (first | refine ld_box (by rfl) (by rfl) ?_ | refine ld_boxA (by rfl) (by rfl) ?_ | refine ld_box (last_live _ _) (by rfl) ?_ | refine ld_boxA (last_live _ _) (by rfl) ?_)) | (refine l_ipt (by rfl) ?_; try (first | refine ld_wd (by omega) (by omega) ?_ | refine ld_cellsA (Nat.le_of_ble_eq_true (by rfl)) ?_ | refine st_box (by rfl) (by rfl) (by rfl) (by omega) ?_)))) | refine x_store_last (by rfl) (by rfl) (by rfl) (by rfl) (Nat.le_of_ble_eq_true (by rfl)) ?_ | (refine x_store (by rfl) (by rfl) ?_; try (first | refine st_box (by rfl) (by rfl) (by rfl) (Nat.le_of_ble_eq_true (by rfl)) ?_ | refine st_box (by rfl) (by rfl) (by rfl) (by omega) ?_)) | refine x_call (by rfl) (by rfl) ?_ | refine x_box (by rfl) (by rfl) ?_ | refine x_alloc ?_ | refine x_buildSl (by rfl) ?_ | refine x_app ?_ | refine x_slcA ?_) | (refine g_q ?_; first | refine q_mv (by rfl) ?_ | refine q_faddr (by rfl) ?_ | (refine q_len ?_; try (first | refine len_ls (by rfl) (by assumption) ?_ | refine len_wd (by rfl) (by assumption) ?_ | refine len_sl (by rfl) ?_ | refine len_imm (by rfl) ?_ | refine len_nil (by rfl) ?_)) | (refine q_iad ?_; try (first | refine idx_ls (by rfl) (by rfl) (by assumption) (by omega) (by omega) ?_ | refine idx_wd (by rfl) (by rfl) (by assumption) (by omega) (by omega) ?_ | refine idx_ptr (by rfl) (by rfl) (by decide) (by decide) ?_ | refine idx_sl (by rfl) (by rfl) (by decide) (by decide) ?_ | refine idx_imm (by rfl) (by rfl) (by decide) (by decide) ?_ | refine idx_sl (by rfl) (by rfl) (by omega) (by omega) ?_)) | refine q_cm (by rfl) (by rfl) ?_ | refine q_ar (by rfl) (by rfl) (by rfl) ?_ | refine q_conv (by rfl) ?_ | (refine q_eqN ?_; try (first | refine eqn_nil (by rfl) ?_ | refine eqn_imm (by rfl) ?_ | refine eqn_sl (by rfl) ?_)) | refine q_ext (by rfl) (by rfl) ?_ | refine q_build (by rfl) ?_ | refine q_shl (by rfl) (by rfl) (by first | decide | omega) ?_ | refine q_shr (by rfl) (by rfl) (by first | decide | omega) ?_ | refine q_eqB (by rfl) (by rfl) ?_ | refine q_eqA (by rfl) (by rfl) (by rfl) ?_ | refine q_neg (by rfl) ?_ | refine q_not (by rfl) ?_ | refine q_pick_t (by rfl) (by rfl) ?_ | refine q_pick_f (by rfl) (by rfl) ?_ | refine q_slc ?_ | refine q_idx ?_ | refine q_fld (by rfl) (by rfl) ?_ | refine q_fldA (by rfl) (by rfl) ?_ | refine q_faddrI (by rfl) ?_ | refine q_mx (by rfl) (by rfl) ?_ | refine q_mn (by rfl) (by rfl) ?_ | refine q_fnc (by rfl) ?_ | refine q_chkP (by rfl) ?_ | refine q_chkF (by rfl) ?_ | refine q_ifaceA (by rfl) ?_ | refine q_asrtY (by rfl) (by rfl) ?_ | refine q_asrtN (by rfl) (by rfl) ?_) | (refine g_c ?_; first | refine c_t (by rfl) ?_ | refine c_f (by rfl) ?_) | (refine g_k ?_; first | refine k_n ?_ | refine k_r ?_ | refine k_e (by rfl) ?_ | refine k_o (by rfl) ?_) | (refine g_lo ?_; first | refine l_r ?_ | refine l_e ?_) | (refine g_xd ?_; first | (refine xd_q (by rfl) ?_; try (first | refine q_mv (by rfl) ?_ | refine q_faddr (by rfl) ?_ | (refine q_len ?_; try (first | refine len_ls (by rfl) (by assumption) ?_ | refine len_wd (by rfl) (by assumption) ?_ | refine len_sl (by rfl) ?_ | refine len_imm (by rfl) ?_ | refine len_nil (by rfl) ?_)) | (refine q_iad ?_; try (first | refine idx_ls (by rfl) (by rfl) (by assumption) (by omega) (by omega) ?_ | refine idx_wd (by rfl) (by rfl) (by assumption) (by omega) (by omega) ?_ | refine idx_ptr (by rfl) (by rfl) (by decide) (by decide) ?_ | refine idx_sl (by rfl) (by rfl) (by decide) (by decide) ?_ | refine idx_imm (by rfl) (by rfl) (by decide) (by decide) ?_ | refine idx_sl (by rfl) (by rfl) (by omega) (by omega) ?_)) | refine q_cm (by rfl) (by rfl) ?_ | refine q_ar (by rfl) (by rfl) (by rfl) ?_ | refine q_conv (by rfl) ?_ | (refine q_eqN ?_; try (first | refine eqn_nil (by rfl) ?_ | refine eqn_imm (by rfl) ?_ | refine eqn_sl (by rfl) ?_)) | refine q_ext (by rfl) (by rfl) ?_ | refine q_build (by rfl) ?_ | refine q_shl (by rfl) (by rfl) (by first | decide | omega) ?_ | refine q_shr (by rfl) (by rfl) (by first | decide | omega) ?_ | refine q_eqB (by rfl) (by rfl) ?_ | refine q_eqA (by rfl) (by rfl) (by rfl) ?_ | refine q_neg (by rfl) ?_ | refine q_not (by rfl) ?_ | refine q_pick_t (by rfl) (by rfl) ?_ | refine q_pick_f (by rfl) (by rfl) ?_ | refine q_slc ?_ | refine q_idx ?_ | refine q_fld (by rfl) (by rfl) ?_ | refine q_fldA (by rfl) (by rfl) ?_ | refine q_faddrI (by rfl) ?_ | refine q_mx (by rfl) (by rfl) ?_ | refine q_mn (by rfl) (by rfl) ?_ | refine q_fnc (by rfl) ?_ | refine q_chkP (by rfl) ?_ | refine q_chkF (by rfl) ?_ | refine q_ifaceA (by rfl) ?_ | refine q_asrtY (by rfl) (by rfl) ?_ | refine q_asrtN (by rfl) (by rfl) ?_)) | (refine xd_load ?_; try (first | (refine l_ptr (by rfl) ?_; try (first | refine ld_box (by rfl) (by rfl) ?_ | refine ld_boxA (by rfl) (by rfl) ?_ | refine ld_box (last_live _ _) (by rfl) ?_ | refine ld_boxA (last_live _ _) (by rfl) ?_)) | (refine l_ipt (by rfl) ?_; try (first | refine ld_wd (by omega) (by omega) ?_ | refine ld_cellsA (Nat.le_of_ble_eq_true (by rfl)) ?_ | refine st_box (by rfl) (by rfl) (by rfl) (by omega) ?_)))) | refine xd_store_last (by rfl) (by rfl) (by rfl) (by rfl) (Nat.le_of_ble_eq_true (by rfl)) ?_ | (refine xd_store (by rfl) (by rfl) ?_; try (first | refine st_box (by rfl) (by rfl) (by rfl) (Nat.le_of_ble_eq_true (by rfl)) ?_ | refine st_box (by rfl) (by rfl) (by rfl) (by omega) ?_)) | refine xd_call (by rfl) (by rfl) ?_ | refine xd_box (by rfl) (by rfl) (by rfl) ?_ | refine xd_alloc (by rfl) ?_ | refine xd_buildSl (by rfl) (by rfl) ?_) | (refine g_l ?_; first | (refine l_ptr (by rfl) ?_; try (first | refine ld_box (by rfl) (by rfl) ?_ | refine ld_boxA (by rfl) (by rfl) ?_ | refine ld_box (last_live _ _) (by rfl) ?_ | refine ld_boxA (last_live _ _) (by rfl) ?_)) | (refine l_ipt (by rfl) ?_; try (first | refine ld_wd (by omega) (by omega) ?_ | refine ld_cellsA (Nat.le_of_ble_eq_true (by rfl)) ?_ | refine st_box (by rfl) (by rfl) (by rfl) (by omega) ?_))) | (refine g_len ?_; first | refine len_ls (by rfl) (by assumption) ?_ | refine len_wd (by rfl) (by assumption) ?_ | refine len_sl (by rfl) ?_ | refine len_imm (by rfl) ?_ | refine len_nil (by rfl) ?_) | (refine g_nil ?_; first | refine eqn_nil (by rfl) ?_ | refine eqn_imm (by rfl) ?_ | refine eqn_sl (by rfl) ?_) | (refine g_iad ?_; first | refine idx_ls (by rfl) (by rfl) (by assumption) (by omega) (by omega) ?_ | refine idx_wd (by rfl) (by rfl) (by assumption) (by omega) (by omega) ?_ | refine idx_ptr (by rfl) (by rfl) (by decide) (by decide) ?_ | refine idx_sl (by rfl) (by rfl) (by decide) (by decide) ?_ | refine idx_imm (by rfl) (by rfl) (by decide) (by decide) ?_ | refine idx_sl (by rfl) (by rfl) (by omega) (by omega) ?_) | (refine g_box ?_; first | refine ld_box (by rfl) (by rfl) ?_ | refine ld_boxA (by rfl) (by rfl) ?_ | refine ld_box (last_live _ _) (by rfl) ?_ | refine ld_boxA (last_live _ _) (by rfl) ?_) | (refine g_cells ?_; first | refine ld_wd (by omega) (by omega) ?_ | refine ld_cellsA (Nat.le_of_ble_eq_true (by rfl)) ?_) | (refine g_st ?_; first | refine st_box (by rfl) (by rfl) (by rfl) (Nat.le_of_ble_eq_true (by rfl)) ?_) | (refine g_b ?_; first | refine b_r ?_ | refine b_n ?_) | (refine g_r ?_; first | refine r_tmp (by rfl) ?_ | refine r_cell ?_ | refine r_nil ?_))
  exact hgo.out) : A := h ⟨k⟩
theorem go7 {A B : Prop} (k : B) (h : Held B → A := by
  intro hgo
  repeat (first | (refine g_o ?_; first | (refine o_some ?_; try (first | (refine x_q (by rfl) ?_; try (first | refine q_mv (by rfl) ?_ | refine q_faddr (by rfl) ?_ | (refine q_len ?_; try (first | refine len_ls (by rfl) (by assumption) ?_ | refine len_wd (by rfl) (by assumption) ?_ | refine len_sl (by rfl) ?_ | refine len_imm (by rfl) ?_ | refine len_nil (by rfl) ?_)) | (refine q_iad ?_; try (first | refine idx_ls (by rfl) (by rfl) (by assumption) (by omega) (by omega) ?_ | refine idx_wd (by rfl) (by rfl) (by assumption) (by omega) (by omega) ?_ | refine idx_ptr (by rfl) (by rfl) (by decide) (by decide) ?_ | refine idx_sl (by rfl) (by rfl) (by decide) (by decide) ?_ | refine idx_imm (by rfl) (by rfl) (by decide) (by decide) ?_ | refine idx_sl (by rfl) (by rfl) (by omega) (by omega) ?_)) | refine q_cm (by rfl) (by rfl) ?_ | refine q_ar (by rfl) (by rfl) (by rfl) ?_ | refine q_conv (by rfl) ?_ | (refine q_eqN ?_; try (first | refine eqn_nil (by rfl) ?_ | refine eqn_imm (by rfl) ?_ | refine eqn_sl (by rfl) ?_)) | refine q_ext (by rfl) (by rfl) ?_ | refine q_build (by rfl) ?_ | refine q_shl (by rfl) (by rfl) (by first | decide | omega) ?_ | refine q_shr (by rfl) (by rfl) (by first | decide | omega) ?_ | refine q_eqB (by rfl) (by rfl) ?_ | refine q_eqA (by rfl) (by rfl) (by rfl) ?_ | refine q_neg (by rfl) ?_ | refine q_not (by rfl) ?_ | refine q_pick_t (by rfl) (by rfl) ?_ | refine q_pick_f (by rfl) (by rfl) ?_ | refine q_slc ?_ | refine q_idx ?_ | refine q_fld (by rfl) (by rfl) ?_ | refine q_fldA (by rfl) (by rfl) ?_ | refine q_faddrI (by rfl) ?_ | refine q_mx (by rfl) (by rfl) ?_ | refine q_mn (by rfl) (by rfl) ?_ | refine q_fnc (by rfl) ?_ | refine q_chkP (by rfl) ?_ | refine q_chkF (by rfl) ?_ | refine q_ifaceA (by rfl) ?_ | refine q_asrtY (by rfl) (by rfl) ?_ | refine q_asrtN (by rfl) (by rfl) ?_)) | (refine x_load ?_; try (first | (refine l_ptr (by rfl) ?_; try (first | refine ld_box (by rfl) (by rfl) ?_ | refine ld_boxA (by rfl) (by rfl) ?_ | refine ld_box (last_live _ _) (by rfl) ?_ | refine ld_boxA (last_live _ _) (by rfl) ?_)) | (refine l_ipt (by rfl) ?_; try (first | refine ld_wd (by omega) (by omega) ?_ | refine ld_cellsA (Nat.le_of_ble_eq_true (by rfl)) ?_ | refine st_box (by rfl) (by rfl) (by rfl) (by omega) ?_)))) | refine x_store_last (by rfl) (by rfl) (by rfl) (by rfl) (Nat.le_of_ble_eq_true (by rfl)) ?_ | (refine x_store (by rfl) (by rfl) ?_; try (first | refine st_box (by rfl) (by rfl) (by rfl) (Nat.le_of_ble_eq_true (by rfl)) ?_ | refine st_box (by rfl) (by rfl) (by rfl) (by omega) ?_)) | refine x_call (by rfl) (by rfl) ?_ | refine x_box (by rfl) (by rfl) ?_ | refine x_alloc ?_ | refine x_buildSl (by rfl) ?_  | refine x_slcA ?_)) | (refine o_nil ?_; try (first | refine s_n ?_ | refine s_r ?_ | refine s_e ?_ | refine k_n ?_ | refine k_r ?_ | refine k_e (by rfl) ?_ | refine k_o (by rfl) ?_ | refine l_r ?_ | refine l_e ?_ | refine b_r ?_ | refine b_n ?_)) | refine o_guard (by rfl) ?_ | refine o_guardT (by rfl) ?_ | refine o_none ?_ | refine o_guardN (by rfl) ?_) | (refine g_f ?_; first | refine f_seq ?_ | refine f_reg ?_ | (refine f_cond (by rfl) ?_; try (first | refine c_t (by rfl) ?_ | refine c_f (by rfl) ?_)) | refine f_block ?_ | refine f_skip ?_ | refine f_ret ?_ | refine f_exit ?_ | refine f_regD0 ?_ | refine f_regD ?_) | (refine g_s ?_; first | refine s_n ?_ | refine s_r ?_ | refine s_e ?_) | (refine g_d ?_; first | (refine d_some (T := none) (by rfl) (by rfl) ?_; try (first | (refine xd_q (by rfl) ?_; try (first | refine q_mv (by rfl) ?_ | refine q_faddr (by rfl) ?_ | (refine q_len ?_; try (first | refine len_ls (by rfl) (by assumption) ?_ | refine len_wd (by rfl) (by assumption) ?_ | refine len_sl (by rfl) ?_ | refine len_imm (by rfl) ?_ | refine len_nil (by rfl) ?_)) | (refine q_iad ?_; try (first | refine idx_ls (by rfl) (by rfl) (by assumption) (by omega) (by omega) ?_ | refine idx_wd (by rfl) (by rfl) (by assumption) (by omega) (by omega) ?_ | refine idx_ptr (by rfl) (by rfl) (by decide) (by decide) ?_ | refine idx_sl (by rfl) (by rfl) (by decide) (by decide) ?_ | refine idx_imm (by rfl) (by rfl) (by decide) (by decide) ?_ | refine idx_sl (by rfl) (by rfl) (by omega) (by omega) ?_)) | refine q_cm (by rfl) (by rfl) ?_ | refine q_ar (by rfl) (by rfl) (by rfl) ?_ | refine q_conv (by rfl) ?_ | (refine q_eqN ?_; try (first | refine eqn_nil (by rfl) ?_ | refine eqn_imm (by rfl) ?_ | refine eqn_sl (by rfl) ?_)) | refine q_ext (by rfl) (by rfl) ?_ | refine q_build (by rfl) ?_ | refine q_shl (by rfl) (by rfl) (by first | decide | omega) ?_ | refine q_shr (by rfl) (by rfl) (by first | decide | omega) ?_ | refine q_eqB (by rfl) (by rfl) ?_ | refine q_eqA (by rfl) (by rfl) (by rfl) ?_ | refine q_neg (by rfl) ?_ | refine q_not (by rfl) ?_ | refine q_pick_t (by rfl) (by rfl) ?_ | refine q_pick_f (by rfl) (by rfl) ?_ | refine q_slc ?_ | refine q_idx ?_ | refine q_fld (by rfl) (by rfl) ?_ | refine q_fldA (by rfl) (by rfl) ?_ | refine q_faddrI (by rfl) ?_ | refine q_mx (by rfl) (by rfl) ?_ | refine q_mn (by rfl) (by rfl) ?_ | refine q_fnc (by rfl) ?_ | refine q_chkP (by rfl) ?_ | refine q_chkF (by rfl) ?_ | refine q_ifaceA (by rfl) ?_ | refine q_asrtY (by rfl) (by rfl) ?_ | refine q_asrtN (by rfl) (by rfl) ?_)) | (refine xd_load ?_; try (first | (refine l_ptr (by rfl) ?_; try (first | refine ld_box (by rfl) (by rfl) ?_ | refine ld_boxA (by rfl) (by rfl) ?_ | refine ld_box (last_live _ _) (by rfl) ?_ | refine ld_boxA (last_live _ _) (by rfl) ?_)) | (refine l_ipt (by rfl) ?_; try (first | refine ld_wd (by omega) (by omega) ?_ | refine ld_cellsA (Nat.le_of_ble_eq_true (by rfl)) ?_ | refine st_box (by rfl) (by rfl) (by rfl) (by omega) ?_)))) | refine xd_store_last (by rfl) (by rfl) (by rfl) (by rfl) (Nat.le_of_ble_eq_true (by rfl)) ?_ | (refine xd_store (by rfl) (by rfl) ?_; try (first | refine st_box (by rfl) (by rfl) (by rfl) (Nat.le_of_ble_eq_true (by rfl)) ?_ | refine st_box (by rfl) (by rfl) (by rfl) (by omega) ?_)) | refine xd_call (by rfl) (by rfl) ?_ | refine xd_box (by rfl) (by rfl) (by rfl) ?_ | refine xd_alloc (by rfl) ?_ | refine xd_buildSl (by rfl) (by rfl) ?_)) | (refine d_some (by rfl) (by rfl) ?_; try (first | (refine xd_q (by rfl) ?_; try (first | refine q_mv (by rfl) ?_ | refine q_faddr (by rfl) ?_ | (refine q_len ?_; try (first | refine len_ls (by rfl) (by assumption) ?_ | refine len_wd (by rfl) (by assumption) ?_ | refine len_sl (by rfl) ?_ | refine len_imm (by rfl) ?_ | refine len_nil (by rfl) ?_)) | (refine q_iad ?_; try (first | refine idx_ls (by rfl) (by rfl) (by assumption) (by omega) (by omega) ?_ | refine idx_wd (by rfl) (by rfl) (by assumption) (by omega) (by omega) ?_ | refine idx_ptr (by rfl) (by rfl) (by decide) (by decide) ?_ | refine idx_sl (by rfl) (by rfl) (by decide) (by decide) ?_ | refine idx_imm (by rfl) (by rfl) (by decide) (by decide) ?_ | refine idx_sl (by rfl) (by rfl) (by omega) (by omega) ?_)) | refine q_cm (by rfl) (by rfl) ?_ | refine q_ar (by rfl) (by rfl) (by rfl) ?_ | refine q_conv (by rfl) ?_ | (refine q_eqN ?_; try (first | refine eqn_nil (by rfl) ?_ | refine eqn_imm (by rfl) ?_ | refine eqn_sl (by rfl) ?_)) | refine q_ext (by rfl) (by rfl) ?_ | refine q_build (by rfl) ?_ | refine q_shl (by rfl) (by rfl) (by first | decide | omega) ?_ | refine q_shr (by rfl) (by rfl) (by first | decide | omega) ?_ | refine q_eqB (by rfl) (by rfl) ?_ | refine q_eqA (by rfl) (by rfl) (by rfl) ?_ | refine q_neg (by rfl) ?_ | refine q_not (by rfl) ?_ | refine q_pick_t (by rfl) (by rfl) ?_ | refine q_pick_f (by rfl) (by rfl) ?_ | refine q_slc ?_ | refine q_idx ?_ | refine q_fld (by rfl) (by rfl) ?_ | refine q_fldA (by rfl) (by rfl) ?_ | refine q_faddrI (by rfl) ?_ | refine q_mx (by rfl) (by rfl) ?_ | refine q_mn (by rfl) (by rfl) ?_ | refine q_fnc (by rfl) ?_ | refine q_chkP (by rfl) ?_ | refine q_chkF (by rfl) ?_ | refine q_ifaceA (by rfl) ?_ | refine q_asrtY (by rfl) (by rfl) ?_ | refine q_asrtN (by rfl) (by rfl) ?_)) | (refine xd_load ?_; try (first | (refine l_ptr (by rfl) ?_; try (first | refine ld_box (by rfl) (by rfl) ?_ | refine ld_boxA (by rfl) (by rfl) ?_ | refine ld_box (last_live _ _) (by rfl) ?_ | refine ld_boxA (last_live _ _) (by rfl) ?_)) | (refine l_ipt (by rfl) ?_; try (first | refine ld_wd (by omega) (by omega) ?_ | refine ld_cellsA (Nat.le_of_ble_eq_true (by rfl)) ?_ | refine st_box (by rfl) (by rfl) (by rfl) (by omega) ?_)))) | refine xd_store_last (by rfl) (by rfl) (by rfl) (by rfl) (Nat.le_of_ble_eq_true (by rfl)) ?_ | (refine xd_store (by rfl) (by rfl) ?_; try (first | refine st_box (by rfl) (by rfl) (by rfl) (Nat.le_of_ble_eq_true (by rfl)) ?_ | refine st_box (by rfl) (by rfl) (by rfl) (by omega) ?_)) | refine xd_call (by rfl) (by rfl) ?_ | refine xd_box (by rfl) (by rfl) (by rfl) ?_ | refine xd_alloc (by rfl) ?_ | refine xd_buildSl (by rfl) (by rfl) ?_)) | (refine d_nil ?_; try (first | refine s_n ?_ | refine s_r ?_ | refine s_e ?_ | refine k_n ?_ | refine k_r ?_ | refine k_e (by rfl) ?_ | refine k_o (by rfl) ?_ | refine l_r ?_ | refine l_e ?_ | refine b_r ?_ | refine b_n ?_)) | refine d_none (by rfl) (by rfl) ?_ | refine d_guard (by rfl) (by rfl) (by rfl) ?_) | (refine g_x ?_; first | (refine x_q (by rfl) ?_; try (first | refine q_mv (by rfl) ?_ | refine q_faddr (by rfl) ?_ | (refine q_len ?_; try (first | refine len_ls (by rfl) (by assumption) ?_ | refine len_wd (by rfl) (by assumption) ?_ | refine len_sl (by rfl) ?_ | refine len_imm (by rfl) ?_ | refine len_nil (by rfl) ?_)) | (refine q_iad ?_; try (first | refine idx_ls (by rfl) (by rfl) (by assumption) (by omega) (by omega) ?_ | refine idx_wd (by rfl) (by rfl) (by assumption) (by omega) (by omega) ?_ | refine idx_ptr (by rfl) (by rfl) (by decide) (by decide) ?_ | refine idx_sl (by rfl) (by rfl) (by decide) (by decide) ?_ | refine idx_imm (by rfl) (by rfl) (by decide) (by decide) ?_ | refine idx_sl (by rfl) (by rfl) (by omega) (by omega) ?_)) | refine q_cm (by rfl) (by rfl) ?_ | refine q_ar (by rfl) (by rfl) (by rfl) ?_ | refine q_conv (by rfl) ?_ | (refine q_eqN ?_; try (first | refine eqn_nil (by rfl) ?_ | refine eqn_imm (by rfl) ?_ | refine eqn_sl (by rfl) ?_)) | refine q_ext (by rfl) (by rfl) ?_ | refine q_build (by rfl) ?_ | refine q_shl (by rfl) (by rfl) (by first | decide | omega) ?_ | refine q_shr (by rfl) (by rfl) (by first | decide | omega) ?_ | refine q_eqB (by rfl) (by rfl) ?_ | refine q_eqA (by rfl) (by rfl) (by rfl) ?_ | refine q_neg (by rfl) ?_ | refine q_not (by rfl) ?_ | refine q_pick_t (by rfl) (by rfl) ?_ | refine q_pick_f (by rfl) (by rfl) ?_ | refine q_slc ?_ | refine q_idx ?_ | refine q_fld (by rfl) (by rfl) ?_ | refine q_fldA (by rfl) (by rfl) ?_ | refine q_faddrI (by rfl) ?_ | refine q_mx (by rfl) (by rfl) ?_ | refine q_mn (by rfl) (by rfl) ?_ | refine q_fnc (by rfl) ?_ | refine q_chkP (by rfl) ?_ | refine q_chkF (by rfl) ?_ | refine q_ifaceA (by rfl) ?_ | refine q_asrtY (by rfl) (by rfl) ?_ | refine q_asrtN (by rfl) (by rfl) ?_)) | (refine x_load ?_; try (first | (refine l_ptr (by rfl) ?_; try (first | refine ld_box (by rfl) (by rfl) ?_ | refine ld_boxA (by rfl) (by rfl) ?_ | refine ld_box (last_live _ _) (by rfl) ?_ | refine ld_boxA (last_live _ _) (by rfl) ?_)) | (refine l_ipt (by rfl) ?_; try (first | refine ld_wd (by omega) (by omega) ?_ | refine ld_cellsA (Nat.le_of_ble_eq_true (by rfl)) ?_ | refine st_box (by rfl) (by rfl) (by rfl) (by omega) ?_)))) | refine x_store_last (by rfl) (by rfl) (by rfl) (by rfl) (Nat.le_of_ble_eq_true (by rfl)) ?_ | (refine x_store (by rfl) (by rfl) ?_; try (first | refine st_box (by rfl) (by rfl) (by rfl) (Nat.le_of_ble_eq_true (by rfl)) ?_ | refine st_box (by rfl) (by rfl) (by rfl) (by omega) ?_)) | refine x_call (by rfl) (by rfl) ?_ | refine x_box (by rfl) (by rfl) ?_ | refine x_alloc ?_ | refine x_buildSl (by rfl) ?_  | refine x_slcA ?_) | (refine g_q ?_; first | refine q_mv (by rfl) ?_ | refine q_faddr (by rfl) ?_ | (refine q_len ?_; try (first | refine len_ls (by rfl) (by assumption) ?_ | refine len_wd (by rfl) (by assumption) ?_ | refine len_sl (by rfl) ?_ | refine len_imm (by rfl) ?_ | refine len_nil (by rfl) ?_)) | (refine q_iad ?_; try (first | refine idx_ls (by rfl) (by rfl) (by assumption) (by omega) (by omega) ?_ | refine idx_wd (by rfl) (by rfl) (by assumption) (by omega) (by omega) ?_ | refine idx_ptr (by rfl) (by rfl) (by decide) (by decide) ?_ | refine idx_sl (by rfl) (by rfl) (by decide) (by decide) ?_ | refine idx_imm (by rfl) (by rfl) (by decide) (by decide) ?_ | refine idx_sl (by rfl) (by rfl) (by omega) (by omega) ?_)) | refine q_cm (by rfl) (by rfl) ?_ | refine q_ar (by rfl) (by rfl) (by rfl) ?_ | refine q_conv (by rfl) ?_ | (refine q_eqN ?_; try (first | refine eqn_nil (by rfl) ?_ | refine eqn_imm (by rfl) ?_ | refine eqn_sl (by rfl) ?_)) | refine q_ext (by rfl) (by rfl) ?_ | refine q_build (by rfl) ?_ | refine q_shl (by rfl) (by rfl) (by first | decide | omega) ?_ | refine q_shr (by rfl) (by rfl) (by first | decide | omega) ?_ | refine q_eqB (by rfl) (by rfl) ?_ | refine q_eqA (by rfl) (by rfl) (by rfl) ?_ | refine q_neg (by rfl) ?_ | refine q_not (by rfl) ?_ | refine q_pick_t (by rfl) (by rfl) ?_ | refine q_pick_f (by rfl) (by rfl) ?_ | refine q_slc ?_ | refine q_idx ?_ | refine q_fld (by rfl) (by rfl) ?_ | refine q_fldA (by rfl) (by rfl) ?_ | refine q_faddrI (by rfl) ?_ | refine q_mx (by rfl) (by rfl) ?_ | refine q_mn (by rfl) (by rfl) ?_ | refine q_fnc (by rfl) ?_ | refine q_chkP (by rfl) ?_ | refine q_chkF (by rfl) ?_ | refine q_ifaceA (by rfl) ?_ | refine q_asrtY (by rfl) (by rfl) ?_ | refine q_asrtN (by rfl) (by rfl) ?_) | (refine g_c ?_; first | refine c_t (by rfl) ?_ | refine c_f (by rfl) ?_) | (refine g_k ?_; first | refine k_n ?_ | refine k_r ?_ | refine k_e (by rfl) ?_ | refine k_o (by rfl) ?_) | (refine g_lo ?_; first | refine l_r ?_ | refine l_e ?_) | (refine g_xd ?_; first | (refine xd_q (by rfl) ?_; try (first | refine q_mv (by rfl) ?_ | refine q_faddr (by rfl) ?_ | (refine q_len ?_; try (first | refine len_ls (by rfl) (by assumption) ?_ | refine len_wd (by rfl) (by assumption) ?_ | refine len_sl (by rfl) ?_ | refine len_imm (by rfl) ?_ | refine len_nil (by rfl) ?_)) | (refine q_iad ?_; try (first | refine idx_ls (by rfl) (by rfl) (by assumption) (by omega) (by omega) ?_ | refine idx_wd (by rfl) (by rfl) (by assumption) (by omega) (by omega) ?_ | refine idx_ptr (by rfl) (by rfl) (by decide) (by decide) ?_ | refine idx_sl (by rfl) (by rfl) (by decide) (by decide) ?_ | refine idx_imm (by rfl) (by rfl) (by decide) (by decide) ?_ | refine idx_sl (by rfl) (by rfl) (by omega) (by omega) ?_)) | refine q_cm (by rfl) (by rfl) ?_ | refine q_ar (by rfl) (by rfl) (by rfl) ?_ | refine q_conv (by rfl) ?_ | (refine q_eqN ?_; try (first | refine eqn_nil (by rfl) ?_ | refine eqn_imm (by rfl) ?_ | refine eqn_sl (by rfl) ?_)) | refine q_ext (by rfl) (by rfl) ?_ | refine q_build (by rfl) ?_ | refine q_shl (by rfl) (by rfl) (by first | decide | omega) ?_ | refine q_shr (by rfl) (by rfl) (by first | decide | omega) ?_ | refine q_eqB (by rfl) (by rfl) ?_ | refine q_eqA (by rfl) (by rfl) (by rfl) ?_ | refine q_neg (by rfl) ?_ | refine q_not (by rfl) ?_ | refine q_pick_t (by rfl) (by rfl) ?_ | refine q_pick_f (by rfl) (by rfl) ?_ | refine q_slc ?_ | refine q_idx ?_ | refine q_fld (by rfl) (by rfl) ?_ | refine q_fldA (by rfl) (by rfl) ?_ | refine q_faddrI (by rfl) ?_ | refine q_mx (by rfl) (by rfl) ?_ | refine q_mn (by rfl) (by rfl) ?_ | refine q_fnc (by rfl) ?_ | refine q_chkP (by rfl) ?_ | refine q_chkF (by rfl) ?_ | refine q_ifaceA (by rfl) ?_ | refine q_asrtY (by rfl) (by rfl) ?_ | refine q_asrtN (by rfl) (by rfl) ?_)) | (refine xd_load ?_; try (first | (refine l_ptr (by rfl) ?_; try (first | refine ld_box (by rfl) (by rfl) ?_ | refine ld_boxA (by rfl) (by rfl) ?_ | refine ld_box (last_live _ _) (by rfl) ?_ | refine ld_boxA (last_live _ _) (by rfl) ?_)) | (refine l_ipt (by rfl) ?_; try (first | refine ld_wd (by omega) (by omega) ?_ | refine ld_cellsA (Nat.le_of_ble_eq_true (by rfl)) ?_ | refine st_box (by rfl) (by rfl) (by rfl) (by omega) ?_)))) | refine xd_store_last (by rfl) (by rfl) (by rfl) (by rfl) (Nat.le_of_ble_eq_true (by rfl)) ?_ | (refine xd_store (by rfl) (by rfl) ?_; try (first | refine st_box (by rfl) (by rfl) (by rfl) (Nat.le_of_ble_eq_true (by rfl)) ?_ | refine st_box (by rfl) (by rfl) (by rfl) (by omega) ?_)) | refine xd_call (by rfl) (by rfl) ?_ | refine xd_box (by rfl) (by rfl) (by rfl) ?_ | refine xd_alloc (by rfl) ?_ | refine xd_buildSl (by rfl) (by rfl) ?_) | (refine g_l ?_; first | (refine l_ptr (by rfl) ?_; try (first | refine ld_box (by rfl) (by rfl) ?_ | refine ld_boxA (by rfl) (by rfl) ?_ | refine ld_box (last_live _ _) (by rfl) ?_ | refine ld_boxA (last_live _ _) (by rfl) ?_)) | (refine l_ipt (by rfl) ?_; try (first | refine ld_wd (by omega) (by omega) ?_ | refine ld_cellsA (Nat.le_of_ble_eq_true (by rfl)) ?_ | refine st_box (by rfl) (by rfl) (by rfl) (by omega) ?_))) | (refine g_len ?_; first | refine len_ls (by rfl) (by assumption) ?_ | refine len_wd (by rfl) (by assumption) ?_ | refine len_sl (by rfl) ?_ | refine len_imm (by rfl) ?_ | refine len_nil (by rfl) ?_) | (refine g_nil ?_; first | refine eqn_nil (by rfl) ?_ | refine eqn_imm (by rfl) ?_ | refine eqn_sl (by rfl) ?_) | (refine g_iad ?_; first | refine idx_ls (by rfl) (by rfl) (by assumption) (by omega) (by omega) ?_ | refine idx_wd (by rfl) (by rfl) (by assumption) (by omega) (by omega) ?_ | refine idx_ptr (by rfl) (by rfl) (by decide) (by decide) ?_ | refine idx_sl (by rfl) (by rfl) (by decide) (by decide) ?_ | refine idx_imm (by rfl) (by rfl) (by decide) (by decide) ?_ | refine idx_sl (by rfl) (by rfl) (by omega) (by omega) ?_) | (refine g_box ?_; first | refine ld_box (by rfl) (by rfl) ?_ | refine ld_boxA (by rfl) (by rfl) ?_ | refine ld_box (last_live _ _) (by rfl) ?_ | refine ld_boxA (last_live _ _) (by rfl) ?_) | (refine g_cells ?_; first | refine ld_wd (by omega) (by omega) ?_ | refine ld_cellsA (Nat.le_of_ble_eq_true (by rfl)) ?_) | (refine g_st ?_; first | refine st_box (by rfl) (by rfl) (by rfl) (Nat.le_of_ble_eq_true (by rfl)) ?_) | (refine g_b ?_; first | refine b_r ?_ | refine b_n ?_) | (refine g_r ?_; first | refine r_tmp (by rfl) ?_ | refine r_cell ?_ | refine r_nil ?_))
  exact hgo.out) : A := h ⟨k⟩
theorem go8 {A B : Prop} (k : B) (h : Held B → A := by
  intro hgo
  repeat (first | (refine g_o ?_; first | (refine o_some ?_; try (first | (refine x_q (by rfl) ?_; try (first | refine q_mv (by rfl) ?_ | refine q_faddr (by rfl) ?_ | (refine q_len ?_; try (first | refine len_ls (by rfl) (by assumption) ?_ | refine len_wd (by rfl) (by assumption) ?_ | refine len_sl (by rfl) ?_ | refine len_imm (by rfl) ?_ | refine len_nil (by rfl) ?_)) | (refine q_iad ?_; try (first | refine idx_ls (by rfl) (by rfl) (by assumption) (by omega) (by omega) ?_ | refine idx_wd (by rfl) (by rfl) (by assumption) (by omega) (by omega) ?_ | refine idx_ptr (by rfl) (by rfl) (by decide) (by decide) ?_ | refine idx_sl (by rfl) (by rfl) (by decide) (by decide) ?_ | refine idx_imm (by rfl) (by rfl) (by decide) (by decide) ?_ | refine idx_sl (by rfl) (by rfl) (by omega) (by omega) ?_)) | refine q_cm (by rfl) (by rfl) ?_ | refine q_ar (by rfl) (by rfl) (by rfl) ?_ | refine q_conv (by rfl) ?_ | (refine q_eqN ?_; try (first | refine eqn_nil (by rfl) ?_ | refine eqn_imm (by rfl) ?_ | refine eqn_sl (by rfl) ?_)) | refine q_ext (by rfl) (by rfl) ?_ | refine q_build (by rfl) ?_ | refine q_shl (by rfl) (by rfl) (by first | decide | omega) ?_ | refine q_shr (by rfl) (by rfl) (by first | decide | omega) ?_ | refine q_eqB (by rfl) (by rfl) ?_ | refine q_eqA (by rfl) (by rfl) (by rfl) ?_ | refine q_neg (by rfl) ?_ | refine q_not (by rfl) ?_ | refine q_pick_t (by rfl) (by rfl) ?_ | refine q_pick_f (by rfl) (by rfl) ?_ | refine q_slc ?_ | refine q_idx ?_ | refine q_fld (by rfl) (by rfl) ?_ | refine q_fldA (by rfl) (by rfl) ?_ | refine q_faddrI (by rfl) ?_ | refine q_mx (by rfl) (by rfl) ?_ | refine q_mn (by rfl) (by rfl) ?_ | refine q_fnc (by rfl) ?_ | refine q_chkP (by rfl) ?_ | refine q_chkF (by rfl) ?_ | refine q_ifaceA (by rfl) ?_ | refine q_asrtY (by rfl) (by rfl) ?_ | refine q_asrtN (by rfl) (by rfl) ?_)) | (refine x_load ?_; try (first | (refine l_ptr (by rfl) ?_; try (first | refine ld_box (by rfl) (by rfl) ?_ | refine ld_boxA (by rfl) (by rfl) ?_ | refine ld_box (last_live _ _) (by rfl) ?_ | refine ld_boxA (last_live _ _) (by rfl) ?_)) | (refine l_ipt (by rfl) ?_; try (first | refine ld_wd (by omega) (by omega) ?_ | refine ld_cellsA (Nat.le_of_ble_eq_true (by rfl)) ?_ | refine st_box (by rfl) (by rfl) (by rfl) (by omega) ?_)))) | refine x_store_last (by rfl) (by rfl) (by rfl) (by rfl) (Nat.le_of_ble_eq_true (by rfl)) ?_ | (refine x_store (by rfl) (by rfl) ?_; try (first | refine st_box (by rfl) (by rfl) (by rfl) (Nat.le_of_ble_eq_true (by rfl)) ?_ | refine st_box (by rfl) (by rfl) (by rfl) (by omega) ?_)) | refine x_call (by rfl) (by rfl) ?_ | refine x_box (by rfl) (by rfl) ?_ | refine x_alloc ?_ | refine x_frzSl (by rfl) ?_ | refine x_app ?_ | refine x_slcA ?_)) | (refine o_nil ?_; try (first | refine s_n ?_ | refine s_r ?_ | refine s_e ?_ | refine k_n ?_ | refine k_r ?_ | refine k_e (by rfl) ?_ | refine k_o (by rfl) ?_ | refine l_r ?_ | refine l_e ?_ | refine b_r ?_ | refine b_n ?_)) | refine o_guard (by rfl) ?_ | refine o_guardT (by rfl) ?_ | refine o_none ?_ | refine o_guardN (by rfl) ?_) | (refine g_f ?_; first | refine f_seq ?_ | refine f_reg ?_ | (refine f_cond (by rfl) ?_; try (first | refine c_t (by rfl) ?_ | refine c_f (by rfl) ?_)) | refine f_block ?_ | refine f_skip ?_ | refine f_ret ?_ | refine f_exit ?_ | refine f_regD0 ?_ | refine f_regD ?_) | (refine g_s ?_; first | refine s_n ?_ | refine s_r ?_ | refine s_e ?_) | (refine g_d ?_; first | (refine d_some (T := none) (by rfl) (by rfl) ?_; try (first | (refine xd_q (by rfl) ?_; try (first | refine q_mv (by rfl) ?_ | refine q_faddr (by rfl) ?_ | (refine q_len ?_; try (first | refine len_ls (by rfl) (by assumption) ?_ | refine len_wd (by rfl) (by assumption) ?_ | refine len_sl (by rfl) ?_ | refine len_imm (by rfl) ?_ | refine len_nil (by rfl) ?_)) | (refine q_iad ?_; try (first | refine idx_ls (by rfl) (by rfl) (by assumption) (by omega) (by omega) ?_ | refine idx_wd (by rfl) (by rfl) (by assumption) (by omega) (by omega) ?_ | refine idx_ptr (by rfl) (by rfl) (by decide) (by decide) ?_ | refine idx_sl (by rfl) (by rfl) (by decide) (by decide) ?_ | refine idx_imm (by rfl) (by rfl) (by decide) (by decide) ?_ | refine idx_sl (by rfl) (by rfl) (by omega) (by omega) ?_)) | refine q_cm (by rfl) (by rfl) ?_ | refine q_ar (by rfl) (by rfl) (by rfl) ?_ | refine q_conv (by rfl) ?_ | (refine q_eqN ?_; try (first | refine eqn_nil (by rfl) ?_ | refine eqn_imm (by rfl) ?_ | refine eqn_sl (by rfl) ?_)) | refine q_ext (by rfl) (by rfl) ?_ | refine q_build (by rfl) ?_ | refine q_shl (by rfl) (by rfl) (by first | decide | omega) ?_ | refine q_shr (by rfl) (by rfl) (by first | decide | omega) ?_ | refine q_eqB (by rfl) (by rfl) ?_ | refine q_eqA (by rfl) (by rfl) (by rfl) ?_ | refine q_neg (by rfl) ?_ | refine q_not (by rfl) ?_ | refine q_pick_t (by rfl) (by rfl) ?_ | refine q_pick_f (by rfl) (by rfl) ?_ | refine q_slc ?_ | refine q_idx ?_ | refine q_fld (by rfl) (by rfl) ?_ | refine q_fldA (by rfl) (by rfl) ?_ | refine q_faddrI (by rfl) ?_ | refine q_mx (by rfl) (by rfl) ?_ | refine q_mn (by rfl) (by rfl) ?_ | refine q_fnc (by rfl) ?_ | refine q_chkP (by rfl) ?_ | refine q_chkF (by rfl) ?_ | refine q_ifaceA (by rfl) ?_ | refine q_asrtY (by rfl) (by rfl) ?_ | refine q_asrtN (by rfl) (by rfl) ?_)) | (refine xd_load ?_; try (first | (refine l_ptr (by rfl) ?_; try (first | refine ld_box (by rfl) (by rfl) ?_ | refine ld_boxA (by rfl) (by rfl) ?_ | refine ld_box (last_live _ _) (by rfl) ?_ | refine ld_boxA (last_live _ _) (by rfl) ?_)) | (refine l_ipt (by rfl) ?_; try (first | refine ld_wd (by omega) (by omega) ?_ | refine ld_cellsA (Nat.le_of_ble_eq_true (by rfl)) ?_ | refine st_box (by rfl) (by rfl) (by rfl) (by omega) ?_)))) | refine xd_store_last (by rfl) (by rfl) (by rfl) (by rfl) (Nat.le_of_ble_eq_true (by rfl)) ?_ | (refine xd_store (by rfl) (by rfl) ?_; try (first | refine st_box (by rfl) (by rfl) (by rfl) (Nat.le_of_ble_eq_true (by rfl)) ?_ | refine st_box (by rfl) (by rfl) (by rfl) (by omega) ?_)) | refine xd_call (by rfl) (by rfl) ?_ | refine xd_box (by rfl) (by rfl) (by rfl) ?_ | refine xd_alloc (by rfl) ?_ | refine xd_frzSl (by rfl) ?_)) | (refine d_some (by rfl) (by rfl) ?_; try (first | (refine xd_q (by rfl) ?_; try (first | refine q_mv (by rfl) ?_ | refine q_faddr (by rfl) ?_ | (refine q_len ?_; try (first | refine len_ls (by rfl) (by assumption) ?_ | refine len_wd (by rfl) (by assumption) ?_ | refine len_sl (by rfl) ?_ | refine len_imm (by rfl) ?_ | refine len_nil (by rfl) ?_)) | (refine q_iad ?_; try (first | refine idx_ls (by rfl) (by rfl) (by assumption) (by omega) (by omega) ?_ | refine idx_wd (by rfl) (by rfl) (by assumption) (by omega) (by omega) ?_ | refine idx_ptr (by rfl) (by rfl) (by decide) (by decide) ?_ | refine idx_sl (by rfl) (by rfl) (by decide) (by decide) ?_ | refine idx_imm (by rfl) (by rfl) (by decide) (by decide) ?_ | refine idx_sl (by rfl) (by rfl) (by omega) (by omega) ?_)) | refine q_cm (by rfl) (by rfl) ?_ | refine q_ar (by rfl) (by rfl) (by rfl) ?_ | refine q_conv (by rfl) ?_ | (refine q_eqN ?_; try (first | refine eqn_nil (by rfl) ?_ | refine eqn_imm (by rfl) ?_ | refine eqn_sl (by rfl) ?_)) | refine q_ext (by rfl) (by rfl) ?_ | refine q_build (by rfl) ?_ | refine q_shl (by rfl) (by rfl) (by first | decide | omega) ?_ | refine q_shr (by rfl) (by rfl) (by first | decide | omega) ?_ | refine q_eqB (by rfl) (by rfl) ?_ | refine q_eqA (by rfl) (by rfl) (by rfl) ?_ | refine q_neg (by rfl) ?_ | refine q_not (by rfl) ?_ | refine q_pick_t (by rfl) (by rfl) ?_ | refine q_pick_f (by rfl) (by rfl) ?_ | refine q_slc ?_ | refine q_idx ?_ | refine q_fld (by rfl) (by rfl) ?_ | refine q_fldA (by rfl) (by rfl) ?_ | refine q_faddrI (by rfl) ?_ | refine q_mx (by rfl) (by rfl) ?_ | refine q_mn (by rfl) (by rfl) ?_ | refine q_fnc (by rfl) ?_ | refine q_chkP (by rfl) ?_ | refine q_chkF (by rfl) ?_ | refine q_ifaceA (by rfl) ?_ | refine q_asrtY (by rfl) (by rfl) ?_ | refine q_asrtN (by rfl) (by rfl) ?_)) | (refine xd_load ?_; try (first | (refine l_ptr (by rfl) ?_; try (first | refine ld_box (by rfl) (by rfl) ?_ | refine ld_boxA (by rfl) (by rfl) ?_ | refine ld_box (last_live _ _) (by rfl) ?_ | refine ld_boxA (last_live _ _) (by rfl) ?_)) | (refine l_ipt (by rfl) ?_; try (first | refine ld_wd (by omega) (by omega) ?_ | refine ld_cellsA (Nat.le_of_ble_eq_true (by rfl)) ?_ | refine st_box (by rfl) (by rfl) (by rfl) (by omega) ?_)))) | refine xd_store_last (by rfl) (by rfl) (by rfl) (by rfl) (Nat.le_of_ble_eq_true (by rfl)) ?_ | (refine xd_store (by rfl) (by rfl) ?_; try (first | refine st_box (by rfl) (by rfl) (by rfl) (Nat.le_of_ble_eq_true (by rfl)) ?_ | refine st_box (by rfl) (by rfl) (by rfl) (by omega) ?_)) | refine xd_call (by rfl) (by rfl) ?_ | refine xd_box (by rfl) (by rfl) (by rfl) ?_ | refine xd_alloc (by rfl) ?_ | refine xd_frzSl (by rfl) ?_)) | (refine d_nil ?_; try (first | refine s_n ?_ | refine s_r ?_ | refine s_e ?_ | refine k_n ?_ | refine k_r ?_ | refine k_e (by rfl) ?_ | refine k_o (by rfl) ?_ | refine l_r ?_ | refine l_e ?_ | refine b_r ?_ | refine b_n ?_)) | refine d_none (by rfl) (by rfl) ?_ | refine d_guard (by rfl) (by rfl) (by rfl) ?_) | (refine g_x ?_; first | (refine x_q (by rfl) ?_; try (first | refine q_mv (by rfl) ?_ | refine q_faddr (by rfl) ?_ | (refine q_len ?_; try (first | refine len_ls (by rfl) (by assumption) ?_ | refine len_wd (by rfl) (by assumption) ?_ | refine len_sl (by rfl) ?_ | refine len_imm (by rfl) ?_ | refine len_nil (by rfl) ?_)) | (refine q_iad ?_; try (first | refine idx_ls (by rfl) (by rfl) (by assumption) (by omega) (by omega) ?_ | refine idx_wd (by rfl) (by rfl) (by assumption) (by omega) (by omega) ?_ | refine idx_ptr (by rfl) (by rfl) (by decide) (by decide) ?_ | refine idx_sl (by rfl) (by rfl) (by decide) (by decide) ?_ | refine idx_imm (by rfl) (by rfl) (by decide) (by decide) ?_ | refine idx_sl (by rfl) (by rfl) (by omega) (by omega) ?_)) | refine q_cm (by rfl) (by rfl) ?_ | refine q_ar (by rfl) (by rfl) (by rfl) ?_ | refine q_conv (by rfl) ?_ | (refine q_eqN ?_; try (first | refine eqn_nil (by rfl) ?_ | refine eqn_imm (by rfl) ?_ | refine eqn_sl (by rfl) ?_)) | refine q_ext (by rfl) (by rfl) ?_ | refine q_build (by rfl) ?_ | refine q_shl (by rfl) (by rfl) (by first | decide | omega) ?_ | refine q_shr (by rfl) (by rfl) (by first | decide | omega) ?_ | refine q_eqB (by rfl) (by rfl) ?_ | refine q_eqA (by rfl) (by rfl) (by rfl) ?_ | refine q_neg (by rfl) ?_ | refine q_not (by rfl) ?_ | refine q_pick_t (by rfl) (by rfl) ?_ | refine q_pick_f (by rfl) (by rfl) ?_ | refine q_slc ?_ | refine q_idx ?_ | refine q_fld (by rfl) (by rfl) ?_ | refine q_fldA (by rfl) (by rfl) ?_ | refine q_faddrI (by rfl) ?_ | refine q_mx (by rfl) (by rfl) ?_ | refine q_mn (by rfl) (by rfl) ?_ | refine q_fnc (by rfl) ?_ | refine q_chkP (by rfl) ?_ | refine q_chkF (by rfl) ?_ | refine q_ifaceA (by rfl) ?_ | refine q_asrtY (by rfl) (by rfl) ?_ | refine q_asrtN (by rfl) (by rfl) ?_)) | (refine x_load ?_; try (first | (refine l_ptr (by rfl) ?_; try (first | refine ld_box (by rfl) (by rfl) ?_ | refine ld_boxA (by rfl) (by rfl) ?_ | refine ld_box (last_live _ _) (by rfl) ?_ | refine ld_boxA (last_live _ _) (by rfl) ?_)) | (refine l_ipt (by rfl) ?_; try (first | refine ld_wd (by omega) (by omega) ?_ | refine ld_cellsA (Nat.le_of_ble_eq_true (by rfl)) ?_ | refine st_box (by rfl) (by rfl) (by rfl) (by omega) ?_)))) | refine x_store_last (by rfl) (by rfl) (by rfl) (by rfl) (Nat.le_of_ble_eq_true (by rfl)) ?_ | (refine x_store (by rfl) (by rfl) ?_; try (first | refine st_box (by rfl) (by rfl) (by rfl) (Nat.le_of_ble_eq_true (by rfl)) ?_ | refine st_box (by rfl) (by rfl) (by rfl) (by omega) ?_)) | refine x_call (by rfl) (by rfl) ?_ | refine x_box (by rfl) (by rfl) ?_ | refine x_alloc ?_ | refine x_frzSl (by rfl) ?_ | refine x_app ?_ | refine x_slcA ?_) | (refine g_q ?_; first | refine q_mv (by rfl) ?_ | refine q_faddr (by rfl) ?_ | (refine q_len ?_; try (first | refine len_ls (by rfl) (by assumption) ?_ | refine len_wd (by rfl) (by assumption) ?_ | refine len_sl (by rfl) ?_ | refine len_imm (by rfl) ?_ | refine len_nil (by rfl) ?_)) | (refine q_iad ?_; try (first | refine idx_ls (by rfl) (by rfl) (by assumption) (by omega) (by omega) ?_ | refine idx_wd (by rfl) (by rfl) (by assumption) (by omega) (by omega) ?_ | refine idx_ptr (by rfl) (by rfl) (by decide) (by decide) ?_ | refine idx_sl (by rfl) (by rfl) (by decide) (by decide) ?_ | refine idx_imm (by rfl) (by rfl) (by decide) (by decide) ?_ | refine idx_sl (by rfl) (by rfl) (by omega) (by omega) ?_)) | refine q_cm (by rfl) (by rfl) ?_ | refine q_ar (by rfl) (by rfl) (by rfl) ?_ | refine q_conv (by rfl) ?_ | (refine q_eqN ?_; try (first | refine eqn_nil (by rfl) ?_ | refine eqn_imm (by rfl) ?_ | refine eqn_sl (by rfl) ?_)) | refine q_ext (by rfl) (by rfl) ?_ | refine q_build (by rfl) ?_ | refine q_shl (by rfl) (by rfl) (by first | decide | omega) ?_ | refine q_shr (by rfl) (by rfl) (by first | decide | omega) ?_ | refine q_eqB (by rfl) (by rfl) ?_ | refine q_eqA (by rfl) (by rfl) (by rfl) ?_ | refine q_neg (by rfl) ?_ | refine q_not (by rfl) ?_ | refine q_pick_t (by rfl) (by rfl) ?_ | refine q_pick_f (by rfl) (by rfl) ?_ | refine q_slc ?_ | refine q_idx ?_ | refine q_fld (by rfl) (by rfl) ?_ | refine q_fldA (by rfl) (by rfl) ?_ | refine q_faddrI (by rfl) ?_ | refine q_mx (by rfl) (by rfl) ?_ | refine q_mn (by rfl) (by rfl) ?_ | refine q_fnc (by rfl) ?_ | refine q_chkP (by rfl) ?_ | refine q_chkF (by rfl) ?_ | refine q_ifaceA (by rfl) ?_ | refine q_asrtY (by rfl) (by rfl) ?_ | refine q_asrtN (by rfl) (by rfl) ?_) | (refine g_c ?_; first | refine c_t (by rfl) ?_ | refine c_f (by rfl) ?_) | (refine g_k ?_; first | refine k_n ?_ | refine k_r ?_ | refine k_e (by rfl) ?_ | refine k_o (by rfl) ?_) | (refine g_lo ?_; first | refine l_r ?_ | refine l_e ?_) | (refine g_xd ?_; first | (refine xd_q (by rfl) ?_; try (first | refine q_mv (by rfl) ?_ | refine q_faddr (by rfl) ?_ | (refine q_len ?_; try (first | refine len_ls (by rfl) (by assumption) ?_ | refine len_wd (by rfl) (by assumption) ?_ | refine len_sl (by rfl) ?_ | refine len_imm (by rfl) ?_ | refine len_nil (by rfl) ?_)) | (refine q_iad ?_; try (first | refine idx_ls (by rfl) (by rfl) (by assumption) (by omega) (by omega) ?_ | refine idx_wd (by rfl) (by rfl) (by assumption) (by omega) (by omega) ?_ | refine idx_ptr (by rfl) (by rfl) (by decide) (by decide) ?_ | refine idx_sl (by rfl) (by rfl) (by decide) (by decide) ?_ | refine idx_imm (by rfl) (by rfl) (by decide) (by decide) ?_ | refine idx_sl (by rfl) (by rfl) (by omega) (by omega) ?_)) | refine q_cm (by rfl) (by rfl) ?_ | refine q_ar (by rfl) (by rfl) (by rfl) ?_ | refine q_conv (by rfl) ?_ | (refine q_eqN ?_; try (first | refine eqn_nil (by rfl) ?_ | refine eqn_imm (by rfl) ?_ | refine eqn_sl (by rfl) ?_)) | refine q_ext (by rfl) (by rfl) ?_ | refine q_build (by rfl) ?_ | refine q_shl (by rfl) (by rfl) (by first | decide | omega) ?_ | refine q_shr (by rfl) (by rfl) (by first | decide | omega) ?_ | refine q_eqB (by rfl) (by rfl) ?_ | refine q_eqA (by rfl) (by rfl) (by rfl) ?_ | refine q_neg (by rfl) ?_ | refine q_not (by rfl) ?_ | refine q_pick_t (by rfl) (by rfl) ?_ | refine q_pick_f (by rfl) (by rfl) ?_ | refine q_slc ?_ | refine q_idx ?_ | refine q_fld (by rfl) (by rfl) ?_ | refine q_fldA (by rfl) (by rfl) ?_ | refine q_faddrI (by rfl) ?_ | refine q_mx (by rfl) (by rfl) ?_ | refine q_mn (by rfl) (by rfl) ?_ | refine q_fnc (by rfl) ?_ | refine q_chkP (by rfl) ?_ | refine q_chkF (by rfl) ?_ | refine q_ifaceA (by rfl) ?_ | refine q_asrtY (by rfl) (by rfl) ?_ | refine q_asrtN (by rfl) (by rfl) ?_)) | (refine xd_load ?_; try (first | (refine l_ptr (by rfl) ?_; try (first | refine ld_box (by rfl) (by rfl) ?_ | refine ld_boxA (by rfl) (by rfl) ?_ | refine ld_box (last_live _ _) (by rfl) ?_ | refine ld_boxA (last_live _ _) (by rfl) ?_)) | (refine l_ipt (by rfl) ?_; try (first | refine ld_wd (by omega) (by omega) ?_ | refine ld_cellsA (Nat.le_of_ble_eq_true (by rfl)) ?_ | refine st_box (by rfl) (by rfl) (by rfl) (by omega) ?_)))) | refine xd_store_last (by rfl) (by rfl) (by rfl) (by rfl) (Nat.le_of_ble_eq_true (by rfl)) ?_ | (refine xd_store (by rfl) (by rfl) ?_; try (first | refine st_box (by rfl) (by rfl) (by rfl) (Nat.le_of_ble_eq_true (by rfl)) ?_ | refine st_box (by rfl) (by rfl) (by rfl) (by omega) ?_)) | refine xd_call (by rfl) (by rfl) ?_ | refine xd_box (by rfl) (by rfl) (by rfl) ?_ | refine xd_alloc (by rfl) ?_ | refine xd_frzSl (by rfl) ?_) | (refine g_l ?_; first | (refine l_ptr (by rfl) ?_; try (first | refine ld_box (by rfl) (by rfl) ?_ | refine ld_boxA (by rfl) (by rfl) ?_ | refine ld_box (last_live _ _) (by rfl) ?_ | refine ld_boxA (last_live _ _) (by rfl) ?_)) | (refine l_ipt (by rfl) ?_; try (first | refine ld_wd (by omega) (by omega) ?_ | refine ld_cellsA (Nat.le_of_ble_eq_true (by rfl)) ?_ | refine st_box (by rfl) (by rfl) (by rfl) (by omega) ?_))) | (refine g_len ?_; first | refine len_ls (by rfl) (by assumption) ?_ | refine len_wd (by rfl) (by assumption) ?_ | refine len_sl (by rfl) ?_ | refine len_imm (by rfl) ?_ | refine len_nil (by rfl) ?_) | (refine g_nil ?_; first | refine eqn_nil (by rfl) ?_ | refine eqn_imm (by rfl) ?_ | refine eqn_sl (by rfl) ?_) | (refine g_iad ?_; first | refine idx_ls (by rfl) (by rfl) (by assumption) (by omega) (by omega) ?_ | refine idx_wd (by rfl) (by rfl) (by assumption) (by omega) (by omega) ?_ | refine idx_ptr (by rfl) (by rfl) (by decide) (by decide) ?_ | refine idx_sl (by rfl) (by rfl) (by decide) (by decide) ?_ | refine idx_imm (by rfl) (by rfl) (by decide) (by decide) ?_ | refine idx_sl (by rfl) (by rfl) (by omega) (by omega) ?_) | (refine g_box ?_; first | refine ld_box (by rfl) (by rfl) ?_ | refine ld_boxA (by rfl) (by rfl) ?_ | refine ld_box (last_live _ _) (by rfl) ?_ | refine ld_boxA (last_live _ _) (by rfl) ?_) | (refine g_cells ?_; first | refine ld_wd (by omega) (by omega) ?_ | refine ld_cellsA (Nat.le_of_ble_eq_true (by rfl)) ?_) | (refine g_st ?_; first | refine st_box (by rfl) (by rfl) (by rfl) (Nat.le_of_ble_eq_true (by rfl)) ?_) | (refine g_b ?_; first | refine b_r ?_ | refine b_n ?_) | (refine g_r ?_; first | refine r_tmp (by rfl) ?_ | refine r_cell ?_ | refine r_nil ?_))
  exact hgo.out) : A := h ⟨k⟩
def Valid (l : List R2) : Prop := ∀ p ∈ l, IsRat p.1 p.2
def Rises (l : List Rat) : Prop := ∀ i (h : i + 1 < l.length), l[i] < l[i + 1]
theorem take_add {α : Type} {l : List α} {i : Nat} (h : i < l.length) : l.take (i + 1) = l.take i ++ [l[i]] := by
  rw [List.take_succ_eq_append_getElem h]
theorem ne_pair (p q : R2) (X : Bool) : (bif true then !(p.1 == q.1 && (p.2 == q.2 && true)) else X) = !(dec (p = q)) := by
  cases h : dec (p = q)
  · have h' := dec_false.1 h
    cases h1 : p.1 == q.1 && (p.2 == q.2 && true)
    · rfl
    · simp at h1
      exact absurd (Prod.ext h1.1 h1.2) h'
  · have h' := dec_true.1 h
    subst h'
    simp
section
variable {α : Type} {E : El α}
/-- A row of n elements, of which the first ones are there, the others are zero cells z. -/
structure Fill (E : El α) (z : List C) (n : Nat) (cells : List C) (l : List α) : Prop where
  out : ∃ ds, cells = ds ++ (List.replicate (n - l.length) z).flatten ∧ Els E ds l
  le : l.length ≤ n
  z : z.length = E.s
theorem flat_len (z : List C) (n : Nat) : (List.replicate n z).flatten.length = n * z.length := by simp
theorem Fill.zero {z : List C} {n : Nat} (hz : z.length = E.s) : Fill E z n (List.replicate n z).flatten [] := ⟨⟨[], by simp, .nil⟩, by simp, hz⟩
theorem Fill.len {z : List C} {n : Nat} {cells : List C} {l : List α} (h : Fill E z n cells l) : cells.length = n * E.s := by
  obtain ⟨ds, rfl, h1⟩ := h.out
  have := h.le
  rw [List.length_append, h1.len, flat_len, h.z, ← Nat.add_mul]
  congr 1
  omega
theorem Fill.put {z : List C} {n : Nat} {cells cs : List C} {l : List α} {a : α} (h : Fill E z n cells l) (hl : l.length < n) (ha : E.p cs a) : Fill E z n (splice cells (l.length * E.s) cs) (l ++ [a]) := by
  obtain ⟨ds, rfl, h1⟩ := h.out
  refine ⟨⟨ds ++ cs, ?_, h1.snoc ha⟩, by simp; omega, h.z⟩
  have e : n - l.length = (n - (l ++ [a]).length) + 1 := by simp; omega
  have hd := h1.len
  have hcs := E.len ha
  rw [e, List.replicate_succ, List.flatten_cons]
  unfold splice
  rw [← hd, List.take_left, List.drop_append, List.drop_of_length_le (by omega), Nat.add_sub_cancel_left, List.nil_append, hcs, ← h.z, List.drop_left]
theorem Fill.done {z : List C} {n : Nat} {cells : List C} {l : List α} (h : Fill E z n cells l) (hl : l.length = n) : Els E cells l := by
  obtain ⟨ds, rfl, h1⟩ := h.out
  rw [hl, Nat.sub_self]
  simpa using h1
end
theorem map_take' {l : List R2} {i : Nat} (h : i < l.length) : (l.take (i + 1)).map rt = (l.take i).map rt ++ [rt l[i]] := by
  rw [take_add h, List.map_append]
  rfl
theorem Valid.step {l : List R2} {i : Nat} (h : i < l.length) (h1 : Valid (l.take i)) (h2 : IsRat l[i].1 l[i].2) : Valid (l.take (i + 1)) := by
  intro p hp
  rw [take_add h] at hp
  rcases List.mem_append.1 hp with hp | hp
  · exact h1 p hp
  · simp at hp
    subst hp
    exact h2
attribute [local irreducible] compare' semH semC qLen qNil qIad qSlc qIdx ldBox ldCells stBox appX appI slcX awpF awpOpsF awpDF xopF xopDF qval lval seqQ blockQ loopQ bodyF retKF cnd arith IntKind.wrap
theorem num_AllValid {c : C} {l : List R2} (hc : Ls elP c l) (hl : l.length < 1073741824) : semC Tryz.prog n_num_AllValid [.c c] (BoolK (Valid l)) := by
  refine semC_of_awpF ok_num_AllValid rfl (show HFVs [.c c] from ⟨hc.hf, trivial⟩) ?_
  refine go5 ?_
  refine f_loop (fun n vs H => ∃ i : Nat, vs = [.c c, i64 l.length, i64 i] ∧ n = l.length - i ∧ i ≤ l.length ∧ Valid (l.take i)) (by rfl) ⟨0, rfl, rfl, by omega, by intro p hp; simp at hp⟩ ?_
  rintro n vs H ⟨i, rfl, rfl, h1, h2⟩
  refine go5 ?_
  cases hq : compare' Cm.lss (i : Int) (l.length : Int)
  · simp [compare'] at hq
    have ei : i = l.length := by omega
    subst ei
    rw [List.take_length] at h2
    refine go5 ?_
    exact BoolK.fz ⟨fun _ => h2, fun _ => rfl⟩
  · simp [compare'] at hq
    refine go5 ?_
    refine ld_ls hc hq (by omega) rfl (fun cs hcs => ?_)
    obtain rfl := hcs
    refine go5 ?_
    refine semH_of_semC (num_Valid l[i].1 l[i].2) (fun u hu => ?_)
    obtain ⟨z, rfl, hz⟩ := hu
    cases z
    · refine go5 ?_
      exact BoolK.fz ⟨fun h => (by cases h), fun h => absurd (hz.2 (h _ (getL_mem hq))) (by decide)⟩
    · refine go5 ?_
      rw [addI1 i (by omega)]
      exact l_n (by rfl) (by omega) ⟨i + 1, rfl, rfl, by omega, h2.step hq (hz.1 rfl)⟩
theorem ref01_Are {c : C} {l : List R2} (hc : Ls elP c l) (hl : l.length < 1073741824) : semC Tryz.prog n_ref01_Are [.c c] (BoolK (Valid l)) := by
  refine semC_of_awpF ok_ref01_Are rfl (show HFVs [.c c] from ⟨hc.hf, trivial⟩) ?_
  refine go5 ?_
  refine f_loop (fun n vs H => ∃ i : Nat, vs = [.c c, i64 i] ∧ n = l.length - i ∧ i ≤ l.length ∧ Valid (l.take i)) (by rfl) ⟨0, rfl, rfl, by omega, by intro p hp; simp at hp⟩ ?_
  rintro n vs H ⟨i, rfl, rfl, h1, h2⟩
  refine go5 ?_
  cases hq : compare' Cm.lss (i : Int) (l.length : Int)
  · simp [compare'] at hq
    have ei : i = l.length := by omega
    subst ei
    rw [List.take_length] at h2
    refine go5 ?_
    exact BoolK.fz ⟨fun _ => h2, fun _ => rfl⟩
  · simp [compare'] at hq
    refine go5 ?_
    refine ld_ls hc hq (by omega) rfl (fun cs hcs => ?_)
    obtain rfl := hcs
    refine go5 ?_
    refine semH_of_semC (ref01_Is l[i].1 l[i].2) (fun u hu => ?_)
    obtain ⟨z, rfl, hz⟩ := hu
    cases z
    · refine go5 ?_
      exact BoolK.fz ⟨fun h => (by cases h), fun h => absurd (hz.2 (h _ (getL_mem hq))) (by decide)⟩
    · refine go5 ?_
      rw [addI1 i (by omega)]
      exact l_n (by rfl) (by omega) ⟨i + 1, rfl, rfl, by omega, h2.step hq (hz.1 rfl)⟩
theorem ref02_Same {c d : C} {l m : List R2} (hc : Ls elP c l) (hd : Ls elP d m) (hl : l.length < 1073741824) (hm : m.length < 1073741824) : semC Tryz.prog n_ref02_Same [.c c, .c d] (BoolK (l = m)) := by
  refine semC_of_awpF ok_ref02_Same rfl (show HFVs [.c c, .c d] from ⟨hc.hf, hd.hf, trivial⟩) ?_
  refine go5 ?_
  refine f_loop (fun n vs H => ∃ i : Nat, vs = [.c c, .c d, i64 i] ∧ n = l.length - i ∧ i ≤ l.length ∧ i ≤ m.length ∧ l.take i = m.take i) (by rfl) ⟨0, rfl, rfl, by omega, by omega, rfl⟩ ?_
  rintro n vs H ⟨i, rfl, rfl, h1, h1', h2⟩
  refine go5 ?_
  cases hq : compare' Cm.lss (i : Int) (l.length : Int)
  · simp [compare'] at hq
    have ei : i = l.length := by omega
    refine go5 ?_
    cases hr : compare' Cm.eql (l.length : Int) (m.length : Int)
    · simp [compare'] at hr
      exact BoolK.fz ⟨fun h => (by cases h), fun h => absurd (congrArg List.length h) (by omega)⟩
    · simp [compare'] at hr
      refine BoolK.fz ⟨fun _ => ?_, fun _ => rfl⟩
      rwa [List.take_of_length_le (by omega), List.take_of_length_le (by omega)] at h2
  · simp [compare'] at hq
    refine go5 ?_
    cases hq2 : compare' Cm.lss (i : Int) (m.length : Int)
    · simp [compare'] at hq2
      refine go5 ?_
      cases hr : compare' Cm.eql (l.length : Int) (m.length : Int)
      · simp [compare'] at hr
        exact BoolK.fz ⟨fun h => (by cases h), fun h => absurd (congrArg List.length h) (by omega)⟩
      · simp [compare'] at hr
        omega
    · simp [compare'] at hq2
      refine go5 ?_
      refine ld_ls hc hq (by omega) rfl (fun cs hcs => ?_)
      obtain rfl := hcs
      refine go5 ?_
      refine ld_ls hd hq2 (by omega) rfl (fun cs hcs => ?_)
      obtain rfl := hcs
      refine go5 ?_
      rw [ne_pair]
      cases he : dec (l[i] = m[i])
      · refine go5 ?_
        refine BoolK.fz ⟨fun h => (by cases h), fun h => absurd ?_ (dec_false.1 he)⟩
        subst h
        rfl
      · refine go5 ?_
        rw [addI1 i (by omega)]
        refine l_n (by rfl) (by omega) ⟨i + 1, rfl, rfl, by omega, by omega, ?_⟩
        rw [take_add hq, take_add hq2, h2, dec_true.1 he]
theorem num_In {c : C} {l : List R2} (hc : Ls elP c l) (hv : Valid l) (hl : l.length < 1073741824) : semC Tryz.prog n_num_In [.c c] (LsK (elQ 2) (l.map rt)) := by
  refine semC_of_awpF ok_num_In rfl (show HFVs [.c c] from ⟨hc.hf, trivial⟩) ?_
  refine go5 ?_
  refine x_mkSl (by rfl) (by rfl) ⟨by omega, by omega, by omega, by omega⟩ ?_
  refine go5 ?_
  refine f_loop (fun n vs H => ∃ (i : Nat) (cells : List C) (R : Hp), vs = [.c (.sl 0 0 l.length (some l.length) 6), .c c, i64 l.length, i64 i] ∧ H = .live ⟨cells, T_num_Q, .rw⟩ :: R ∧ n = l.length - i ∧ i ≤ l.length ∧ Fill (elQ 2) zeroQ l.length cells ((l.take i).map rt)) (by rfl) ⟨0, _, _, rfl, rfl, rfl, by omega, .zero rfl⟩ ?_
  rintro n vs H ⟨i, cells, R, rfl, rfl, rfl, h1, h2⟩
  refine go5 ?_
  cases hq : compare' Cm.lss (i : Int) (l.length : Int)
  · simp [compare'] at hq
    have ei : i = l.length := by omega
    subst ei
    rw [List.take_length] at h2
    have h3 := h2.done (by simp)
    refine go5 ?_
    have h4 := Ls.imm h3
    rw [List.length_map] at h4
    exact ⟨_, .c (.sl (bx := ⟨cells, T_num_Q, .rw⟩) (by rfl) (by simp) (by simp) (by
      rw [List.drop_zero, List.take_of_length_le (by rw [h2.len]; exact Nat.le_refl _)]
      exact .hf h3.hf)), _, rfl, h4⟩
  · simp [compare'] at hq
    refine go5 ?_
    refine ld_ls hc hq (by omega) rfl (fun cs hcs => ?_)
    obtain rfl := hcs
    refine go5 ?_
    refine semH_of_semC (q_Of (hv _ (getL_mem hq))) (fun u hu => ?_)
    obtain ⟨ds, rfl, hd⟩ := hu
    obtain ⟨_, _, _, _, _, _, rfl⟩ := id hd.six
    have hlen : cells.length = l.length * 6 := h2.len
    have htl : ((l.take i).map rt).length = i := by simp; omega
    refine go5 ?_
    rw [addI1 i (by omega)]
    have h3 := h2.put (by omega) hd
    rw [htl, ← map_take' hq] at h3
    exact l_n (by rfl) (by omega) ⟨i + 1, _, R ++ [_], rfl, rfl, rfl, by omega, by rw [show 0 + ((i : Nat) : Int).toNat * 6 = i * 6 by omega]; exact h3⟩
theorem num_Q_IsZero {k : Nat} {cs : List C} {q : Rat} (hx : IQ k cs q) : semC Tryz.prog n_num_Q_IsZero [.agg cs] (BoolK (q = 0)) := by
  refine semC_of_awpF ok_num_Q_IsZero rfl (show HFVs [.agg cs] from ⟨hx.hf, trivial⟩) ?_
  obtain ⟨a, b, c, d, e, f, rfl, h1, h2⟩ := hx.is.six
  refine go5 ?_
  refine semH_of_semC (num_Z_Sign h1) (fun u hu => ?_)
  obtain rfl := hu
  refine go5 ?_
  refine BoolK.fz ?_
  have : compare' Cm.eql (sgn (rp q).1) 0 = true ↔ sgn (rp q).1 = 0 := by simp [compare']
  rw [this, sgn_zero_iff]
  exact Rat.num_eq_zero
theorem ref01_Q_IsZero {k : Nat} {cs : List C} {q : Rat} (hx : IR k cs q) : semC Tryz.prog n_ref01_Q_IsZero [.agg cs] (BoolK (q = 0)) := by
  refine semC_of_awpF ok_ref01_Q_IsZero rfl (show HFVs [.agg cs] from ⟨hx.hf, trivial⟩) ?_
  obtain ⟨a, b, c, d, x, rfl, h1, h2, e⟩ := hx.is.four
  refine go5 ?_
  refine semH_of_semC (ref01_whole_isNought h1) (fun u hu => ?_)
  obtain ⟨z, rfl, hz⟩ := hu
  refine go5 ?_
  exact BoolK.fz (hz.trans Rat.num_eq_zero)
theorem ref01_List {c : C} {l : List R2} (hc : Ls elP c l) (hv : Valid l) (hl : l.length < 1073741824) : semC Tryz.prog n_ref01_List [.c c] (LsK (elR 2) (l.map rt)) := by
  refine semC_of_awpF ok_ref01_List rfl (show HFVs [.c c] from ⟨hc.hf, trivial⟩) ?_
  refine go5 ?_
  refine f_loop (fun n vs H => ∃ (i : Nat) (o : C), vs = [.c c, .c o, i64 i] ∧ n = l.length - i ∧ i ≤ l.length ∧ Out (elR 2) T_isoclineref01_Q 0 H o ((l.take i).map rt)) (by rfl) ⟨0, _, rfl, rfl, by omega, .nil⟩ ?_
  rintro n vs H ⟨i, o, rfl, rfl, h1, h2⟩
  refine go5 ?_
  cases hq : compare' Cm.lss (i : Int) (l.length : Int)
  · simp [compare'] at hq
    have ei : i = l.length := by omega
    subst ei
    rw [List.take_length] at h2
    refine go5 ?_
    exact h2.done
  · simp [compare'] at hq
    refine go5 ?_
    refine ld_ls hc hq (by omega) rfl (fun cs hcs => ?_)
    obtain rfl := hcs
    refine go5 ?_
    refine semH_of_semC (r_Of (hv _ (getL_mem hq))) (fun u hu => ?_)
    obtain ⟨ds, rfl, hd⟩ := hu
    obtain ⟨_, _, _, _, rfl⟩ := id hd.four
    have htl : ((l.take i).map rt).length = i := by simp; omega
    refine go5 ?_
    refine app_one (F := []) (R := H) rfl h2 (by rfl) (by rfl) rfl rfl hd (by rw [htl]; omega) (fun R' o' h3 => ?_)
    rw [← map_take' hq] at h3
    refine go5 ?_
    rw [addI1 i (by omega)]
    exact l_n (by rfl) (by omega) ⟨i + 1, o', rfl, rfl, by omega, h3⟩
theorem rises_take {l : List Rat} {i : Nat} (h : i < l.length) (h1 : ∀ j (h : j + 1 < l.length), j + 1 < i → l[j] < l[j + 1]) (h2 : ∀ (h0 : 0 < i), l[i - 1]'(by omega) < l[i]) : ∀ j (h : j + 1 < l.length), j + 1 < i + 1 → l[j] < l[j + 1] := by
  intro j hj hlt
  rcases Nat.lt_or_ge (j + 1) i with h3 | h3
  · exact h1 j hj h3
  · have e : j + 1 = i := by omega
    subst e
    exact h2 (by omega)
theorem ref24_rises {c : C} {l : List R2} (hc : Ls elP c l) (hv : Valid l) (hl : l.length < 1073741824) : semC Tryz.prog n_ref24_rises [.c c] (BoolK (Rises (l.map rt))) := by
  refine semC_of_awpF ok_ref24_rises rfl (show HFVs [.c c] from ⟨hc.hf, trivial⟩) ?_
  refine go5 ?_
  refine f_loop (fun n vs H => ∃ i : Nat, vs = [.c c, i64 i] ∧ n = l.length + 1 - i ∧ 1 ≤ i ∧ i ≤ l.length + 1 ∧ ∀ j (h : j + 1 < (l.map rt).length), j + 1 < i → (l.map rt)[j] < (l.map rt)[j + 1]) (by rfl) ⟨1, rfl, rfl, by omega, by omega, fun j _ h => by omega⟩ ?_
  rintro n vs H ⟨i, rfl, rfl, h1, h2, h3⟩
  refine go5 ?_
  cases hq : compare' Cm.lss (i : Int) (l.length : Int)
  · simp [compare'] at hq
    refine go5 ?_
    exact BoolK.fz ⟨fun _ j hj => h3 j hj (by simp at hj; omega), fun _ => rfl⟩
  · simp [compare'] at hq
    refine go5 ?_
    rw [show arith .sub .i64 (i : Int) 1 = ((i - 1 : Nat) : Int) by rw [ar_sub, wrap_i64 (by omega) (by omega)]; omega]
    refine go5 ?_
    have hq1 : i - 1 < l.length := by omega
    refine ld_ls hc hq1 (by omega) rfl (fun cs hcs => ?_)
    obtain rfl := hcs
    refine go5 ?_
    refine ld_ls hc hq (by omega) rfl (fun cs hcs => ?_)
    obtain rfl := hcs
    refine go5 ?_
    refine call_C (r_Of (hv _ (getL_mem hq1))) (fun u hu => ?_)
    obtain ⟨ds, rfl, hd⟩ := hu
    refine go5 ?_
    refine call_C (r_Of (hv _ (getL_mem hq))) (fun u hu => ?_)
    obtain ⟨es, rfl, he⟩ := hu
    refine go5 ?_
    refine call_C (r_Cmp hd he (by decide)) (fun u hu => ?_)
    obtain rfl := hu
    refine go5 ?_
    rw [cq_geq]
    cases hg : dec (rt l[i] ≤ rt l[i - 1])
    · refine go5 ?_
      rw [addI1 i (by omega)]
      refine l_n (by rfl) (by omega) ⟨i + 1, rfl, rfl, by omega, by omega, ?_⟩
      refine rises_take (by simpa using hq) h3 (fun h0 => ?_)
      have := dec_false.1 hg
      simp only [List.getElem_map]
      exact Rat.not_le.1 this
    · refine go5 ?_
      refine BoolK.fz ⟨fun h => (by cases h), fun h => ?_⟩
      have h5 := h (i - 1) (by simp; omega)
      simp only [List.getElem_map, show i - 1 + 1 = i by omega] at h5
      exact absurd (dec_true.1 hg) (Rat.not_le.2 h5)
end Go.Proofs.YtjncgcnofiaiaaaGreat

set_option linter.unusedVariables false
set_option linter.unusedSimpArgs false
namespace Go.Proofs.YtjncgcnofiaiaaaGreat
open Go.RowKit
set_option maxRecDepth 20000
theorem slcX_ok {e : Env} {H : Hp} {len es b off : Nat} {x : Option V} {lo hi : Option AO} {bx : Box} {l h : Int} {K : V → Prop} (hx : x = some (.c (.ptr b off))) (hb : H[b]? = some (.live bx)) (h1 : bnd e 0 lo = some l) (h2 : bnd e len hi = some h) (c1 : 0 ≤ l) (c2 : l ≤ h) (c3 : h ≤ len) (c4 : off + len * es ≤ bx.cells.length)
    (k : K (.c (.sl b (off + l.toNat * es) (h.toNat - l.toNat) (some (len - l.toNat)) es))) : slcX e H len es x lo hi K := by
  subst hx
  simp only [slcX, hb, h1, h2]
  exact chk_intro (by simp [c1, c2, c3, Nat.ble_eq_true_of_le c4]) k
theorem appI_one {H : Hp} {b off n cap es j : Nat} {co : Option Nat} {s x : Option V} {cells cs : List C} {el el' : TypeId} {kd : BK} {K : V → Hp → Prop} (hs : s = some (.c (.sl b off n (some cap) es))) (hx : x = some (.c (.sl j 0 1 co es))) (hb : H[b]? = some (.live ⟨cells, el, .rw⟩)) (hj : H[j]? = some (.live ⟨cs, el', kd⟩)) (hc : cs.length = es) (h1 : n + 1 ≤ cap) (h2 : off + n * es + es ≤ cells.length)
    (k : K (.c (.sl b off (n + 1) (some cap) es)) (H.set b (.live ⟨splice cells (off + n * es) cs, el, .rw⟩))) : appI H es s x K := by
  subst hs hx hc
  have hxs : slCells H cs.length (.sl j 0 1 co cs.length) = some cs := by
    simp only [slCells, hj, List.drop_zero, Nat.one_mul, List.take_length]
  simp only [appI, hxs, slLen, hb]
  exact chk_intro (by simp [Nat.ble_eq_true_of_le h1]; omega) k
section
variable {α : Type} {E : El α}
theorem Out.le {el : TypeId} {m m' : Nat} {H : Hp} {c : C} {l : List α} (h : Out E el m H c l) (hm : m' ≤ m) : Out E el m' H c l := by
  cases h with
  | nil => exact .nil
  | sl h1 hb hn hc h => exact .sl (by omega) hb hn hc h
/-- A part of a box is appended to nothing. -/
theorem app_none {H : Hp} {el : TypeId} {es bytes b m : Nat} {co : Option Nat} {s x : Option V} {cells : List C} {el' : TypeId} {kd : BK} {L : List α} {K : V → Hp → Prop} (hs : s = some (.c .nilSl)) (hx : x = some (.c (.sl b 0 m co es))) (hb : H[b]? = some (.live ⟨cells, el', kd⟩)) (he : E.s = es) (hE : Els E cells L) (hm : m ≤ L.length) (hz : m * bytes ≤ 140737488355328 ∧ m ≤ 140737488355328)
    (k : ∀ H' c', Out E el 0 H' c' (L.take m) → K (.c c') H') : appX H el es bytes s x K := by
  subst hs hx he
  have ht := hE.take m
  have hl := ht.len
  have hml : (L.take m).length = m := by simp; omega
  rw [hml] at hl
  have hxs : slCells H E.s (.sl b 0 m co E.s) = some (cells.take (m * E.s)) := by
    simp only [slCells, hb, List.drop_zero]
  simp only [appX, hxs, slLen]
  refine chk_intro (by rw [hl]; simp) ?_
  rcases Nat.eq_zero_or_pos m with h0 | h0
  · subst h0
    exact cnd_true rfl (k _ _ (by simpa using Out.nil))
  · refine cnd_false (by cases m; omega; rfl) (chk_intro (by simp only [Bool.and_eq_true, dec_true]; exact hz) (k _ _ ?_))
    exact .sl (cells := cells.take (m * E.s)) (by omega) (last_live _ _) hml.symm (by rw [hml, List.take_take, Nat.min_self]) ht
end
def delayL (size : Nat) (first : R2) (l : List R2) : List R2 := (List.replicate size first ++ l).take l.length
noncomputable def delayR (size : Int) (first : R2) (l : List R2) : List R2 × Int :=
  bif dec (size < 0 ∨ 64 < size) then ([], 1) else bif dec (64 < l.length) then ([], 3) else bif dec (IsRat first.1 first.2 ∧ Valid l) then (delayL size.toNat first l, 0) else ([], 1)
def DelK (size : Int) (first : R2) (l : List R2) (u : V) : Prop := ∃ c, u = .tup [.c c, i64 (delayR size first l).2] ∧ Ls elP c (delayR size first l).1
theorem DelK.bad {size : Int} {first : R2} {l : List R2} {H : Hp} {e : Int} (h : delayR size first l = ([], e)) : ∃ d, FzV H (.tup [.c .nilSl, i64 e]) d ∧ DelK size first l d :=
  ⟨_, .tup (.cons (.c (.hf trivial)) (.cons (.c (.hf trivial)) .nil)), .nilSl, by rw [h]; rfl, by rw [h]; exact .nil⟩
theorem DelK.ok {size : Int} {first : R2} {l m : List R2} {H : Hp} {c : C} {el : TypeId} (h : delayR size first l = (m, 0)) (ho : Out elP el 0 H c m) : ∃ d, FzV H (.tup [.c c, i64 0]) d ∧ DelK size first l d := by
  obtain ⟨d, h1, h2⟩ := ho.fz (p := (· ≠ .bor)) (by simp)
  exact ⟨_, .tup (.cons (.c h1) (.cons (.c (.hf trivial)) .nil)), d, by rw [h]; rfl, by rw [h]; exact h2⟩
theorem del_size {size : Int} {first : R2} {l : List R2} (h : size < 0 ∨ 64 < size) : delayR size first l = ([], 1) := by
  unfold delayR
  rw [dec_true.2 h]
  rfl
theorem del_long {size : Int} {first : R2} {l : List R2} (h : ¬ (size < 0 ∨ 64 < size)) (h2 : 64 < l.length) : delayR size first l = ([], 3) := by
  unfold delayR
  rw [dec_false.2 h, dec_true.2 h2]
  rfl
theorem del_bad {size : Int} {first : R2} {l : List R2} (h : ¬ (size < 0 ∨ 64 < size)) (h2 : ¬ 64 < l.length) (h3 : ¬ (IsRat first.1 first.2 ∧ Valid l)) : delayR size first l = ([], 1) := by
  unfold delayR
  rw [dec_false.2 h, dec_false.2 h2, dec_false.2 h3]
  rfl
theorem del_ok {size : Int} {first : R2} {l : List R2} (h : ¬ (size < 0 ∨ 64 < size)) (h2 : ¬ 64 < l.length) (h3 : IsRat first.1 first.2 ∧ Valid l) : delayR size first l = (delayL size.toNat first l, 0) := by
  unfold delayR
  rw [dec_false.2 h, dec_false.2 h2, dec_true.2 h3]
  rfl
theorem delay_next {size i : Nat} {first : R2} {l : List R2} (hi : i < l.length) : (delayL size first l).take (i + 1) = (delayL size first l).take i ++ [if h : i < size then first else l[i - size]'(by omega)] := by
  have hlen : (delayL size first l).length = l.length := by unfold delayL; simp
  rw [take_add (by omega)]
  congr 2
  unfold delayL
  rw [List.getElem_take]
  by_cases h : i < size
  · rw [dif_pos h, List.getElem_append_left (by simpa using h), List.getElem_replicate]
  · rw [dif_neg h, List.getElem_append_right (by simp; omega)]
    congr 1
    simp
attribute [local irreducible] compare' semH semC qLen qNil qIad qSlc qIdx ldBox ldCells stBox appX appI slcX awpF awpOpsF awpDF xopF xopDF qval lval seqQ blockQ loopQ bodyF retKF cnd arith IntKind.wrap
theorem ref24_Delay (size : Int) (first : R2) {c : C} {l : List R2} (hc : Ls elP c l) : semC Tryz.prog n_ref24_Delay [i64 size, .agg (ratC first), .c c] (DelK size first l) := by
  refine semC_of_awpF ok_ref24_Delay rfl (show HFVs [i64 size, .agg (ratC first), .c c] from ⟨trivial, HFL_rat _, hc.hf, trivial⟩) ?_
  refine go5 ?_
  cases h1 : compare' Cm.lss size 0
  case true =>
    simp [compare'] at h1
    refine go5 ?_
    exact DelK.bad (del_size (.inl h1))
  simp [compare'] at h1
  refine go5 ?_
  cases h2 : compare' Cm.gtr size 64
  case true =>
    simp [compare'] at h2
    refine go5 ?_
    exact DelK.bad (del_size (.inr h2))
  simp [compare'] at h2
  have hs : ¬ (size < 0 ∨ 64 < size) := by omega
  refine go5 ?_
  cases h3 : compare' Cm.gtr (l.length : Int) 64
  case true =>
    simp [compare'] at h3
    refine go5 ?_
    exact DelK.bad (del_long hs (by omega))
  simp [compare'] at h3
  have hl : l.length < 1073741824 := by omega
  refine go5 ?_
  refine semH_of_semC (ref01_Is first.1 first.2) (fun u hu => ?_)
  obtain ⟨z1, rfl, h4⟩ := hu
  cases z1
  case false =>
    refine go5 ?_
    exact DelK.bad (del_bad hs (by omega) (fun h => absurd (h4.2 h.1) (by decide)))
  refine go5 ?_
  refine semH_of_semC (ref01_Are hc hl) (fun u hu => ?_)
  obtain ⟨z2, rfl, h5⟩ := hu
  cases z2
  case false =>
    refine go5 ?_
    exact DelK.bad (del_bad hs (by omega) (fun h => absurd (h5.2 h.2) (by decide)))
  have hok := del_ok hs (by omega) ⟨h4.1 rfl, h5.1 rfl⟩
  obtain ⟨sz, rfl⟩ := Int.eq_ofNat_of_zero_le (show 0 ≤ size by omega)
  have hdl : (delayL sz first l).length = l.length := by unfold delayL; simp
  refine go5 ?_
  refine f_loop (fun n vs H => ∃ (i : Nat) (o : C) (R : Hp), vs = [i64 sz, .c c, .c (.ptr 0 0), .c o, i64 i] ∧ H = .live ⟨ratC first, T_api_Rat, .rw⟩ :: R ∧ n = l.length - i ∧ i ≤ l.length ∧ Out elP T_api_Rat 1 H o ((delayL sz first l).take i)) (by rfl) ⟨0, _, _, rfl, rfl, rfl, by omega, .nil⟩ ?_
  rintro n vs H ⟨i, o, R, rfl, rfl, rfl, h6, h7⟩
  refine go5 ?_
  cases hq : compare' Cm.lss (i : Int) (l.length : Int)
  · simp [compare'] at hq
    have ei : i = l.length := by omega
    subst ei
    rw [List.take_of_length_le (by omega)] at h7
    refine go5 ?_
    exact DelK.ok hok (h7.le (by omega))
  · simp [compare'] at hq
    have htl : ((delayL sz first l).take i).length = i := by simp; omega
    refine go5 ?_
    cases hq2 : compare' Cm.lss (i : Int) (sz : Int)
    · simp [compare'] at hq2
      refine go5 ?_
      rw [show arith .sub .i64 (i : Int) (sz : Int) = ((i - sz : Nat) : Int) by rw [ar_sub, wrap_i64 (by omega) (by omega)]; omega]
      refine go5 ?_
      refine ld_ls hc (i := i - sz) (by omega) (by omega) rfl (fun cs hcs => ?_)
      obtain rfl := hcs
      refine go5 ?_
      refine app_one (E := elP) (F := [.live ⟨ratC first, T_api_Rat, .rw⟩]) (R := R) rfl h7 (by rfl) (by rfl) rfl rfl (a := l[i - sz]) rfl (by rw [htl]; omega) (fun R' o' h8 => ?_)
      refine go5 ?_
      rw [addI1 i (by omega)]
      refine l_n (by rfl) (by omega) ⟨i + 1, o', R', rfl, rfl, rfl, by omega, ?_⟩
      rw [delay_next hq, dif_neg (by omega)]
      exact h8
    · simp [compare'] at hq2
      refine go5 ?_
      refine app_one (E := elP) (F := [.live ⟨ratC first, T_api_Rat, .rw⟩]) (R := R) rfl h7 (by rfl) (by rfl) rfl rfl (a := first) rfl (by rw [htl]; omega) (fun R' o' h8 => ?_)
      refine go5 ?_
      rw [addI1 i (by omega)]
      refine l_n (by rfl) (by omega) ⟨i + 1, o', R', rfl, rfl, rfl, by omega, ?_⟩
      rw [delay_next hq, dif_pos (by omega)]
      exact h8
theorem room_start (first : R2) : Els elP (List.replicate 128 (ratC (0, 0))).flatten (List.replicate 128 ((0, 0) : R2)) := Els.rep (E := elP) rfl 128
theorem take_set {α : Type} {m : List α} {i : Nat} {a : α} (h : i < m.length) : (m.set i a).take (i + 1) = m.take i ++ [a] := by
  rw [take_add (by simpa using h), List.take_set_of_le (by omega), List.getElem_set_self]
theorem table_Delay (size : Int) (first : R2) {c : C} {l : List R2} (hc : Ls elP c l) : semC Tryz.prog n_table_Delay [i64 size, .agg (ratC first), .c c] (DelK size first l) := by
  refine semC_of_awpF ok_table_Delay rfl (show HFVs [i64 size, .agg (ratC first), .c c] from ⟨trivial, HFL_rat _, hc.hf, trivial⟩) ?_
  refine go7 ?_
  cases h1 : compare' Cm.lss size 0
  case true =>
    simp [compare'] at h1
    refine go7 ?_
    exact DelK.bad (del_size (.inl h1))
  simp [compare'] at h1
  refine go7 ?_
  cases h2 : compare' Cm.gtr size 64
  case true =>
    simp [compare'] at h2
    refine go7 ?_
    exact DelK.bad (del_size (.inr h2))
  simp [compare'] at h2
  have hs : ¬ (size < 0 ∨ 64 < size) := by omega
  refine go7 ?_
  cases h3 : compare' Cm.gtr (l.length : Int) 64
  case true =>
    simp [compare'] at h3
    refine go7 ?_
    exact DelK.bad (del_long hs (by omega))
  simp [compare'] at h3
  have hl : l.length < 1073741824 := by omega
  refine go7 ?_
  refine semH_of_semC (num_Valid first.1 first.2) (fun u hu => ?_)
  obtain ⟨z1, rfl, h4⟩ := hu
  cases z1
  case false =>
    refine go7 ?_
    exact DelK.bad (del_bad hs (by omega) (fun h => absurd (h4.2 h.1) (by decide)))
  refine go7 ?_
  refine semH_of_semC (num_AllValid hc hl) (fun u hu => ?_)
  obtain ⟨z2, rfl, h5⟩ := hu
  cases z2
  case false =>
    refine go7 ?_
    exact DelK.bad (del_bad hs (by omega) (fun h => absurd (h5.2 h.2) (by decide)))
  have hok := del_ok hs (by omega) ⟨h4.1 rfl, h5.1 rfl⟩
  obtain ⟨sz, rfl⟩ := Int.eq_ofNat_of_zero_le (show 0 ≤ size by omega)
  have hdl : (delayL sz first l).length = l.length := by unfold delayL; simp
  refine go7 ?_
  refine f_loop (fun n vs H => ∃ (i : Nat) (cells : List C) (m : List R2), vs = [i64 sz, .c c, .c (.ptr 0 0), .c (.ptr 1 0), i64 sz, i64 i] ∧ H = [.live ⟨ratC first, T_api_Rat, .rw⟩, .live ⟨cells, 119, .rw⟩] ∧ n = sz - i ∧ i ≤ sz ∧ Els elP cells m ∧ m.length = 128 ∧ m.take i = List.replicate i first) (by rfl) ⟨0, (List.replicate 128 (ratC (0, 0))).flatten, _, rfl, rfl, rfl, by omega, room_start first, by simp, rfl⟩ ?_
  rintro n vs H ⟨i, cells, m, rfl, rfl, rfl, h6, h7, h8, h9⟩
  have hcl : cells.length = 256 := by rw [h7.len, h8]; rfl
  refine go7 ?_
  cases hq : compare' Cm.lss (i : Int) (sz : Int)
  case true =>
    simp [compare'] at hq
    refine go7 ?_
    refine idx_ptr (by rfl) (by rfl) (by omega) (by omega) ?_
    refine go7 ?_
    rw [addI1 i (by omega)]
    have h10 := h7.set (i := i) (cs := ratC first) (a := first) (by omega) rfl
    refine l_n (by rfl) (by omega) ⟨i + 1, _, m.set i first, rfl, rfl, rfl, by omega, ?_, by simpa using h8, ?_⟩
    · rw [show 0 + ((i : Nat) : Int).toNat * 2 = i * 2 by omega]
      exact h10
    · rw [take_set (by omega), h9, List.replicate_succ']
  simp [compare'] at hq
  have ei : i = sz := by omega
  subst ei
  refine go7 ?_
  refine slcX_ok (bx := ⟨cells, 119, .rw⟩) (by rfl) (by rfl) (by rfl) (by rfl) (by omega) (by omega) (by omega) (by rw [hcl]; omega) ?_
  refine go7 ?_
  refine f_loop (fun n vs H => ∃ (k : Nat) (cells : List C) (m : List R2) (R : Hp), vs = [.c c, .c (.ptr 1 0), .c (.sl 1 (0 + (i : Int).toNat * 2) k (some (128 - (i : Int).toNat)) 2), .c c, i64 l.length, i64 k] ∧ H = .live ⟨ratC first, T_api_Rat, .rw⟩ :: .live ⟨cells, 119, .rw⟩ :: R ∧ n = l.length - k ∧ k ≤ l.length ∧ Els elP cells m ∧ m.length = 128 ∧ m.take (i + k) = List.replicate i first ++ l.take k) (by rfl) ⟨0, cells, m, [], ?_, rfl, rfl, by omega, h7, h8, by simpa using h9⟩ ?_
  · simp
    exact ⟨rfl, rfl⟩
  clear h9 h7 h8 hcl
  rintro n vs H ⟨k, cells, m, R, rfl, rfl, rfl, h6, h7, h8, h9⟩
  have hcl : cells.length = 256 := by rw [h7.len, h8]; rfl
  refine go7 ?_
  cases hq : compare' Cm.lss (k : Int) (l.length : Int)
  case true =>
    simp [compare'] at hq
    refine go7 ?_
    refine ld_ls hc (i := k) hq (by omega) rfl (fun cs hcs => ?_)
    obtain rfl := hcs
    refine go7 ?_
    refine x_appI (appI_one (by rfl) (by rfl) (by rfl) (last_live _ _) rfl (by omega) (by rw [hcl]; omega) ?_)
    refine go7 ?_
    rw [addI1 k (by omega)]
    have h10 := h7.set (i := i + k) (cs := ratC l[k]) (a := l[k]) (by omega) rfl
    refine l_n (by rfl) (by omega) ⟨k + 1, _, m.set (i + k) l[k], R ++ [_] ++ [_], rfl, rfl, rfl, by omega, ?_, by simpa using h8, ?_⟩
    · rw [show 0 + ((i : Nat) : Int).toNat * 2 + k * 2 = (i + k) * 2 by omega]
      exact h10
    · rw [← Nat.add_assoc, take_set (by omega), h9, take_add hq, List.append_assoc]
  simp [compare'] at hq
  refine go7 ?_
  refine slcX_ok (bx := ⟨cells, 119, .rw⟩) (by rfl) (by rfl) (by rfl) (by rfl) (by omega) (by omega) (by omega) (by rw [hcl]; omega) ?_
  refine go7 ?_
  refine x_app (app_none (E := elP) (by rfl) (by rfl) (by rfl) rfl h7 (by rw [h8]; omega) (by omega) (fun H' c' ho => ?_))
  refine go7 ?_
  have e : m.take ((l.length : Int).toNat - Int.toNat 0) = delayL i first l := by
    have ek : k = l.length := by omega
    subst ek
    rw [List.take_length] at h9
    unfold delayL
    rw [← h9, List.take_take]
    congr 1
    simp
  rw [e] at ho
  exact DelK.ok hok ho
end Go.Proofs.YtjncgcnofiaiaaaGreat

set_option linter.unusedVariables false
set_option linter.unusedSimpArgs false
namespace Go.Proofs.YtjncgcnofiaiaaaGreat
open Go.RowKit
set_option maxRecDepth 20000
/-- The value of a polynomial, lowest degree first. -/
def ev : List Rat → Rat → Rat
  | [], _ => 0
  | a :: l, x => a + x * ev l x
theorem ev_append : ∀ (l m : List Rat) (x : Rat), ev (l ++ m) x = ev l x + x ^ l.length * ev m x
  | [], m, x => by
    simp only [List.nil_append, List.length_nil, ev, Rat.pow_zero]
    grind
  | a :: l, m, x => by
    simp only [List.cons_append, List.length_cons, ev, ev_append l m x, Rat.pow_succ]
    grind
theorem ev_one (a x : Rat) : ev [a] x = a := by
  simp only [ev]
  grind
theorem ev_zeros : ∀ (n : Nat) (x : Rat), ev (List.replicate n 0) x = 0
  | 0, x => rfl
  | n + 1, x => by
    rw [List.replicate_succ]
    simp only [ev, ev_zeros n x]
    grind
theorem ev_take {l : List Rat} {i : Nat} (h : i < l.length) (x : Rat) : ev (l.take (i + 1)) x = ev (l.take i) x + x ^ i * l[i] := by
  rw [take_add h, ev_append, ev_one, List.length_take, Nat.min_eq_left (by omega)]
theorem ev_drop {l : List Rat} {i : Nat} (h : i < l.length) (x : Rat) : ev (l.drop i) x = l[i] + x * ev (l.drop (i + 1)) x := by
  rw [List.drop_eq_getElem_cons h]
  rfl
theorem ev_set : ∀ {l : List Rat} {i : Nat} (h : i < l.length) (b x : Rat), ev (l.set i b) x = ev l x + x ^ i * (b - l[i])
  | a :: l, 0, h, b, x => by
    simp only [List.set_cons_zero, ev, List.getElem_cons_zero, Rat.pow_zero]
    grind
  | a :: l, i + 1, h, b, x => by
    have h' : i < l.length := Nat.lt_of_succ_lt_succ h
    simp only [List.set_cons_succ, ev, List.getElem_cons_succ, ev_set h' b x, Rat.pow_succ]
    grind
/-- The last coefficient is not 0. -/
def Top (l : List Rat) : Prop := ∀ h : 0 < l.length, l[l.length - 1] ≠ 0
/-- What is left of a polynomial without noughts at the end. -/
structure Cut (l m : List Rat) : Prop where
  ev : ∀ x, ev m x = ev l x
  len : m.length ≤ l.length
  top : Top m
def PolyK (E : El Rat) (R : List Rat → Prop) (u : V) : Prop := ∃ c m, u = .c c ∧ Ls E c m ∧ R m
theorem PolyK.fz {E : El Rat} {R : List Rat → Prop} {m : List Rat} {c : C} {H : Hp} (h : Ls E c m) (r : R m) : ∃ d, FzV H (.c c) d ∧ PolyK E R d := ⟨_, .c (.hf h.hf), c, m, rfl, h, r⟩
theorem PolyK.fzo {E : El Rat} {R : List Rat → Prop} {m : List Rat} {c : C} {H : Hp} {el : TypeId} {j : Nat} (h : Out E el j H c m) (r : R m) : ∃ d, FzV H (.c c) d ∧ PolyK E R d := by
  obtain ⟨d, h1, h2⟩ := h.fz (p := (· ≠ .bor)) (by simp)
  exact ⟨_, .c h1, d, m, rfl, h2, r⟩
theorem Sz.mulT {k m : Nat} {a b : Int} (h1 : Sz k a) (h2 : Sz m b) : Sz (k + m) (a * b) := by
  unfold Sz at *
  rw [Int.natAbs_mul, Nat.pow_add]
  exact Nat.mul_lt_mul'' h1 h2
theorem Sz.add2 {k m : Nat} {a b : Int} (h1 : Sz k a) (h2 : Sz k b) (hm : k + 1 ≤ m) : Sz m (a + b) := (h1.add h2).up hm
attribute [local irreducible] compare' semH semC qLen qNil qIad qSlc qIdx ldBox ldCells stBox appX appI slcX awpF awpOpsF awpDF xopF xopDF qval lval seqQ blockQ loopQ bodyF retKF cnd arith IntKind.wrap
theorem q_Add2 {k m : Nat} {cs ds : List C} {a b : Rat} (hx : IQ k cs a) (hy : IQ m ds b) (hk : k + m + 1 ≤ 134217728) : semC Tryz.prog n_num_Q_Add [.agg cs, .agg ds] (QV (k + m + 1) (a + b)) := by
  have s1 : Sz (k + m + 1) _ := (hx.bd.n.mulT hy.bd.d).add2 ((hy.bd.n.mulT hx.bd.d).up (show m + k ≤ k + m by omega)) (Nat.le_refl _)
  have s2 : Sz (k + m + 1) _ := (hx.bd.d.mulT hy.bd.d).up (by omega)
  have hx' := hx.up (show k ≤ k + m by omega)
  have hy' := hy.up (show m ≤ k + m by omega)
  exact semC_mono (fun u hu => hu.rat (dd_ne a b) (rat_add a b) s1 s2) (num_Q_Add (Sz.cl (by omega)) (quoOk (by omega)) hx.is hy.is hx'.bd hy'.bd (by omega) s1 s2)
theorem q_Sub2 {k m : Nat} {cs ds : List C} {a b : Rat} (hx : IQ k cs a) (hy : IQ m ds b) (hk : k + m + 1 ≤ 134217728) : semC Tryz.prog n_num_Q_Sub [.agg cs, .agg ds] (QV (k + m + 1) (a - b)) := by
  have s1 : Sz (k + m + 1) _ := (hx.bd.n.mulT hy.bd.d).add2 ((hy.bd.n.neg.mulT hx.bd.d).up (show m + k ≤ k + m by omega)) (Nat.le_refl _)
  have s2 : Sz (k + m + 1) _ := (hx.bd.d.mulT hy.bd.d).up (by omega)
  have hx' := hx.up (show k ≤ k + m by omega)
  have hy' := hy.up (show m ≤ k + m by omega)
  exact semC_mono (fun u hu => hu.rat (dd_ne a b) (rat_sub a b) s1 s2) (num_Q_Sub (Sz.cl (by omega)) (quoOk (by omega)) hx.is hy.is hx'.bd hy'.bd (by omega) s1 s2)
theorem q_Mul2 {k m : Nat} {cs ds : List C} {a b : Rat} (hx : IQ k cs a) (hy : IQ m ds b) (hk : k + m ≤ 134217728) : semC Tryz.prog n_num_Q_Mul [.agg cs, .agg ds] (QV (k + m) (a * b)) := by
  have hx' := hx.up (show k ≤ k + m by omega)
  have hy' := hy.up (show m ≤ k + m by omega)
  exact semC_mono (fun u hu => hu.rat (dd_ne a b) (rat_mul a b) (hx.bd.n.mulT hy.bd.n) (hx.bd.d.mulT hy.bd.d)) (num_Q_Mul (Sz.cl (show k + m ≤ 268435456 by omega)) (quoOk (by omega)) hx.is hy.is hx'.bd hy'.bd (by omega) (hx.bd.n.mulT hy.bd.n) (hx.bd.d.mulT hy.bd.d))
theorem q_Div2 {k m : Nat} {cs ds : List C} {a b : Rat} (hx : IQ k cs a) (hy : IQ m ds b) (hk : k + m ≤ 134217728) (h0 : b ≠ 0) : semC Tryz.prog n_num_Q_Div [.agg cs, .agg ds] (QV (k + m) (a / b)) := by
  have s1 := hx.bd.n.mulT hy.bd.d
  have s2 := hx.bd.d.mulT hy.bd.n
  have hx' := hx.up (show k ≤ k + m by omega)
  have hy' := hy.up (show m ≤ k + m by omega)
  exact semC_mono (fun u hu => hu.rat (Int.mul_ne_zero (Int.ne_of_gt (rp_pos a)) (num_ne h0)) (rat_div a b h0) s1 s2) (num_Q_Div (Sz.cl (show k + m ≤ 268435456 by omega)) (quoOk (by omega)) hx.is hy.is hx'.bd hy'.bd (by omega) (num_ne h0) s1 s2)
theorem q_Cmp2 {k m : Nat} {cs ds : List C} {a b : Rat} (hx : IQ k cs a) (hy : IQ m ds b) (hk : k + m ≤ 268435456) : semC Tryz.prog n_num_Q_Cmp [.agg cs, .agg ds] (IntK (cq a b)) := q_Cmp (hx.up (show k ≤ k + m by omega)) (hy.up (show m ≤ k + m by omega)) hk
theorem r_Add2 {k m : Nat} {cs ds : List C} {a b : Rat} (hx : IR k cs a) (hy : IR m ds b) (hk : k + m + 1 ≤ 134217728) : semC Tryz.prog n_ref01_Q_Add [.agg cs, .agg ds] (RQV (k + m + 1) (a + b)) := by
  have s1 : Sz (k + m + 1) _ := (hx.bd.n.mulT hy.bd.d).add2 ((hy.bd.n.mulT hx.bd.d).up (show m + k ≤ k + m by omega)) (Nat.le_refl _)
  have s2 : Sz (k + m + 1) _ := (hx.bd.d.mulT hy.bd.d).up (by omega)
  have hx' := hx.up (show k ≤ k + m by omega)
  have hy' := hy.up (show m ≤ k + m by omega)
  exact semC_mono (fun u hu => hu.rat (dd_ne a b) (rat_add a b) s1 s2) (ref01_Q_Add hx.is hy.is hx'.bd hy'.bd (by omega))
theorem r_Sub2 {k m : Nat} {cs ds : List C} {a b : Rat} (hx : IR k cs a) (hy : IR m ds b) (hk : k + m + 1 ≤ 134217728) : semC Tryz.prog n_ref01_Q_Sub [.agg cs, .agg ds] (RQV (k + m + 1) (a - b)) := by
  have s1 : Sz (k + m + 1) _ := (hx.bd.n.mulT hy.bd.d).add2 ((hy.bd.n.neg.mulT hx.bd.d).up (show m + k ≤ k + m by omega)) (Nat.le_refl _)
  have s2 : Sz (k + m + 1) _ := (hx.bd.d.mulT hy.bd.d).up (by omega)
  have hx' := hx.up (show k ≤ k + m by omega)
  have hy' := hy.up (show m ≤ k + m by omega)
  exact semC_mono (fun u hu => hu.rat (dd_ne a b) (rat_sub a b) s1 s2) (ref01_Q_Sub hx.is hy.is hx'.bd hy'.bd (by omega))
theorem r_Mul2 {k m : Nat} {cs ds : List C} {a b : Rat} (hx : IR k cs a) (hy : IR m ds b) (hk : k + m ≤ 134217727) : semC Tryz.prog n_ref01_Q_Mul [.agg cs, .agg ds] (RQV (k + m) (a * b)) := by
  have hx' := hx.up (show k ≤ k + m by omega)
  have hy' := hy.up (show m ≤ k + m by omega)
  exact semC_mono (fun u hu => hu.rat (dd_ne a b) (rat_mul a b) (hx.bd.n.mulT hy.bd.n) (hx.bd.d.mulT hy.bd.d)) (ref01_Q_Mul hx.is hy.is hx'.bd hy'.bd (by omega))
theorem r_Cmp2 {k m : Nat} {cs ds : List C} {a b : Rat} (hx : IR k cs a) (hy : IR m ds b) (hk : k + m ≤ 268435456) : semC Tryz.prog n_ref01_Q_Cmp [.agg cs, .agg ds] (IntK (cq a b)) := r_Cmp (hx.up (show k ≤ k + m by omega)) (hy.up (show m ≤ k + m by omega)) hk
theorem qp_Trim {k : Nat} {c : C} {l : List Rat} (hc : Ls (elQ k) c l) (hl : l.length < 1073741824) : semC Tryz.prog n_qp_Trim [.c c] (PolyK (elQ k) (Cut l)) := by
  refine semC_of_awpF ok_qp_Trim rfl (show HFVs [.c c] from ⟨hc.hf, trivial⟩) ?_
  refine go5 ?_
  refine f_loop (fun n vs H => ∃ (c : C) (m : List Rat), vs = [.c c] ∧ n = m.length ∧ Ls (elQ k) c m ∧ (∀ x, ev m x = ev l x) ∧ m.length ≤ l.length) (by rfl) ⟨c, l, rfl, rfl, hc, fun _ => rfl, Nat.le_refl _⟩ ?_
  clear hc
  rintro n vs H ⟨c, m, rfl, rfl, hc, h1, h2⟩
  refine go5 ?_
  cases hq : compare' Cm.gtr (m.length : Int) 0
  · simp [compare'] at hq
    subst hq
    refine go5 ?_
    exact PolyK.fz hc ⟨h1, h2, fun h => absurd h (by simp)⟩
  · simp [compare'] at hq
    have hq0 : 0 < m.length := hq
    have e1 : arith .sub .i64 (m.length : Int) 1 = ((m.length - 1 : Nat) : Int) := by rw [ar_sub, wrap_i64 (by omega) (by omega)]; omega
    refine go5 ?_
    rw [e1]
    refine go5 ?_
    refine ld_ls hc (i := m.length - 1) (by omega) (by omega) rfl (fun cs hcs => ?_)
    refine go5 ?_
    refine semH_of_semC (num_Q_IsZero hcs) (fun u hu => ?_)
    obtain ⟨z, rfl, hz⟩ := hu
    cases z
    · refine go5 ?_
      exact PolyK.fz hc ⟨h1, h2, fun h e => absurd (hz.2 e) (by decide)⟩
    · have hz := hz.1 rfl
      refine go5 ?_
      rw [e1]
      refine go5 ?_
      refine slc_ls (l := m) (b := ((m.length - 1 : Nat) : Int)) (by rfl) hc rfl (by rfl) (by rfl) (by omega) (by omega) (by omega) (fun c' hc' => ?_)
      refine go5 ?_
      have e2 : (m.drop (0 : Int).toNat).take (((m.length - 1 : Nat) : Int).toNat - (0 : Int).toNat) = m.take (m.length - 1) := by simp
      rw [e2] at hc'
      refine l_n (by rfl) (n' := m.length - 1) (by omega) ⟨c', m.take (m.length - 1), rfl, by simp, hc', fun x => ?_, by simp; omega⟩
      have h3 := ev_take (l := m) (i := m.length - 1) (by omega) x
      rw [hz, show m.length - 1 + 1 = m.length by omega, List.take_length] at h3
      rw [← h1 x, h3]
      grind
theorem qp_Const {k : Nat} {cs : List C} {q : Rat} (hx : IQ k cs q) : semC Tryz.prog n_qp_Const [.agg cs] (PolyK (elQ k) (Cut [q])) := by
  refine semC_of_awpF ok_qp_Const rfl (show HFVs [.agg cs] from ⟨hx.hf, trivial⟩) ?_
  obtain ⟨a, b, c, d, e, f, rfl⟩ := id hx.six
  refine go5 ?_
  simp only [spanC, zeroC, ratC, zeroE, zeroS, List.set_cons_zero, List.set_cons_succ, List.nil_append, List.cons_append, List.append_nil, List.replicate_succ, List.replicate_zero, List.length_cons, List.length_nil, splice, List.take_succ_cons, List.take_zero, List.drop_succ_cons, List.drop_zero, List.take_nil, List.drop_nil, Nat.zero_add, Nat.reduceAdd, Nat.reduceMul, Int.reduceToNat, closeB, List.getElem?_cons_succ, List.getElem?_cons_zero]
  have h1 : Els (elQ k) [a, b, c, d, e, f] [q] := .one hx
  refine semH_of_semC_close [1] (.cons (.c (fz_sl (ds := [a, b, c, d, e, f]) (by rfl) (by rfl) (by simp) (by rfl) hx.hf)) .nil) (qp_Trim (.imm h1) (by simp)) (fun u hu => ?_)
  obtain ⟨c', m, rfl, h2, h3⟩ := hu
  refine go5 ?_
  exact PolyK.fz h2 h3
/-- The size of a value behind n rounds: m of the number, k of the coefficients. -/
def evK (k m n : Nat) : Nat := n * (k + m + 1) + 1
theorem evK_mono {k m i n : Nat} (h : i ≤ n) : evK k m i ≤ evK k m n := by
  unfold evK
  have := Nat.mul_le_mul_right (k + m + 1) h
  omega
theorem evK_succ (k m n : Nat) : evK k m (n + 1) = evK k m n + (k + m + 1) := by
  unfold evK
  rw [Nat.succ_mul]
  omega
theorem qp_Eval {k m : Nat} {c : C} {cs : List C} {l : List Rat} {x : Rat} (hc : Ls (elQ k) c l) (hx : IQ m cs x) (hl : l.length < 1073741824) (hk : evK k m l.length ≤ 134217728) : semC Tryz.prog n_qp_P_Eval [.c c, .agg cs] (QV (evK k m l.length) (ev l x)) := by
  refine semC_of_awpF ok_qp_P_Eval rfl (show HFVs [.c c, .agg cs] from ⟨hc.hf, hx.hf, trivial⟩) ?_
  obtain ⟨a, b, c1, d, e, f, rfl⟩ := id hx.six
  refine go5 ?_
  refine semH_of_semC (q_Int (g := 0) (by decide)) (fun u hu => ?_)
  obtain ⟨es, rfl, h1⟩ := hu
  obtain ⟨_, _, _, _, _, _, rfl⟩ := id h1.six
  refine go5 ?_
  rw [show arith .sub .i64 (l.length : Int) 1 = (l.length : Int) - 1 by rw [ar_sub, wrap_i64 (by omega) (by omega)]]
  refine go5 ?_
  simp only [spanC, zeroC, ratC, zeroE, zeroS, List.set_cons_zero, List.set_cons_succ, List.nil_append, List.cons_append, List.append_nil, List.replicate_succ, List.replicate_zero, List.length_cons, List.length_nil, splice, List.take_succ_cons, List.take_zero, List.drop_succ_cons, List.drop_zero, List.take_nil, List.drop_nil, Nat.zero_add, Nat.reduceAdd, Nat.reduceMul, Int.reduceToNat, closeB, List.getElem?_cons_succ, List.getElem?_cons_zero]
  refine f_loop (fun n vs H => ∃ (i : Nat) (es : List C) (y : Rat), vs = [.c c, .c (.ptr 0 0), .c (.ptr 1 0), .c (.ptr 2 0), i64 ((i : Int) - 1)] ∧ H = [.live ⟨[a, b, c1, d, e, f], T_num_Q, .rw⟩, .live ⟨zeroQ, T_num_Q, .rw⟩, .live ⟨es, T_num_Q, .rw⟩] ∧ n = i ∧ i ≤ l.length ∧ IQ (evK k m (l.length - i)) es y ∧ y = ev (l.drop i) x) (by rfl) ⟨l.length, _, 0, rfl, rfl, rfl, Nat.le_refl _, h1.up (by unfold evK; omega), by rw [List.drop_length]; rfl⟩ ?_
  clear h1
  rintro n vs H ⟨i, es, y, rfl, rfl, rfl, h2, h3, h4⟩
  obtain ⟨_, _, _, _, _, _, rfl⟩ := id h3.six
  refine go5 ?_
  cases hq : compare' Cm.geq ((n : Int) - 1) 0
  · simp [compare'] at hq
    have ei : n = 0 := by omega
    subst ei
    subst h4
    refine go5 ?_
    exact QV.fz h3
  · simp [compare'] at hq
    obtain ⟨j, rfl⟩ : ∃ j, n = j + 1 := ⟨n - 1, by omega⟩
    have hj : j < l.length := by omega
    have ek : l.length - j = (l.length - (j + 1)) + 1 := by omega
    have hle : evK k m (l.length - j) ≤ 134217728 := Nat.le_trans (evK_mono (by omega)) hk
    rw [ek, evK_succ] at hle
    rw [show (((j + 1 : Nat) : Int) - 1) = (j : Int) by omega]
    refine go5 ?_
    refine ld_ls hc (i := j) hj (by omega) rfl (fun ds hds => ?_)
    refine go5 ?_
    refine call_C (q_Mul2 h3 hx (by omega)) (fun u hu => ?_)
    obtain ⟨fs, rfl, h5⟩ := hu
    refine go5 ?_
    refine call_C (q_Add2 h5 hds (by omega)) (fun u hu => ?_)
    obtain ⟨gs, rfl, h6⟩ := hu
    obtain ⟨_, _, _, _, _, _, rfl⟩ := id h6.six
    refine go5 ?_
    rw [show arith .sub .i64 (j : Int) 1 = (j : Int) - 1 by rw [ar_sub, wrap_i64 (by omega) (by omega)]]
    refine l_n (by rfl) (n' := j) (by omega) ⟨j, _, _, rfl, rfl, rfl, by omega, h6.up (by rw [ek, evK_succ]; omega), ?_⟩
    rw [ev_drop hj, h4]
    grind
end Go.Proofs.YtjncgcnofiaiaaaGreat

set_option linter.unusedVariables false
set_option linter.unusedSimpArgs false
namespace Go.Proofs.YtjncgcnofiaiaaaGreat
open Go.RowKit
set_option maxRecDepth 20000
section
variable {α : Type} {E : El α}
theorem ld_boxE {s : Option Slot} {size off j : Nat} {bx : Box} {L : List α} {K : V → Prop} (hb : s = some (.live bx)) (h : Els E bx.cells L) (hj : j < L.length) (hoff : off = j * E.s) (he : E.s = size) (k : ∀ cs, E.p cs L[j] → K (.agg cs)) : ldBox s true size off K := by
  subst hoff he
  obtain ⟨cs, r, h1, h2⟩ := h.get hj
  have hl := E.len h1
  have hlen := congrArg List.length h2
  rw [List.length_drop, List.length_append, hl] at hlen
  have h5 := h.len
  have h6 : j * E.s + E.s ≤ L.length * E.s := by
    rw [← Nat.succ_mul]
    exact Nat.mul_le_mul_right _ hj
  refine ld_boxA hb (Nat.ble_eq_true_of_le (by omega)) ?_
  rw [h2, List.take_left' hl]
  exact k cs h1
end
theorem get_splice {cells cs : List C} {off n : Nat} (h : off ≤ cells.length) (hn : cs.length = n) : ((splice cells off cs).drop off).take n = cs := by
  subst hn
  unfold splice
  rw [List.append_assoc, List.drop_append, List.drop_of_length_le (by simp; omega), List.nil_append, List.length_take, Nat.min_eq_left h, Nat.sub_self, List.drop_zero, List.take_left]
theorem splice_twice {cells cs ds : List C} {off : Nat} (h : off ≤ cells.length) (hl : cs.length = ds.length) : splice (splice cells off cs) off ds = splice cells off ds := by
  unfold splice
  have e1 : (cells.take off ++ cs ++ cells.drop (off + cs.length)).take off = cells.take off := by
    rw [List.append_assoc, List.take_left' (by simp; omega)]
  have e2 : (cells.take off ++ cs ++ cells.drop (off + cs.length)).drop (off + ds.length) = cells.drop (off + ds.length) := by
    rw [← hl]
    have : (cells.take off ++ cs).length = off + cs.length := by simp; omega
    rw [List.drop_left' this]
  rw [e1, e2]
theorem splice_len {cells cs : List C} {off : Nat} (h : off + cs.length ≤ cells.length) : (splice cells off cs).length = cells.length := by
  unfold splice
  simp
  omega
def sumC (p q : List Rat) (j : Nat) : Rat := p.getD j 0 + q.getD j 0
theorem range_map_succ {α : Type} (f : Nat → α) (i : Nat) : (List.range (i + 1)).map f = (List.range i).map f ++ [f i] := by
  rw [List.range_succ, List.map_append]
  rfl
theorem ev_range_add (f g : Nat → Rat) (x : Rat) : ∀ n, ev ((List.range n).map fun j => f j + g j) x = ev ((List.range n).map f) x + ev ((List.range n).map g) x
  | 0 => by simp only [List.range_zero, List.map_nil, ev]; grind
  | n + 1 => by
    rw [range_map_succ, range_map_succ, range_map_succ, ev_append, ev_append, ev_append, ev_range_add f g x n, ev_one, ev_one, ev_one]
    simp only [List.length_map, List.length_range]
    grind
theorem range_getD {l : List Rat} {n : Nat} (h : l.length ≤ n) : (List.range n).map (l.getD · 0) = l ++ List.replicate (n - l.length) 0 := by
  apply List.ext_getElem
  · simp; omega
  · intro i h1 h2
    simp only [List.getElem_map, List.getElem_range]
    by_cases hi : i < l.length
    · rw [List.getElem_append_left hi]
      simp [hi]
    · rw [List.getElem_append_right (by omega), List.getElem_replicate]
      simp [hi]
theorem ev_range_getD {l : List Rat} {n : Nat} (h : l.length ≤ n) (x : Rat) : ev ((List.range n).map (l.getD · 0)) x = ev l x := by
  rw [range_getD h, ev_append, ev_zeros]
  grind
theorem ev_sumC {p q : List Rat} {n : Nat} (hp : p.length ≤ n) (hq : q.length ≤ n) (x : Rat) : ev ((List.range n).map (sumC p q)) x = ev p x + ev q x := by
  have := ev_range_add (p.getD · 0) (q.getD · 0) x n
  rw [ev_range_getD hp, ev_range_getD hq] at this
  exact this
/-- A sum, without noughts at the end. -/
structure IsSum (p q m : List Rat) : Prop where
  ev : ∀ x, ev m x = ev p x + ev q x
  len : m.length ≤ max p.length q.length
  top : Top m
structure IsProd (p q m : List Rat) : Prop where
  ev : ∀ x, ev m x = ev p x * ev q x
  len : m.length ≤ p.length + q.length - 1
  nil : p = [] ∨ q = [] → m = []
  top : Top m
theorem IsProd.none {p q : List Rat} (h : p = [] ∨ q = []) : IsProd p q [] := by
  refine ⟨fun x => ?_, by simp, fun _ => rfl, fun h => absurd h (by simp)⟩
  rcases h with rfl | rfl <;> simp only [Go.Proofs.YtjncgcnofiaiaaaGreat.ev] <;> grind
theorem pow_add' (x : Rat) (i : Nat) : ∀ j, x ^ (i + j) = x ^ i * x ^ j
  | 0 => by rw [Nat.add_zero, Rat.pow_zero]; grind
  | j + 1 => by
    rw [← Nat.add_assoc, Rat.pow_succ, Rat.pow_succ, pow_add' x i j]
    grind
theorem addII {a b : Nat} (h : a + b < 9223372036854775808) : arith .add .i64 (a : Int) (b : Int) = ((a + b : Nat) : Int) := by
  rw [ar_add, wrap_i64 (by omega) (by omega)]
  omega
theorem getD_lt {l : List Rat} {i : Nat} (h : i < l.length) : l.getD i 0 = l[i] := by simp [h]
theorem getD_ge {l : List Rat} {i : Nat} (h : l.length ≤ i) : l.getD i 0 = 0 := by simp [h]
/-- i rows of a product, and k places of the next one. -/
structure Row (p q : List Rat) (i k : Nat) (L : List Rat) : Prop where
  ev : ∀ x, ev L x = ev (p.take i) x * ev q x + x ^ i * (p.getD i 0 * ev (q.take k) x)
theorem Row.first {p q : List Rat} {n : Nat} : Row p q 0 0 (List.replicate n 0) := ⟨fun x => by
  rw [ev_zeros]
  simp only [List.take_zero, Go.Proofs.YtjncgcnofiaiaaaGreat.ev]
  grind⟩
theorem Row.step {p q L : List Rat} {i k : Nat} (h : Row p q i k L) (hi : i < p.length) (hk : k < q.length) (hL : i + k < L.length) : Row p q i (k + 1) (L.set (i + k) (L[i + k] + p[i] * q[k])) := ⟨fun x => by
  rw [ev_set hL, h.ev x, ev_take hk, pow_add', getD_lt hi]
  grind⟩
theorem Row.next {p q L : List Rat} {i : Nat} (h : Row p q i q.length L) (hi : i < p.length) : Row p q (i + 1) 0 L := ⟨fun x => by
  rw [h.ev x, ev_take hi, List.take_length, List.take_zero, getD_lt hi]
  simp only [Go.Proofs.YtjncgcnofiaiaaaGreat.ev]
  grind⟩
theorem Row.done {p q L : List Rat} (h : Row p q p.length 0 L) (x : Rat) : Go.Proofs.YtjncgcnofiaiaaaGreat.ev L x = Go.Proofs.YtjncgcnofiaiaaaGreat.ev p x * Go.Proofs.YtjncgcnofiaiaaaGreat.ev q x := by
  rw [h.ev x, List.take_length, List.take_zero]
  simp only [Go.Proofs.YtjncgcnofiaiaaaGreat.ev]
  grind
theorem Els.up {k m : Nat} {ds : List C} {l : List Rat} (h : Els (elQ k) ds l) (hk : k ≤ m) : Els (elQ m) ds l := h.mono (fun _ _ h => IQ.up h hk)
theorem Ls.up {k m : Nat} {c : C} {l : List Rat} (h : Ls (elQ k) c l) (hk : k ≤ m) : Ls (elQ m) c l := h.mono (fun _ _ h => IQ.up h hk)
theorem Els.up' {k m : Nat} {ds : List C} {l : List Rat} (h : Els (elR k) ds l) (hk : k ≤ m) : Els (elR m) ds l := h.mono (fun _ _ h => IR.up h hk)
theorem Ls.up' {k m : Nat} {c : C} {l : List Rat} (h : Ls (elR k) c l) (hk : k ≤ m) : Ls (elR m) c l := h.mono (fun _ _ h => IR.up h hk)
attribute [local irreducible] compare' semH semC qLen qNil qIad qSlc qIdx ldBox ldCells stBox appX appI slcX awpF awpOpsF awpDF xopF xopDF qval lval seqQ blockQ loopQ bodyF retKF cnd arith IntKind.wrap
theorem qp_Add {k m : Nat} {c d : C} {p q : List Rat} (hc : Ls (elQ k) c p) (hd : Ls (elQ m) d q) (hp : p.length < 1048576) (hq : q.length < 1048576) (h0 : 1 ≤ k) (hk : k + m + 1 ≤ 134217728) : semC Tryz.prog n_qp_P_Add [.c c, .c d] (PolyK (elQ (k + m + 1)) (IsSum p q)) := by
  refine semC_of_awpF ok_qp_P_Add rfl (show HFVs [.c c, .c d] from ⟨hc.hf, hd.hf, trivial⟩) ?_
  refine go5 ?_
  rw [show (if ((q.length : Nat) : Int) > (p.length : Nat) then ((q.length : Nat) : Int) else (p.length : Nat)) = ((max p.length q.length : Nat) : Int) by split <;> omega]
  generalize hn : max p.length q.length = n
  have hnp : p.length ≤ n := by omega
  have hnq : q.length ≤ n := by omega
  refine x_mkSl (by rfl) (by rfl) ⟨by omega, by omega, by omega, by omega⟩ ?_
  refine go5 ?_
  refine f_loop (fun w vs H => ∃ (i : Nat) (cells : List C), vs = [.c c, .c d, .c (.sl 0 0 n (some n) 6), i64 n, i64 i] ∧ H = [.live ⟨cells, T_num_Q, .rw⟩] ∧ w = n - i ∧ i ≤ n ∧ Fill (elQ (k + m + 1)) zeroQ n cells ((List.range i).map (sumC p q))) (by rfl) ⟨0, _, rfl, rfl, rfl, by omega, .zero rfl⟩ ?_
  rintro w vs H ⟨i, cells, rfl, rfl, rfl, h1, h2⟩
  have hlen : cells.length = n * 6 := h2.len
  have htl : ((List.range i).map (sumC p q)).length = i := by simp
  refine go5 ?_
  cases hi : compare' Cm.lss (i : Int) (n : Int)
  case false =>
    simp [compare'] at hi
    have ei : i = n := by omega
    subst ei
    have h3 := h2.done htl
    have h4 := Ls.imm h3
    rw [htl] at h4
    refine go5 ?_
    refine semH_of_semC_close [0] (.cons (.c (fz_sl (ds := cells) (by rfl) (by rfl) (by simp) (by rw [List.drop_zero, List.take_of_length_le (by simp only; omega)]) h3.hf)) .nil) (qp_Trim h4 (by simp; omega)) (fun u hu => ?_)
    obtain ⟨c', r, rfl, h5, h6⟩ := hu
    refine go5 ?_
    exact PolyK.fz h5 ⟨fun x => by rw [h6.ev, ev_sumC hnp hnq], by have := h6.len; simp at this; omega, h6.top⟩
  simp [compare'] at hi
  refine go5 ?_
  refine semH_of_semC (q_Int (g := 0) (by decide)) (fun u hu => ?_)
  obtain ⟨es, rfl, g1⟩ := hu
  have g1l := (elQ 1).len g1
  obtain ⟨z1, z2, z3, z4, z5, z6, rfl⟩ := id g1.six
  have e0 : 0 + ((i : Nat) : Int).toNat * 6 = i * 6 := by omega
  have fin : ∀ {cs : List C}, IQ (k + m + 1) cs (sumC p q i) → Fill (elQ (k + m + 1)) zeroQ n (splice cells (0 + ((i : Nat) : Int).toNat * 6) cs) ((List.range (i + 1)).map (sumC p q)) := fun h => by
    have h3 := h2.put (by rw [htl]; omega) h
    rw [htl, ← range_map_succ] at h3
    rw [e0]
    exact h3
  refine go5 ?_
  cases hi1 : compare' Cm.lss (i : Int) (p.length : Int)
  case false =>
    simp [compare'] at hi1
    refine go5 ?_
    cases hi2 : compare' Cm.lss (i : Int) (q.length : Int)
    case false =>
      simp [compare'] at hi2
      omega
    simp [compare'] at hi2
    refine go5 ?_
    refine ld_boxA (by rfl) (Nat.ble_eq_true_of_le (by rw [splice_len (by simp only [List.length_cons, List.length_nil]; omega)]; omega)) ?_
    rw [get_splice (cs := [z1, z2, z3, z4, z5, z6]) (n := 6) (by omega) rfl]
    refine go5 ?_
    refine ld_ls hd (i := i) hi2 (by omega) rfl (fun ds hds => ?_)
    refine go5 ?_
    refine call_C (q_Add2 (g1.up h0) hds hk) (fun u hu => ?_)
    obtain ⟨fs, rfl, g2⟩ := hu
    have e : sumC p q i = (0 : Int) + q[i] := by
      unfold sumC
      rw [getD_ge hi1, getD_lt hi2]
      rfl
    rw [← e] at g2
    obtain ⟨y1, y2, y3, y4, y5, y6, rfl⟩ := id g2.six
    refine go5 ?_
    refine st_box (by rfl) (by rfl) (by rfl) (by rw [splice_len (by simp only [List.length_cons, List.length_nil]; omega)]; omega) ?_
    refine go5 ?_
    rw [addI1 i (by omega)]
    exact l_n (by rfl) (by omega) ⟨i + 1, _, rfl, rfl, rfl, by omega, by rw [splice_twice (cs := [z1, z2, z3, z4, z5, z6]) (ds := [y1, y2, y3, y4, y5, y6]) (by omega) rfl]; exact fin g2⟩
  simp [compare'] at hi1
  refine go5 ?_
  refine ld_ls hc (i := i) hi1 (by omega) rfl (fun cs hcs => ?_)
  obtain ⟨x1, x2, x3, x4, x5, x6, rfl⟩ := id hcs.six
  refine go5 ?_
  refine st_box (by rfl) (by rfl) (by rfl) (by rw [splice_len (by simp only [List.length_cons, List.length_nil]; omega)]; omega) ?_
  rw [splice_twice (cs := [z1, z2, z3, z4, z5, z6]) (ds := [x1, x2, x3, x4, x5, x6]) (by omega) rfl]
  refine go5 ?_
  cases hi2 : compare' Cm.lss (i : Int) (q.length : Int)
  case false =>
    simp [compare'] at hi2
    have e : sumC p q i = p[i] := by
      unfold sumC
      rw [getD_lt hi1, getD_ge hi2]
      grind
    rw [← e] at hcs
    refine go5 ?_
    rw [addI1 i (by omega)]
    exact l_n (by rfl) (by omega) ⟨i + 1, _, rfl, rfl, rfl, by omega, fin (hcs.up (by omega))⟩
  simp [compare'] at hi2
  refine go5 ?_
  refine ld_boxA (by rfl) (Nat.ble_eq_true_of_le (by rw [splice_len (by simp only [List.length_cons, List.length_nil]; omega)]; omega)) ?_
  rw [get_splice (cs := [x1, x2, x3, x4, x5, x6]) (n := 6) (by omega) rfl]
  refine go5 ?_
  refine ld_ls hd (i := i) hi2 (by omega) rfl (fun ds hds => ?_)
  refine go5 ?_
  refine call_C (q_Add2 hcs hds hk) (fun u hu => ?_)
  obtain ⟨fs, rfl, g2⟩ := hu
  have e : sumC p q i = p[i] + q[i] := by
    unfold sumC
    rw [getD_lt hi1, getD_lt hi2]
  rw [← e] at g2
  obtain ⟨y1, y2, y3, y4, y5, y6, rfl⟩ := id g2.six
  refine go5 ?_
  refine st_box (by rfl) (by rfl) (by rfl) (by rw [splice_len (by simp only [List.length_cons, List.length_nil]; omega)]; omega) ?_
  refine go5 ?_
  rw [addI1 i (by omega)]
  exact l_n (by rfl) (by omega) ⟨i + 1, _, rfl, rfl, rfl, by omega, by rw [splice_twice (cs := [x1, x2, x3, x4, x5, x6]) (ds := [y1, y2, y3, y4, y5, y6]) (by omega) rfl]; exact fin g2⟩
theorem qp_Mul {k m : Nat} {c d : C} {p q : List Rat} (hc : Ls (elQ k) c p) (hd : Ls (elQ m) d q) (hp : p.length < 1048576) (hq : q.length < 1048576) (hk : evK k m (p.length * q.length) ≤ 134217728) : semC Tryz.prog n_qp_P_Mul [.c c, .c d] (PolyK (elQ (evK k m (p.length * q.length))) (IsProd p q)) := by
  refine semC_of_awpF ok_qp_P_Mul rfl (show HFVs [.c c, .c d] from ⟨hc.hf, hd.hf, trivial⟩) ?_
  refine go5 ?_
  cases h1 : compare' Cm.eql (p.length : Int) 0
  case true =>
    simp [compare'] at h1
    refine go5 ?_
    exact PolyK.fz .nil (.none (.inl h1))
  simp [compare'] at h1
  refine go5 ?_
  cases h2 : compare' Cm.eql (q.length : Int) 0
  case true =>
    simp [compare'] at h2
    refine go5 ?_
    exact PolyK.fz .nil (.none (.inr h2))
  simp [compare'] at h2
  have hp0 : 0 < p.length := List.length_pos_iff.2 h1
  have hq0 : 0 < q.length := List.length_pos_iff.2 h2
  refine go5 ?_
  generalize hn : p.length + q.length - 1 = n
  rw [show arith .sub .i64 (arith .add .i64 (p.length : Int) (q.length : Int)) 1 = (n : Int) by rw [addII (by omega), ar_sub, wrap_i64 (by omega) (by omega)]; omega]
  refine x_mkSl (by rfl) (by rfl) ⟨by omega, by omega, by omega, by omega⟩ ?_
  refine go5 ?_
  refine f_loop (fun w vs H => ∃ (i : Nat) (cells : List C), vs = [.c c, .c d, .c (.sl 0 0 n (some n) 6), i64 n, i64 i] ∧ H = [.live ⟨cells, T_num_Q, .rw⟩] ∧ w = n - i ∧ i ≤ n ∧ Fill (elQ 1) zeroQ n cells (List.replicate i 0)) (by rfl) ⟨0, _, rfl, rfl, rfl, by omega, .zero rfl⟩ ?_
  rintro w vs H ⟨i, cells, rfl, rfl, rfl, h3, h4⟩
  have hlen : cells.length = n * 6 := h4.len
  refine go5 ?_
  cases hi : compare' Cm.lss (i : Int) (n : Int)
  case true =>
    simp [compare'] at hi
    refine go5 ?_
    refine semH_of_semC (q_Int (g := 0) (by decide)) (fun u hu => ?_)
    obtain ⟨es, rfl, g1⟩ := hu
    obtain ⟨z1, z2, z3, z4, z5, z6, rfl⟩ := id g1.six
    refine go5 ?_
    rw [addI1 i (by omega)]
    have h5 := h4.put (by simpa using hi) g1
    rw [List.length_replicate, show List.replicate i (0 : Rat) ++ [((0 : Int) : Rat)] = List.replicate (i + 1) 0 from (List.replicate_succ' ..).symm] at h5
    exact l_n (by rfl) (by omega) ⟨i + 1, _, rfl, rfl, rfl, by omega, by rw [show 0 + ((i : Nat) : Int).toNat * 6 = i * 6 by omega]; exact h5⟩
  simp [compare'] at hi
  have ei : i = n := by omega
  subst ei
  have h5 := h4.done (by simp)
  clear h4 h3 hi
  refine go5 ?_
  refine f_loop (fun w vs H => ∃ (j : Nat) (cells : List C) (L : List Rat), vs = [.c c, .c d, .c (.sl 0 0 i (some i) 6), i64 p.length, i64 j] ∧ H = [.live ⟨cells, T_num_Q, .rw⟩] ∧ w = p.length - j ∧ j ≤ p.length ∧ L.length = i ∧ Els (elQ (evK k m (j * q.length))) cells L ∧ Row p q j 0 L) (by rfl) ⟨0, cells, _, rfl, rfl, rfl, by omega, List.length_replicate, h5.up (by unfold evK; omega), .first⟩ ?_
  clear h5 hlen cells
  rintro w vs H ⟨j, cells, L, rfl, rfl, rfl, h3, h4, h5, h6⟩
  refine go5 ?_
  cases hj : compare' Cm.lss (j : Int) (p.length : Int)
  case false =>
    simp [compare'] at hj
    have ej : j = p.length := by omega
    subst ej
    have h7 := Ls.imm h5
    have hlen := h5.len
    rw [h4] at h7
    refine go5 ?_
    refine semH_of_semC_close [0] (.cons (.c (fz_sl (ds := cells) (by rfl) (by rfl) (by simp) (by rw [List.drop_zero, List.take_of_length_le (by simp only; rw [hlen, h4]; exact Nat.le_refl _)]) h5.hf)) .nil) (qp_Trim h7 (by omega)) (fun u hu => ?_)
    obtain ⟨c', r, rfl, h8, h9⟩ := hu
    refine go5 ?_
    exact PolyK.fz h8 ⟨fun x => by rw [h9.ev, h6.done], by have := h9.len; omega, fun h => (by rcases h with h | h <;> contradiction), h9.top⟩
  simp [compare'] at hj
  refine go5 ?_
  refine f_loop (fun w vs H => ∃ (o : Nat) (cells : List C) (L : List Rat), vs = [.c c, .c d, .c (.sl 0 0 i (some i) 6), i64 j, i64 p.length, i64 j, i64 q.length, i64 o] ∧ H = [.live ⟨cells, T_num_Q, .rw⟩] ∧ w = q.length - o ∧ o ≤ q.length ∧ L.length = i ∧ Els (elQ (evK k m (j * q.length + o))) cells L ∧ Row p q j o L) (by rfl) ⟨0, cells, L, rfl, rfl, rfl, by omega, h4, h5, h6⟩ ?_
  clear h4 h5 h6 L cells
  rintro w vs H ⟨o, cells, L, rfl, rfl, rfl, h4, h5, h6, h7⟩
  have hlen : cells.length = i * 6 := by rw [h6.len, h5]; rfl
  refine go5 ?_
  cases ho : compare' Cm.lss (o : Int) (q.length : Int)
  case false =>
    simp [compare'] at ho
    have eo : o = q.length := by omega
    subst eo
    refine go5 ?_
    rw [addI1 j (by omega)]
    exact l_n (by rfl) (by omega) ⟨j + 1, cells, L, rfl, rfl, rfl, by omega, h5, by rw [Nat.succ_mul]; exact h6, h7.next hj⟩
  simp [compare'] at ho
  have hjo : j + o < L.length := by omega
  have hle : j * q.length + o + 1 ≤ p.length * q.length := by
    have := Nat.mul_le_mul_right q.length (show j + 1 ≤ p.length by omega)
    rw [Nat.succ_mul] at this
    omega
  have hke := Nat.le_trans (evK_mono (k := k) (m := m) hle) hk
  rw [evK_succ] at hke
  have eo : evK k m (j * q.length + (o + 1)) = evK k m (j * q.length + o) + (k + m + 1) := evK_succ k m (j * q.length + o)
  refine go5 ?_
  rw [addII (show j + o < 9223372036854775808 by omega)]
  refine go5 ?_
  refine ld_boxE (by rfl) h6 hjo (by show _ = (j + o) * 6; omega) rfl (fun cs hcs => ?_)
  refine go5 ?_
  refine ld_ls hc (i := j) hj (by omega) rfl (fun ds hds => ?_)
  refine go5 ?_
  refine ld_ls hd (i := o) ho (by omega) rfl (fun es hes => ?_)
  refine go5 ?_
  refine call_C (q_Mul2 hds hes (by omega)) (fun u hu => ?_)
  obtain ⟨fs, rfl, g1⟩ := hu
  refine go5 ?_
  refine call_C (q_Add2 hcs g1 (by omega)) (fun u hu => ?_)
  obtain ⟨gs, rfl, g2⟩ := hu
  obtain ⟨y1, y2, y3, y4, y5, y6, rfl⟩ := id g2.six
  refine go5 ?_
  rw [addI1 o (by omega)]
  have g3 : IQ (evK k m (j * q.length + (o + 1))) _ _ := g2.up (by rw [eo]; omega)
  exact l_n (by rfl) (by omega) ⟨o + 1, _, _, rfl, rfl, rfl, by omega, by rw [List.length_set]; exact h5, by
    rw [show 0 + ((j + o : Nat) : Int).toNat * 6 = (j + o) * 6 by omega]
    exact (h6.up (by rw [eo]; omega)).set hjo g3, h7.step hj ho hjo⟩
end Go.Proofs.YtjncgcnofiaiaaaGreat

set_option linter.unusedVariables false
set_option linter.unusedSimpArgs false
namespace Go.Proofs.YtjncgcnofiaiaaaGreat
open Go.RowKit
set_option maxRecDepth 20000
theorem go9 {A B : Prop} (k : B) (h : Held B → A := by
  intro hgo
  repeat (first | (refine g_o ?_; first | (refine o_some ?_; try (first | (refine x_q (by rfl) ?_; try (first | refine q_mv (by rfl) ?_ | refine q_faddr (by rfl) ?_ | (refine q_len ?_; try (first | refine len_ls (by rfl) (by assumption) ?_ | refine len_wd (by rfl) (by assumption) ?_ | refine len_sl (by rfl) ?_ | refine len_imm (by rfl) ?_ | refine len_nil (by rfl) ?_)) | (refine q_iad ?_; try (first | refine idx_ls (by rfl) (by rfl) (by assumption) (by omega) (by omega) ?_ | refine idx_wd (by rfl) (by rfl) (by assumption) (by omega) (by omega) ?_ | refine idx_ptr (by rfl) (by rfl) (by decide) (by decide) ?_ | refine idx_sl (by rfl) (by rfl) (by decide) (by decide) ?_ | refine idx_imm (by rfl) (by rfl) (by decide) (by decide) ?_ | refine idx_sl (by rfl) (by rfl) (by omega) (by omega) ?_)) | refine q_cm (by rfl) (by rfl) ?_ | refine q_ar (by rfl) (by rfl) (by rfl) ?_ | refine q_conv (by rfl) ?_ | (refine q_eqN ?_; try (first | refine eqn_nil (by rfl) ?_ | refine eqn_imm (by rfl) ?_ | refine eqn_sl (by rfl) ?_)) | refine q_ext (by rfl) (by rfl) ?_ | refine q_build (by rfl) ?_ | refine q_shl (by rfl) (by rfl) (by first | decide | omega) ?_ | refine q_shr (by rfl) (by rfl) (by first | decide | omega) ?_ | refine q_eqB (by rfl) (by rfl) ?_ | refine q_eqA (by rfl) (by rfl) (by rfl) ?_ | refine q_neg (by rfl) ?_ | refine q_not (by rfl) ?_ | refine q_pick_t (by rfl) (by rfl) ?_ | refine q_pick_f (by rfl) (by rfl) ?_ | refine q_slc ?_ | refine q_idx ?_ | refine q_fld (by rfl) (by rfl) ?_ | refine q_fldA (by rfl) (by rfl) ?_ | refine q_faddrI (by rfl) ?_ | refine q_mx (by rfl) (by rfl) ?_ | refine q_mn (by rfl) (by rfl) ?_ | refine q_fnc (by rfl) ?_ | refine q_chkP (by rfl) ?_ | refine q_chkF (by rfl) ?_ | refine q_ifaceA (by rfl) ?_ | refine q_asrtY (by rfl) (by rfl) ?_ | refine q_asrtN (by rfl) (by rfl) ?_)) | (refine x_load ?_; try (first | (refine l_ptr (by rfl) ?_; try (first | refine ld_box (by rfl) (by rfl) ?_ | refine ld_boxA (by rfl) (by rfl) ?_ | refine ld_box (last_live _ _) (by rfl) ?_ | refine ld_boxA (last_live _ _) (by rfl) ?_)) | (refine l_ipt (by rfl) ?_; try (first | refine ld_wd (by omega) (by omega) ?_ | refine ld_cellsA (Nat.le_of_ble_eq_true (by rfl)) ?_ | refine st_box (by rfl) (by rfl) (by rfl) (by omega) ?_)))) | refine x_store_last (by rfl) (by rfl) (by rfl) (by rfl) (Nat.le_of_ble_eq_true (by rfl)) ?_ | (refine x_store (by rfl) (by rfl) ?_; try (first | refine st_box (by rfl) (by rfl) (by rfl) (Nat.le_of_ble_eq_true (by rfl)) ?_ | refine st_box (by rfl) (by rfl) (by rfl) (by omega) ?_)) | refine x_call (by rfl) (by rfl) ?_ | refine x_box (by rfl) (by rfl) ?_ | refine x_alloc ?_ | refine x_frzSl (by rfl) ?_ | refine x_app ?_ | refine x_slcA ?_)) | (refine o_nil ?_; try (first | refine s_n ?_ | refine s_r ?_ | refine s_e ?_ | refine k_n ?_ | refine k_r ?_ | refine k_e (by rfl) ?_ | refine k_o (by rfl) ?_ | refine l_r ?_ | refine l_e ?_ | refine b_r ?_ | refine b_n ?_)) | refine o_guard (by rfl) ?_ | refine o_guardT (by rfl) ?_ | refine o_none ?_ | refine o_guardN (by rfl) ?_) | (refine g_f ?_; first | refine f_seq ?_ | refine f_reg ?_ | (refine f_cond (by rfl) ?_; try (first | refine c_t (by rfl) ?_ | refine c_f (by rfl) ?_)) | refine f_block ?_ | refine f_skip ?_ | refine f_ret ?_ | refine f_exit ?_ | refine f_regD0 ?_ | refine f_regD ?_) | (refine g_s ?_; first | refine s_n ?_ | refine s_r ?_ | refine s_e ?_) | (refine g_d ?_; first | refine d_late (T := none) (by rfl) (by rfl) (by rfl) ?_ | (refine d_some (T := none) (by rfl) (by rfl) ?_; try (first | (refine xd_q (by rfl) ?_; try (first | refine q_mv (by rfl) ?_ | refine q_faddr (by rfl) ?_ | (refine q_len ?_; try (first | refine len_ls (by rfl) (by assumption) ?_ | refine len_wd (by rfl) (by assumption) ?_ | refine len_sl (by rfl) ?_ | refine len_imm (by rfl) ?_ | refine len_nil (by rfl) ?_)) | (refine q_iad ?_; try (first | refine idx_ls (by rfl) (by rfl) (by assumption) (by omega) (by omega) ?_ | refine idx_wd (by rfl) (by rfl) (by assumption) (by omega) (by omega) ?_ | refine idx_ptr (by rfl) (by rfl) (by decide) (by decide) ?_ | refine idx_sl (by rfl) (by rfl) (by decide) (by decide) ?_ | refine idx_imm (by rfl) (by rfl) (by decide) (by decide) ?_ | refine idx_sl (by rfl) (by rfl) (by omega) (by omega) ?_)) | refine q_cm (by rfl) (by rfl) ?_ | refine q_ar (by rfl) (by rfl) (by rfl) ?_ | refine q_conv (by rfl) ?_ | (refine q_eqN ?_; try (first | refine eqn_nil (by rfl) ?_ | refine eqn_imm (by rfl) ?_ | refine eqn_sl (by rfl) ?_)) | refine q_ext (by rfl) (by rfl) ?_ | refine q_build (by rfl) ?_ | refine q_shl (by rfl) (by rfl) (by first | decide | omega) ?_ | refine q_shr (by rfl) (by rfl) (by first | decide | omega) ?_ | refine q_eqB (by rfl) (by rfl) ?_ | refine q_eqA (by rfl) (by rfl) (by rfl) ?_ | refine q_neg (by rfl) ?_ | refine q_not (by rfl) ?_ | refine q_pick_t (by rfl) (by rfl) ?_ | refine q_pick_f (by rfl) (by rfl) ?_ | refine q_slc ?_ | refine q_idx ?_ | refine q_fld (by rfl) (by rfl) ?_ | refine q_fldA (by rfl) (by rfl) ?_ | refine q_faddrI (by rfl) ?_ | refine q_mx (by rfl) (by rfl) ?_ | refine q_mn (by rfl) (by rfl) ?_ | refine q_fnc (by rfl) ?_ | refine q_chkP (by rfl) ?_ | refine q_chkF (by rfl) ?_ | refine q_ifaceA (by rfl) ?_ | refine q_asrtY (by rfl) (by rfl) ?_ | refine q_asrtN (by rfl) (by rfl) ?_)) | (refine xd_load ?_; try (first | (refine l_ptr (by rfl) ?_; try (first | refine ld_box (by rfl) (by rfl) ?_ | refine ld_boxA (by rfl) (by rfl) ?_ | refine ld_box (last_live _ _) (by rfl) ?_ | refine ld_boxA (last_live _ _) (by rfl) ?_)) | (refine l_ipt (by rfl) ?_; try (first | refine ld_wd (by omega) (by omega) ?_ | refine ld_cellsA (Nat.le_of_ble_eq_true (by rfl)) ?_ | refine st_box (by rfl) (by rfl) (by rfl) (by omega) ?_)))) | refine xd_store_last (by rfl) (by rfl) (by rfl) (by rfl) (Nat.le_of_ble_eq_true (by rfl)) ?_ | (refine xd_store (by rfl) (by rfl) ?_; try (first | refine st_box (by rfl) (by rfl) (by rfl) (Nat.le_of_ble_eq_true (by rfl)) ?_ | refine st_box (by rfl) (by rfl) (by rfl) (by omega) ?_)) | refine xd_call (by rfl) (by rfl) ?_ | refine xd_box (by rfl) (by rfl) (by rfl) ?_ | refine xd_alloc (by rfl) ?_ | refine xd_frzSl (by rfl) ?_)) | (refine d_some (by rfl) (by rfl) ?_; try (first | (refine xd_q (by rfl) ?_; try (first | refine q_mv (by rfl) ?_ | refine q_faddr (by rfl) ?_ | (refine q_len ?_; try (first | refine len_ls (by rfl) (by assumption) ?_ | refine len_wd (by rfl) (by assumption) ?_ | refine len_sl (by rfl) ?_ | refine len_imm (by rfl) ?_ | refine len_nil (by rfl) ?_)) | (refine q_iad ?_; try (first | refine idx_ls (by rfl) (by rfl) (by assumption) (by omega) (by omega) ?_ | refine idx_wd (by rfl) (by rfl) (by assumption) (by omega) (by omega) ?_ | refine idx_ptr (by rfl) (by rfl) (by decide) (by decide) ?_ | refine idx_sl (by rfl) (by rfl) (by decide) (by decide) ?_ | refine idx_imm (by rfl) (by rfl) (by decide) (by decide) ?_ | refine idx_sl (by rfl) (by rfl) (by omega) (by omega) ?_)) | refine q_cm (by rfl) (by rfl) ?_ | refine q_ar (by rfl) (by rfl) (by rfl) ?_ | refine q_conv (by rfl) ?_ | (refine q_eqN ?_; try (first | refine eqn_nil (by rfl) ?_ | refine eqn_imm (by rfl) ?_ | refine eqn_sl (by rfl) ?_)) | refine q_ext (by rfl) (by rfl) ?_ | refine q_build (by rfl) ?_ | refine q_shl (by rfl) (by rfl) (by first | decide | omega) ?_ | refine q_shr (by rfl) (by rfl) (by first | decide | omega) ?_ | refine q_eqB (by rfl) (by rfl) ?_ | refine q_eqA (by rfl) (by rfl) (by rfl) ?_ | refine q_neg (by rfl) ?_ | refine q_not (by rfl) ?_ | refine q_pick_t (by rfl) (by rfl) ?_ | refine q_pick_f (by rfl) (by rfl) ?_ | refine q_slc ?_ | refine q_idx ?_ | refine q_fld (by rfl) (by rfl) ?_ | refine q_fldA (by rfl) (by rfl) ?_ | refine q_faddrI (by rfl) ?_ | refine q_mx (by rfl) (by rfl) ?_ | refine q_mn (by rfl) (by rfl) ?_ | refine q_fnc (by rfl) ?_ | refine q_chkP (by rfl) ?_ | refine q_chkF (by rfl) ?_ | refine q_ifaceA (by rfl) ?_ | refine q_asrtY (by rfl) (by rfl) ?_ | refine q_asrtN (by rfl) (by rfl) ?_)) | (refine xd_load ?_; try (first | (refine l_ptr (by rfl) ?_; try (first | refine ld_box (by rfl) (by rfl) ?_ | refine ld_boxA (by rfl) (by rfl) ?_ | refine ld_box (last_live _ _) (by rfl) ?_ | refine ld_boxA (last_live _ _) (by rfl) ?_)) | (refine l_ipt (by rfl) ?_; try (first | refine ld_wd (by omega) (by omega) ?_ | refine ld_cellsA (Nat.le_of_ble_eq_true (by rfl)) ?_ | refine st_box (by rfl) (by rfl) (by rfl) (by omega) ?_)))) | refine xd_store_last (by rfl) (by rfl) (by rfl) (by rfl) (Nat.le_of_ble_eq_true (by rfl)) ?_ | (refine xd_store (by rfl) (by rfl) ?_; try (first | refine st_box (by rfl) (by rfl) (by rfl) (Nat.le_of_ble_eq_true (by rfl)) ?_ | refine st_box (by rfl) (by rfl) (by rfl) (by omega) ?_)) | refine xd_call (by rfl) (by rfl) ?_ | refine xd_box (by rfl) (by rfl) (by rfl) ?_ | refine xd_alloc (by rfl) ?_ | refine xd_frzSl (by rfl) ?_)) | (refine d_nil ?_; try (first | refine s_n ?_ | refine s_r ?_ | refine s_e ?_ | refine k_n ?_ | refine k_r ?_ | refine k_e (by rfl) ?_ | refine k_o (by rfl) ?_ | refine l_r ?_ | refine l_e ?_ | refine b_r ?_ | refine b_n ?_)) | refine d_none (by rfl) (by rfl) ?_ | refine d_guard (by rfl) (by rfl) (by rfl) ?_) | (refine g_x ?_; first | (refine x_q (by rfl) ?_; try (first | refine q_mv (by rfl) ?_ | refine q_faddr (by rfl) ?_ | (refine q_len ?_; try (first | refine len_ls (by rfl) (by assumption) ?_ | refine len_wd (by rfl) (by assumption) ?_ | refine len_sl (by rfl) ?_ | refine len_imm (by rfl) ?_ | refine len_nil (by rfl) ?_)) | (refine q_iad ?_; try (first | refine idx_ls (by rfl) (by rfl) (by assumption) (by omega) (by omega) ?_ | refine idx_wd (by rfl) (by rfl) (by assumption) (by omega) (by omega) ?_ | refine idx_ptr (by rfl) (by rfl) (by decide) (by decide) ?_ | refine idx_sl (by rfl) (by rfl) (by decide) (by decide) ?_ | refine idx_imm (by rfl) (by rfl) (by decide) (by decide) ?_ | refine idx_sl (by rfl) (by rfl) (by omega) (by omega) ?_)) | refine q_cm (by rfl) (by rfl) ?_ | refine q_ar (by rfl) (by rfl) (by rfl) ?_ | refine q_conv (by rfl) ?_ | (refine q_eqN ?_; try (first | refine eqn_nil (by rfl) ?_ | refine eqn_imm (by rfl) ?_ | refine eqn_sl (by rfl) ?_)) | refine q_ext (by rfl) (by rfl) ?_ | refine q_build (by rfl) ?_ | refine q_shl (by rfl) (by rfl) (by first | decide | omega) ?_ | refine q_shr (by rfl) (by rfl) (by first | decide | omega) ?_ | refine q_eqB (by rfl) (by rfl) ?_ | refine q_eqA (by rfl) (by rfl) (by rfl) ?_ | refine q_neg (by rfl) ?_ | refine q_not (by rfl) ?_ | refine q_pick_t (by rfl) (by rfl) ?_ | refine q_pick_f (by rfl) (by rfl) ?_ | refine q_slc ?_ | refine q_idx ?_ | refine q_fld (by rfl) (by rfl) ?_ | refine q_fldA (by rfl) (by rfl) ?_ | refine q_faddrI (by rfl) ?_ | refine q_mx (by rfl) (by rfl) ?_ | refine q_mn (by rfl) (by rfl) ?_ | refine q_fnc (by rfl) ?_ | refine q_chkP (by rfl) ?_ | refine q_chkF (by rfl) ?_ | refine q_ifaceA (by rfl) ?_ | refine q_asrtY (by rfl) (by rfl) ?_ | refine q_asrtN (by rfl) (by rfl) ?_)) | (refine x_load ?_; try (first | (refine l_ptr (by rfl) ?_; try (first | refine ld_box (by rfl) (by rfl) ?_ | refine ld_boxA (by rfl) (by rfl) ?_ | refine ld_box (last_live _ _) (by rfl) ?_ | refine ld_boxA (last_live _ _) (by rfl) ?_)) | (refine l_ipt (by rfl) ?_; try (first | refine ld_wd (by omega) (by omega) ?_ | refine ld_cellsA (Nat.le_of_ble_eq_true (by rfl)) ?_ | refine st_box (by rfl) (by rfl) (by rfl) (by omega) ?_)))) | refine x_store_last (by rfl) (by rfl) (by rfl) (by rfl) (Nat.le_of_ble_eq_true (by rfl)) ?_ | (refine x_store (by rfl) (by rfl) ?_; try (first | refine st_box (by rfl) (by rfl) (by rfl) (Nat.le_of_ble_eq_true (by rfl)) ?_ | refine st_box (by rfl) (by rfl) (by rfl) (by omega) ?_)) | refine x_call (by rfl) (by rfl) ?_ | refine x_box (by rfl) (by rfl) ?_ | refine x_alloc ?_ | refine x_frzSl (by rfl) ?_ | refine x_app ?_ | refine x_slcA ?_) | (refine g_q ?_; first | refine q_mv (by rfl) ?_ | refine q_faddr (by rfl) ?_ | (refine q_len ?_; try (first | refine len_ls (by rfl) (by assumption) ?_ | refine len_wd (by rfl) (by assumption) ?_ | refine len_sl (by rfl) ?_ | refine len_imm (by rfl) ?_ | refine len_nil (by rfl) ?_)) | (refine q_iad ?_; try (first | refine idx_ls (by rfl) (by rfl) (by assumption) (by omega) (by omega) ?_ | refine idx_wd (by rfl) (by rfl) (by assumption) (by omega) (by omega) ?_ | refine idx_ptr (by rfl) (by rfl) (by decide) (by decide) ?_ | refine idx_sl (by rfl) (by rfl) (by decide) (by decide) ?_ | refine idx_imm (by rfl) (by rfl) (by decide) (by decide) ?_ | refine idx_sl (by rfl) (by rfl) (by omega) (by omega) ?_)) | refine q_cm (by rfl) (by rfl) ?_ | refine q_ar (by rfl) (by rfl) (by rfl) ?_ | refine q_conv (by rfl) ?_ | (refine q_eqN ?_; try (first | refine eqn_nil (by rfl) ?_ | refine eqn_imm (by rfl) ?_ | refine eqn_sl (by rfl) ?_)) | refine q_ext (by rfl) (by rfl) ?_ | refine q_build (by rfl) ?_ | refine q_shl (by rfl) (by rfl) (by first | decide | omega) ?_ | refine q_shr (by rfl) (by rfl) (by first | decide | omega) ?_ | refine q_eqB (by rfl) (by rfl) ?_ | refine q_eqA (by rfl) (by rfl) (by rfl) ?_ | refine q_neg (by rfl) ?_ | refine q_not (by rfl) ?_ | refine q_pick_t (by rfl) (by rfl) ?_ | refine q_pick_f (by rfl) (by rfl) ?_ | refine q_slc ?_ | refine q_idx ?_ | refine q_fld (by rfl) (by rfl) ?_ | refine q_fldA (by rfl) (by rfl) ?_ | refine q_faddrI (by rfl) ?_ | refine q_mx (by rfl) (by rfl) ?_ | refine q_mn (by rfl) (by rfl) ?_ | refine q_fnc (by rfl) ?_ | refine q_chkP (by rfl) ?_ | refine q_chkF (by rfl) ?_ | refine q_ifaceA (by rfl) ?_ | refine q_asrtY (by rfl) (by rfl) ?_ | refine q_asrtN (by rfl) (by rfl) ?_) | (refine g_c ?_; first | refine c_t (by rfl) ?_ | refine c_f (by rfl) ?_) | (refine g_k ?_; first | refine k_n ?_ | refine k_r ?_ | refine k_e (by rfl) ?_ | refine k_o (by rfl) ?_) | (refine g_lo ?_; first | refine l_r ?_ | refine l_e ?_) | (refine g_xd ?_; first | (refine xd_q (by rfl) ?_; try (first | refine q_mv (by rfl) ?_ | refine q_faddr (by rfl) ?_ | (refine q_len ?_; try (first | refine len_ls (by rfl) (by assumption) ?_ | refine len_wd (by rfl) (by assumption) ?_ | refine len_sl (by rfl) ?_ | refine len_imm (by rfl) ?_ | refine len_nil (by rfl) ?_)) | (refine q_iad ?_; try (first | refine idx_ls (by rfl) (by rfl) (by assumption) (by omega) (by omega) ?_ | refine idx_wd (by rfl) (by rfl) (by assumption) (by omega) (by omega) ?_ | refine idx_ptr (by rfl) (by rfl) (by decide) (by decide) ?_ | refine idx_sl (by rfl) (by rfl) (by decide) (by decide) ?_ | refine idx_imm (by rfl) (by rfl) (by decide) (by decide) ?_ | refine idx_sl (by rfl) (by rfl) (by omega) (by omega) ?_)) | refine q_cm (by rfl) (by rfl) ?_ | refine q_ar (by rfl) (by rfl) (by rfl) ?_ | refine q_conv (by rfl) ?_ | (refine q_eqN ?_; try (first | refine eqn_nil (by rfl) ?_ | refine eqn_imm (by rfl) ?_ | refine eqn_sl (by rfl) ?_)) | refine q_ext (by rfl) (by rfl) ?_ | refine q_build (by rfl) ?_ | refine q_shl (by rfl) (by rfl) (by first | decide | omega) ?_ | refine q_shr (by rfl) (by rfl) (by first | decide | omega) ?_ | refine q_eqB (by rfl) (by rfl) ?_ | refine q_eqA (by rfl) (by rfl) (by rfl) ?_ | refine q_neg (by rfl) ?_ | refine q_not (by rfl) ?_ | refine q_pick_t (by rfl) (by rfl) ?_ | refine q_pick_f (by rfl) (by rfl) ?_ | refine q_slc ?_ | refine q_idx ?_ | refine q_fld (by rfl) (by rfl) ?_ | refine q_fldA (by rfl) (by rfl) ?_ | refine q_faddrI (by rfl) ?_ | refine q_mx (by rfl) (by rfl) ?_ | refine q_mn (by rfl) (by rfl) ?_ | refine q_fnc (by rfl) ?_ | refine q_chkP (by rfl) ?_ | refine q_chkF (by rfl) ?_ | refine q_ifaceA (by rfl) ?_ | refine q_asrtY (by rfl) (by rfl) ?_ | refine q_asrtN (by rfl) (by rfl) ?_)) | (refine xd_load ?_; try (first | (refine l_ptr (by rfl) ?_; try (first | refine ld_box (by rfl) (by rfl) ?_ | refine ld_boxA (by rfl) (by rfl) ?_ | refine ld_box (last_live _ _) (by rfl) ?_ | refine ld_boxA (last_live _ _) (by rfl) ?_)) | (refine l_ipt (by rfl) ?_; try (first | refine ld_wd (by omega) (by omega) ?_ | refine ld_cellsA (Nat.le_of_ble_eq_true (by rfl)) ?_ | refine st_box (by rfl) (by rfl) (by rfl) (by omega) ?_)))) | refine xd_store_last (by rfl) (by rfl) (by rfl) (by rfl) (Nat.le_of_ble_eq_true (by rfl)) ?_ | (refine xd_store (by rfl) (by rfl) ?_; try (first | refine st_box (by rfl) (by rfl) (by rfl) (Nat.le_of_ble_eq_true (by rfl)) ?_ | refine st_box (by rfl) (by rfl) (by rfl) (by omega) ?_)) | refine xd_call (by rfl) (by rfl) ?_ | refine xd_box (by rfl) (by rfl) (by rfl) ?_ | refine xd_alloc (by rfl) ?_ | refine xd_frzSl (by rfl) ?_) | (refine g_l ?_; first | (refine l_ptr (by rfl) ?_; try (first | refine ld_box (by rfl) (by rfl) ?_ | refine ld_boxA (by rfl) (by rfl) ?_ | refine ld_box (last_live _ _) (by rfl) ?_ | refine ld_boxA (last_live _ _) (by rfl) ?_)) | (refine l_ipt (by rfl) ?_; try (first | refine ld_wd (by omega) (by omega) ?_ | refine ld_cellsA (Nat.le_of_ble_eq_true (by rfl)) ?_ | refine st_box (by rfl) (by rfl) (by rfl) (by omega) ?_))) | (refine g_len ?_; first | refine len_ls (by rfl) (by assumption) ?_ | refine len_wd (by rfl) (by assumption) ?_ | refine len_sl (by rfl) ?_ | refine len_imm (by rfl) ?_ | refine len_nil (by rfl) ?_) | (refine g_nil ?_; first | refine eqn_nil (by rfl) ?_ | refine eqn_imm (by rfl) ?_ | refine eqn_sl (by rfl) ?_) | (refine g_iad ?_; first | refine idx_ls (by rfl) (by rfl) (by assumption) (by omega) (by omega) ?_ | refine idx_wd (by rfl) (by rfl) (by assumption) (by omega) (by omega) ?_ | refine idx_ptr (by rfl) (by rfl) (by decide) (by decide) ?_ | refine idx_sl (by rfl) (by rfl) (by decide) (by decide) ?_ | refine idx_imm (by rfl) (by rfl) (by decide) (by decide) ?_ | refine idx_sl (by rfl) (by rfl) (by omega) (by omega) ?_) | (refine g_box ?_; first | refine ld_box (by rfl) (by rfl) ?_ | refine ld_boxA (by rfl) (by rfl) ?_ | refine ld_box (last_live _ _) (by rfl) ?_ | refine ld_boxA (last_live _ _) (by rfl) ?_) | (refine g_cells ?_; first | refine ld_wd (by omega) (by omega) ?_ | refine ld_cellsA (Nat.le_of_ble_eq_true (by rfl)) ?_) | (refine g_st ?_; first | refine st_box (by rfl) (by rfl) (by rfl) (Nat.le_of_ble_eq_true (by rfl)) ?_) | (refine g_b ?_; first | refine b_r ?_ | refine b_n ?_) | (refine g_r ?_; first | refine r_tmp (by rfl) ?_ | refine r_cell ?_ | refine r_nil ?_))
  exact hgo.out) : A := h ⟨k⟩
section
variable {α : Type} {E : El α}
theorem Out.grow {el : TypeId} {m : Nat} {H X : Hp} {c : C} {l : List α} (h : Out E el m H c l) : Out E el m (H ++ X) c l := by
  cases h with
  | nil => exact .nil
  | sl hm hb hn hc h => exact .sl hm (by rw [List.getElem?_append_left (lt_of_getElem? hb)]; exact hb) hn hc h
/-- One more element, out of memory that is no box. -/
theorem app_imm {F R : Hp} {el : TypeId} {es bytes : Nat} {s x : Option V} {K : V → Hp → Prop} {c : C} {out : List α} {cs : List C} {a : α} {H : Hp} (hH : H = F ++ R) (ho : Out E el F.length (F ++ R) c out) (hs : s = some (.c c)) (hx : x = some (.c (.imm 1 cs))) (he : E.s = es) (ha : E.p cs a) (hl : (out.length + 1) * bytes ≤ 140737488355328 ∧ out.length + 1 ≤ 140737488355328)
    (k : ∀ R' c', Out E el F.length (F ++ R') c' (out ++ [a]) → K (.c c') (F ++ R')) : appX H el es bytes s x K := by
  subst hH hs hx he
  have hlen := E.len ha
  have hxs : slCells (F ++ R) E.s (.imm 1 cs) = some cs := by
    simp only [slCells]
    rw [Nat.one_mul, List.take_of_length_le (Nat.le_of_eq hlen)]
  cases ho with
  | nil =>
    simp only [appX, hxs, slLen]
    refine chk_intro (by simp [hlen]) (cnd_false rfl (chk_intro ?_ ?_))
    · simp only [List.length_nil, Nat.zero_add] at hl
      simp only [Bool.and_eq_true, dec_true]
      exact hl
    · have := k (R ++ [.live ⟨cs, el, .rw⟩]) (.sl (F ++ R).length 0 1 none E.s) (.sl (cells := cs) (ds := cs) (by simp) (by rw [← List.append_assoc]; exact last_live _ _) rfl (by simp only [List.nil_append, List.length_cons, List.length_nil, Nat.zero_add, Nat.one_mul, List.take_of_length_le (Nat.le_of_eq hlen)]) (.one ha))
      rw [← List.append_assoc] at this
      exact this
  | @sl b n co' cells ds l hm hb hn hc h =>
    subst hn
    have hdl : (cells.take (out.length * E.s)).length = out.length * E.s := by rw [hc]; exact h.len
    have hle : out.length * E.s ≤ cells.length := by
      rw [List.length_take] at hdl
      omega
    have hlt := lt_of_getElem? hb
    refine app_sl (cs := cells) (xs := cs) (m := 1) rfl rfl hxs rfl (by rw [hlen, Nat.one_mul]) hb hle hl.1 hl.2 ?_
    have e : (F ++ R).set b .dead = F ++ R.set (b - F.length) .dead := List.set_append_right _ _ hm
    have e' : (F ++ R).length = (F ++ R.set (b - F.length) .dead).length := by simp
    rw [e, e', List.append_assoc]
    refine k _ _ (.sl (cells := cells.take (out.length * E.s) ++ cs) (ds := ds ++ cs) (by simp) (by rw [← List.append_assoc]; exact last_live _ _) (by simp) ?_ (h.snoc ha))
    rw [hc]
    exact List.take_of_length_le (by rw [List.length_append, h.len, hlen]; simp [Nat.add_mul])
end
/-- The sizes of p(q) behind so many rounds, q of at most two coefficients. -/
def coK (k m : Nat) : Nat → Nat
  | 0 => 1
  | n + 1 => evK (coK k m n) m (n * 2) + k + 1
theorem coK_mono {k m i n : Nat} (h : i ≤ n) : coK k m i ≤ coK k m n := by
  induction h with
  | refl => exact Nat.le_refl _
  | @step n _ ih =>
    refine Nat.le_trans ih ?_
    cases n with
    | zero =>
      simp only [coK, evK]
      omega
    | succ n =>
      simp only [coK, evK]
      have := Nat.le_mul_of_pos_left (evK (coK k m n) m (n * 2) + k + 1 + m + 1) (show 0 < (n + 1) * 2 by omega)
      simp only [evK] at this
      omega
structure IsComp (p q m : List Rat) : Prop where
  ev : ∀ x, ev m x = ev p (Go.Proofs.YtjncgcnofiaiaaaGreat.ev q x)
  len : m.length ≤ p.length
  top : Top m
def integ (p : List Rat) : List Rat := 0 :: (List.range p.length).map (fun i => p.getD i 0 / (((i + 1 : Nat) : Int) : Rat))
structure IsInt (p m : List Rat) : Prop where
  ev : ∀ x, ev m x = ev (integ p) x
  len : m.length ≤ p.length + 1
theorem nat_ne (i : Nat) : (((i + 1 : Nat) : Int) : Rat) ≠ 0 := by
  intro h
  have h2 : ((i + 1 : Nat) : Int) = 0 := Rat.intCast_inj.1 (by simpa using h)
  omega
theorem evK_le {k m n : Nat} : 1 ≤ evK k m n := by
  unfold evK
  omega
attribute [local irreducible] compare' semH semC qLen qNil qIad qSlc qIdx ldBox ldCells stBox appX appI slcX awpF awpOpsF awpDF xopF xopDF qval lval seqQ blockQ loopQ bodyF retKF cnd arith IntKind.wrap
theorem qp_Compose {k m : Nat} {c d : C} {p q : List Rat} (hc : Ls (elQ k) c p) (hd : Ls (elQ m) d q) (hp : p.length < 1048576) (hq : q.length ≤ 2) (hk : coK k m p.length ≤ 134217728) : semC Tryz.prog n_qp_P_Compose [.c c, .c d] (PolyK (elQ (coK k m p.length)) (IsComp p q)) := by
  refine semC_of_awpF ok_qp_P_Compose rfl (show HFVs [.c c, .c d] from ⟨hc.hf, hd.hf, trivial⟩) ?_
  refine go5 ?_
  rw [show arith .sub .i64 (p.length : Int) 1 = (p.length : Int) - 1 by rw [ar_sub, wrap_i64 (by omega) (by omega)]]
  refine go5 ?_
  refine f_loop (fun w vs H => ∃ (i : Nat) (o : C) (l : List Rat), vs = [.c c, .c d, .c o, i64 ((i : Int) - 1)] ∧ w = i ∧ i ≤ p.length ∧ Ls (elQ (coK k m (p.length - i))) o l ∧ l.length ≤ p.length - i ∧ (∀ x, ev l x = ev (p.drop i) (ev q x)) ∧ Top l) (by rfl) ⟨p.length, _, [], rfl, rfl, Nat.le_refl _, .nil, by simp, fun x => by rw [List.drop_length]; rfl, fun h => absurd h (by simp)⟩ ?_
  rintro w vs H ⟨i, o, l, rfl, rfl, h2, h3, h4, h5, h6⟩
  refine go5 ?_
  cases hi : compare' Cm.geq ((w : Int) - 1) 0
  case false =>
    simp [compare'] at hi
    have ei : w = 0 := by omega
    subst ei
    refine go5 ?_
    exact PolyK.fz h3 ⟨h5, by omega, h6⟩
  simp [compare'] at hi
  obtain ⟨j, rfl⟩ : ∃ j, w = j + 1 := ⟨w - 1, by omega⟩
  have hj : j < p.length := by omega
  have ek : p.length - j = (p.length - (j + 1)) + 1 := by omega
  have hk1 := Nat.le_trans (coK_mono (k := k) (m := m) (show p.length - j ≤ p.length by omega)) hk
  rw [ek] at hk1
  simp only [coK] at hk1
  have hle : l.length * q.length ≤ (p.length - (j + 1)) * 2 := Nat.mul_le_mul h4 hq
  have hk2 := evK_mono (k := coK k m (p.length - (j + 1))) (m := m) hle
  rw [show (((j + 1 : Nat) : Int) - 1) = (j : Int) by omega]
  refine go5 ?_
  refine ld_ls hc (i := j) hj (by omega) rfl (fun cs hcs => ?_)
  refine go5 ?_
  refine call_C (qp_Mul h3 hd (by omega) (by omega) (by omega)) (fun u hu => ?_)
  obtain ⟨c1, r1, rfl, g1, g2⟩ := hu
  refine go5 ?_
  refine call_C (qp_Const hcs) (fun u hu => ?_)
  obtain ⟨c2, r2, rfl, g3, g4⟩ := hu
  have l1 := g2.len
  have l2 := g4.len
  simp only [List.length_cons, List.length_nil] at l2
  refine go5 ?_
  refine call_C (qp_Add g1 g3 (by omega) (by omega) evK_le (by omega)) (fun u hu => ?_)
  obtain ⟨c3, r3, rfl, g5, g6⟩ := hu
  refine go5 ?_
  rw [show arith .sub .i64 (j : Int) 1 = (j : Int) - 1 by rw [ar_sub, wrap_i64 (by omega) (by omega)]]
  refine l_n (by rfl) (n' := j) (by omega) ⟨j, c3, r3, rfl, rfl, by omega, by rw [ek]; simp only [coK]; exact g5.up (by omega), ?_, fun x => ?_, g6.top⟩
  · have l3 := g6.len
    rcases Nat.eq_zero_or_pos l.length with h0 | h0
    · have := g2.nil (.inl (List.eq_nil_of_length_eq_zero h0))
      subst this
      simp only [List.length_nil] at l3
      omega
    · omega
  · rw [g6.ev, g2.ev, g4.ev, h5, ev_drop hj, ev_one]
    grind
theorem qp_Integral {k : Nat} {c : C} {p : List Rat} (hc : Ls (elQ k) c p) (hp : p.length < 1048576) (hk : k + 1 ≤ 134217728) : semC Tryz.prog n_qp_P_Integral [.c c] (PolyK (elQ (k + 1)) (IsInt p)) := by
  refine semC_of_awpF ok_qp_P_Integral rfl (show HFVs [.c c] from ⟨hc.hf, trivial⟩) ?_
  refine go6 ?_
  cases h1 : compare' Cm.eql (p.length : Int) 0
  case true =>
    simp [compare'] at h1
    subst h1
    refine go6 ?_
    exact PolyK.fz .nil ⟨fun x => by simp only [integ, List.length_nil, List.range_zero, List.map_nil, ev]; grind, by simp⟩
  simp [compare'] at h1
  refine go6 ?_
  refine semH_of_semC (q_Int (g := 0) (by decide)) (fun u hu => ?_)
  obtain ⟨es, rfl, g1⟩ := hu
  obtain ⟨z1, z2, z3, z4, z5, z6, rfl⟩ := id g1.six
  refine go6 ?_
  simp only [spanC, zeroC, ratC, zeroE, zeroS, List.set_cons_zero, List.set_cons_succ, List.nil_append, List.cons_append, List.append_nil, List.replicate_succ, List.replicate_zero, List.length_cons, List.length_nil, splice, List.take_succ_cons, List.take_zero, List.drop_succ_cons, List.drop_zero, List.take_nil, List.drop_nil, Nat.zero_add, Nat.reduceAdd, Nat.reduceMul, Int.reduceToNat, closeB, List.getElem?_cons_succ, List.getElem?_cons_zero]
  refine f_loop (fun w vs H => ∃ (i : Nat) (o : C), vs = [.c c, .c o, i64 p.length, i64 i] ∧ w = p.length - i ∧ i ≤ p.length ∧ Out (elQ (k + 1)) T_num_Q 0 H o ((integ p).take (i + 1))) (by rfl) ⟨0, _, rfl, rfl, by omega, ?_⟩ ?_
  · exact .sl (Nat.zero_le _) (by rfl) (by simp [integ]) (by rfl) (.one (g1.up (by omega)))
  rintro w vs H ⟨i, o, rfl, rfl, h2, h3⟩
  have hli : (integ p).length = p.length + 1 := by simp [integ]
  refine go9 ?_
  cases hi : compare' Cm.lss (i : Int) (p.length : Int)
  case false =>
    simp [compare'] at hi
    have ei : i = p.length := by omega
    subst ei
    rw [List.take_of_length_le (by omega)] at h3
    refine go9 ?_
    exact PolyK.fzo h3 ⟨fun _ => rfl, by omega⟩
  simp [compare'] at hi
  refine go9 ?_
  refine ld_ls hc (i := i) hi (by omega) rfl (fun cs hcs => ?_)
  refine go9 ?_
  rw [addI1 i (by omega)]
  refine go9 ?_
  refine call_C (q_Int (g := ((i + 1 : Nat) : Int)) (by omega)) (fun u hu => ?_)
  obtain ⟨ds, rfl, g2⟩ := hu
  refine go9 ?_
  refine call_C (q_Div2 hcs g2 (by omega) (nat_ne i)) (fun u hu => ?_)
  obtain ⟨fs, rfl, g3⟩ := hu
  obtain ⟨y1, y2, y3, y4, y5, y6, rfl⟩ := id g3.six
  refine go9 ?_
  refine app_imm (F := []) (R := H ++ [.unb]) rfl h3.grow (by rfl) (by rfl) rfl g3 (by simp; omega) (fun R' o' h4 => ?_)
  refine go9 ?_
  have e : (integ p).take (i + 1) ++ [p[i] / (((i + 1 : Nat) : Int) : Rat)] = (integ p).take (i + 1 + 1) := by
    rw [take_add (l := integ p) (i := i + 1) (by omega)]
    congr 2
    simp [integ, hi]
  rw [e] at h4
  rw [addI1 i (by omega)]
  exact l_n (by rfl) (by omega) ⟨i + 1, o', rfl, rfl, by omega, h4⟩
end Go.Proofs.YtjncgcnofiaiaaaGreat

set_option linter.unusedVariables false
set_option linter.unusedSimpArgs false
namespace Go.Proofs.YtjncgcnofiaiaaaGreat
open Go.RowKit
set_option maxRecDepth 20000
def slope (xs ys : List Rat) (i : Nat) : Rat := (ys.getD (i + 1) 0 - ys.getD i 0) / (xs.getD (i + 1) 0 - xs.getD i 0)
def slopes (xs ys : List Rat) : List Rat := (List.range (xs.length - 1)).map (slope xs ys)
theorem slopes_len {xs ys : List Rat} : (slopes xs ys).length = xs.length - 1 := by simp [slopes]
theorem slopes_get {xs ys : List Rat} {i : Nat} (h : i < (slopes xs ys).length) : (slopes xs ys)[i] = slope xs ys i := by simp [slopes]
/-- A value of a line, of a step. -/
def lineP (xs ys : List Rat) (i : Nat) (x : Rat) : Rat := ys.getD i 0 + slope xs ys i * (x - xs.getD i 0)
structure PieceIs (f : Rat → Rat) (m : List Rat) : Prop where
  ev : ∀ x, ev m x = f x
  len : m.length ≤ 4
  top : Top m
theorem Rises.get {l : List Rat} (h : Rises l) {i : Nat} (hi : i + 1 < l.length) : l.getD i 0 < l.getD (i + 1) 0 := by
  rw [getD_lt hi, getD_lt (show i < l.length by omega)]
  exact h i hi
theorem sub_ne {a b : Rat} (h : a < b) : b - a ≠ 0 := fun e => by grind
/-- The first piece whose end lies above x. -/
def segR (xs : List Rat) (x : Rat) : Nat := xs.tail.findIdx (fun y => decide (x < y))
def valR (pc : Nat → Rat → Rat) (xs ys : List Rat) (x : Rat) : Rat := if x ≤ xs.getD 0 0 then ys.getD 0 0 else if xs.getD (xs.length - 1) 0 ≤ x then ys.getD (xs.length - 1) 0 else pc (segR xs x) x
theorem seg_eq {xs : List Rat} {x : Rat} {i : Nat} (hi : i + 1 < xs.length) (h : x < xs.getD (i + 1) 0) (hb : ∀ j, j < i → xs.getD (j + 1) 0 ≤ x) : segR xs x = i := by
  have hl : i < xs.tail.length := by simp; omega
  unfold segR
  rw [List.findIdx_eq hl]
  refine ⟨?_, fun j hj => ?_⟩
  · rw [getD_lt hi] at h
    simpa using h
  · have := hb j hj
    rw [getD_lt (show j + 1 < xs.length by omega)] at this
    simpa using Rat.not_lt.2 this
theorem val_lo {pc : Nat → Rat → Rat} {xs ys : List Rat} {x : Rat} (h : x ≤ xs.getD 0 0) : valR pc xs ys x = ys.getD 0 0 := by
  unfold valR
  rw [if_pos h]
theorem val_hi {pc : Nat → Rat → Rat} {xs ys : List Rat} {x : Rat} (h : ¬ x ≤ xs.getD 0 0) (h2 : xs.getD (xs.length - 1) 0 ≤ x) : valR pc xs ys x = ys.getD (xs.length - 1) 0 := by
  unfold valR
  rw [if_neg h, if_pos h2]
theorem val_in {pc : Nat → Rat → Rat} {xs ys : List Rat} {x : Rat} {i : Nat} (h : ¬ x ≤ xs.getD 0 0) (h2 : ¬ xs.getD (xs.length - 1) 0 ≤ x) (hi : i + 1 < xs.length) (h3 : x < xs.getD (i + 1) 0) (hb : ∀ j, j < i → xs.getD (j + 1) 0 ≤ x) : valR pc xs ys x = pc i x := by
  unfold valR
  rw [if_neg h, if_neg h2, seg_eq hi h3 hb]
noncomputable def numR (q : Rat) : R2 × Int := bif fitR (rp q) then (rp q, 0) else ((0, 0), 3)
def NumK (q : Rat) (u : V) : Prop := u = .tup [.agg (ratC (numR q).1), i64 (numR q).2]
theorem NumK.yes {q : Rat} {H : Hp} (h : fitR (rp q) = true) : ∃ e, FzV H (.tup [.agg (ratC (rp q)), i64 0]) e ∧ NumK q e := by
  refine ⟨_, .tup (.cons (.agg (.hf (HFL_rat _))) (.cons (.c (.hf trivial)) .nil)), ?_⟩
  unfold NumK numR
  rw [h]
  rfl
theorem NumK.no {q : Rat} {H : Hp} (h : fitR (rp q) = false) : ∃ e, FzV H (.tup [.agg [iC 0, iC 0], i64 3]) e ∧ NumK q e := by
  refine ⟨_, .tup (.cons (.agg (.hf (HFL_rat (0, 0)))) (.cons (.c (.hf trivial)) .nil)), ?_⟩
  unfold NumK numR
  rw [h]
  rfl
theorem top_two {k : Nat} {cs ds : List C} {a b : Rat} (h1 : IQ k cs a) (h2 : IQ k ds b) : Els (elQ k) (cs ++ ds) [a, b] := .cons h1 (.one h2)
theorem ev_two (a b x : Rat) : ev [a, b] x = a + b * x := by
  simp only [ev]
  grind
/-- A shape: its points, and what its pieces are. -/
structure Shape (s cx cy : C) (xs ys : List Rat) (K : Nat) (pc : Nat → Rat → Rat) : Prop where
  hf : HFC s
  x : Ls (elQ 2) cx xs
  y : Ls (elQ 2) cy ys
  len : ys.length = xs.length
  pos : 0 < xs.length
  small : xs.length ≤ 1024
  at_ : semC Tryz.prog n_table_at [.c s] (fun u => u = .agg [cx, cy])
  piece : ∀ i, i + 1 < xs.length → semC Tryz.prog n_table_piece [.c s, i64 i] (PolyK (elQ K) (PieceIs (pc i)))
attribute [local irreducible] compare' semH semC qLen qNil qIad qSlc qIdx ldBox ldCells stBox appX appI slcX awpF awpOpsF awpDF xopF xopDF qval lval seqQ blockQ loopQ bodyF retKF cnd arith IntKind.wrap
theorem table_hold_lines {k : Nat} {cx cy : C} {xs ys : List Rat} (hx : Ls (elQ k) cx xs) (hy : Ls (elQ k) cy ys) (hr : Rises xs) (hlen : ys.length = xs.length) (hl : xs.length < 1048576) (hk : 4 * k + 3 ≤ 134217728) : semC Tryz.prog n_table_hold_lines [.agg [cx, cy]] (LsK (elQ (4 * k + 2)) (slopes xs ys)) := by
  refine semC_of_awpF ok_table_hold_lines rfl (show HFVs [.agg [cx, cy]] from ⟨⟨hx.hf, hy.hf, trivial⟩, trivial⟩) ?_
  refine go9 ?_
  refine f_loop (fun w vs H => ∃ (i : Nat) (o : C) (R : Hp), vs = [.c (.ptr 0 0), .c o, i64 i] ∧ H = .live ⟨[cx, cy], T_table_hold, .rw⟩ :: R ∧ w = xs.length + 1 - i ∧ 1 ≤ i ∧ i ≤ xs.length + 1 ∧ Out (elQ (4 * k + 2)) T_num_Q 1 (.live ⟨[cx, cy], T_table_hold, .rw⟩ :: R) o ((slopes xs ys).take (i - 1))) (by rfl) ⟨1, _, _, rfl, rfl, rfl, by omega, by omega, .nil⟩ ?_
  rintro w vs H ⟨i, o, R, rfl, rfl, rfl, h1, h2, h3⟩
  refine go9 ?_
  cases hi : compare' Cm.lss (i : Int) (xs.length : Int)
  case false =>
    simp [compare'] at hi
    rw [List.take_of_length_le (by rw [slopes_len]; omega)] at h3
    refine go9 ?_
    exact h3.done
  simp [compare'] at hi
  have e1 : arith .sub .i64 (i : Int) 1 = ((i - 1 : Nat) : Int) := by rw [ar_sub, wrap_i64 (by omega) (by omega)]; omega
  refine go9 ?_
  refine ld_ls hy (i := i) (by omega) (by omega) rfl (fun av has => ?_)
  refine go9 ?_
  rw [e1]
  refine go9 ?_
  refine ld_ls hy (i := i - 1) (by omega) (by omega) rfl (fun bs hbs => ?_)
  refine go9 ?_
  refine ld_ls hx (i := i) (by omega) (by omega) rfl (fun cs hcs => ?_)
  refine go9 ?_
  rw [e1]
  refine go9 ?_
  refine ld_ls hx (i := i - 1) (by omega) (by omega) rfl (fun ds hds => ?_)
  have hne : xs[i] - xs[i - 1] ≠ 0 := by
    have := hr (i - 1) (by omega)
    simp only [show i - 1 + 1 = i by omega] at this
    exact sub_ne this
  refine go9 ?_
  refine call_C (q_Sub2 has hbs (by omega)) (fun u hu => ?_)
  obtain ⟨es, rfl, g1⟩ := hu
  refine go9 ?_
  refine call_C (q_Sub2 hcs hds (by omega)) (fun u hu => ?_)
  obtain ⟨fs, rfl, g2⟩ := hu
  refine go9 ?_
  refine call_C (q_Div2 g1 g2 (by omega) hne) (fun u hu => ?_)
  obtain ⟨gs, rfl, g3⟩ := hu
  have g3 := g3.up (show _ ≤ 4 * k + 2 by omega)
  obtain ⟨y1, y2, y3, y4, y5, y6, rfl⟩ := id g3.six
  refine go9 ?_
  refine app_imm (F := [.live ⟨[cx, cy], T_table_hold, .rw⟩]) (R := R ++ [.unb]) rfl (h3.grow (X := [.unb])) (by rfl) (by rfl) rfl g3 (by simp; omega) (fun R' o' h4 => ?_)
  refine go9 ?_
  have e : (slopes xs ys).take (i - 1) ++ [(ys[i] - ys[i - 1]) / (xs[i] - xs[i - 1])] = (slopes xs ys).take (i + 1 - 1) := by
    rw [show i + 1 - 1 = (i - 1) + 1 by omega, take_add (l := slopes xs ys) (i := i - 1) (by rw [slopes_len]; omega), slopes_get]
    unfold slope
    rw [show i - 1 + 1 = i by omega, getD_lt (l := ys) (i := i) (by omega), getD_lt (l := ys) (i := i - 1) (by omega), getD_lt (l := xs) (i := i) (by omega), getD_lt (l := xs) (i := i - 1) (by omega)]
  rw [e] at h4
  rw [addI1 i (by omega)]
  exact l_n (by rfl) (by omega) ⟨i + 1, o', R', rfl, rfl, rfl, by omega, by omega, h4⟩
theorem table_at_line {cx cy : C} (hx : HFC cx) (hy : HFC cy) : semC Tryz.prog n_table_at [.c (.ifaceA T_table_line [cx, cy])] (fun u => u = .agg [cx, cy]) := by
  refine semC_of_awpF ok_table_at rfl (show HFVs [.c (.ifaceA T_table_line [cx, cy])] from ⟨⟨hx, hy, trivial⟩, trivial⟩) ?_
  refine go5 ?_
  exact ⟨_, .agg (.hf ⟨hx, hy, trivial⟩), rfl⟩
theorem table_piece_line {cx cy : C} {xs ys : List Rat} {i : Nat} (hx : Ls (elQ 2) cx xs) (hy : Ls (elQ 2) cy ys) (hr : Rises xs) (hlen : ys.length = xs.length) (hl : xs.length ≤ 1024) (hi : i + 1 < xs.length) : semC Tryz.prog n_table_piece [.c (.ifaceA T_table_line [cx, cy]), i64 i] (PolyK (elQ 42) (PieceIs (lineP xs ys i))) := by
  refine semC_of_awpF ok_table_piece rfl (show HFVs [.c (.ifaceA T_table_line [cx, cy]), i64 i] from ⟨⟨hx.hf, hy.hf, trivial⟩, trivial, trivial⟩) ?_
  refine go8 ?_
  refine semH_of_semC (table_at_line hx.hf hy.hf) (fun u hu => ?_)
  obtain rfl := hu
  refine go8 ?_
  refine ld_ls hy (i := i) (by omega) (by omega) rfl (fun av has => ?_)
  obtain ⟨a1, a2, a3, a4, a5, a6, rfl⟩ := id has.six
  refine go8 ?_
  refine call_C (table_hold_lines hx hy hr hlen (by omega) (by decide)) (fun u hu => ?_)
  obtain ⟨cl, rfl, g1⟩ := hu
  have hsl : (slopes xs ys).length = xs.length - 1 := slopes_len
  refine go8 ?_
  refine ld_ls g1 (i := i) (by omega) (by omega) rfl (fun bs hbs => ?_)
  obtain ⟨b1, b2, b3, b4, b5, b6, rfl⟩ := id hbs.six
  rw [slopes_get] at hbs
  refine go8 ?_
  have g2 := Ls.imm (top_two (has.up (show 2 ≤ 10 by decide)) hbs)
  refine call_C (qp_Trim g2 (by simp)) (fun u hu => ?_)
  obtain ⟨cp, mp, rfl, g3, g4⟩ := hu
  refine go8 ?_
  refine ld_ls hx (i := i) (by omega) (by omega) rfl (fun cs hcs => ?_)
  refine go8 ?_
  refine semH_of_semC (q_Neg hcs (by decide)) (fun u hu => ?_)
  obtain ⟨ds, rfl, g5⟩ := hu
  obtain ⟨d1, d2, d3, d4, d5, d6, rfl⟩ := id g5.six
  refine go8 ?_
  refine semH_of_semC (q_Int (g := 1) (by decide)) (fun u hu => ?_)
  obtain ⟨es, rfl, g6⟩ := hu
  obtain ⟨e1, e2, e3, e4, e5, e6, rfl⟩ := id g6.six
  refine go8 ?_
  simp only [spanC, zeroC, ratC, zeroE, zeroS, List.set_cons_zero, List.set_cons_succ, List.nil_append, List.cons_append, List.append_nil, List.replicate_succ, List.replicate_zero, List.length_cons, List.length_nil, splice, List.take_succ_cons, List.take_zero, List.drop_succ_cons, List.drop_zero, List.take_nil, List.drop_nil, Nat.zero_add, Nat.reduceAdd, Nat.reduceMul, Int.reduceToNat, closeB, List.getElem?_cons_succ, List.getElem?_cons_zero]
  have g7 := top_two g5 (g6.up (show 1 ≤ 2 by decide))
  have l1 := g4.len
  simp only [List.length_cons, List.length_nil] at l1
  have hco : coK 10 2 mp.length ≤ 42 := Nat.le_trans (coK_mono l1) (by decide)
  refine semH_of_semC (qp_Compose g3 (.imm g7) (by omega) (by simp) (by omega)) (fun u hu => ?_)
  obtain ⟨cr, mr, rfl, g8, g9⟩ := hu
  refine go8 ?_
  refine PolyK.fz (g8.up hco) ⟨fun x => ?_, by have := g9.len; omega, g9.top⟩
  rw [g9.ev, g4.ev, ev_two, ev_two]
  unfold lineP
  rw [getD_lt (l := ys) (i := i) (by omega), getD_lt (l := xs) (i := i) (by omega)]
  grind
theorem table_value {s cx cy : C} {xs ys : List Rat} {K k : Nat} {pc : Nat → Rat → Rat} {cs : List C} {x : Rat} (h : Shape s cx cy xs ys K pc) (hc : IQ k cs x) (hK : evK K k 4 ≤ 134217728) : semC Tryz.prog n_table_value [.c s, .agg cs] (QV (evK K k 4) (valR pc xs ys x)) := by
  refine semC_of_awpF ok_table_value rfl (show HFVs [.c s, .agg cs] from ⟨h.hf, hc.hf, trivial⟩) ?_
  obtain ⟨a, b, c1, d, e, f, rfl⟩ := id hc.six
  have hx := h.x
  have hy := h.y
  have hlen := h.len
  have hpos := h.pos
  have hsm := h.small
  have hkk : k + 2 ≤ 268435456 := by
    unfold evK at hK
    omega
  have h2k : 2 ≤ evK K k 4 := by
    unfold evK
    omega
  refine go5 ?_
  refine semH_of_semC h.at_ (fun u hu => ?_)
  obtain rfl := hu
  refine go5 ?_
  refine ld_ls hx (i := 0) hpos (by omega) rfl (fun ds hds => ?_)
  refine go5 ?_
  refine call_C (q_Cmp2 hc hds hkk) (fun u hu => ?_)
  obtain rfl := hu
  refine go5 ?_
  rw [cq_leq]
  cases h1 : dec (x ≤ xs[0])
  case true =>
    have h1 := dec_true.1 h1
    rw [← getD_lt hpos] at h1
    refine go5 ?_
    refine ld_ls hy (i := 0) (by omega) (by omega) rfl (fun es hes => ?_)
    obtain ⟨_, _, _, _, _, _, rfl⟩ := id hes.six
    refine go5 ?_
    refine QV.fz (IQ.up ?_ h2k)
    rw [val_lo h1, getD_lt (l := ys) (i := 0) (by omega)]
    exact hes
  have h1 := dec_false.1 h1
  rw [← getD_lt hpos] at h1
  refine go5 ?_
  have e1 : arith .sub .i64 (xs.length : Int) 1 = ((xs.length - 1 : Nat) : Int) := by rw [ar_sub, wrap_i64 (by omega) (by omega)]; omega
  rw [e1]
  refine go5 ?_
  refine ld_ls hx (i := xs.length - 1) (by omega) (by omega) rfl (fun es hes => ?_)
  refine go5 ?_
  refine call_C (q_Cmp2 hc hes hkk) (fun u hu => ?_)
  obtain rfl := hu
  refine go5 ?_
  rw [cq_geq]
  cases h2 : dec (xs[xs.length - 1] ≤ x)
  case true =>
    have h2 := dec_true.1 h2
    rw [← getD_lt (l := xs) (i := xs.length - 1) (by omega)] at h2
    refine go5 ?_
    rw [e1]
    refine go5 ?_
    refine ld_ls hy (i := xs.length - 1) (by omega) (by omega) rfl (fun es hes => ?_)
    obtain ⟨_, _, _, _, _, _, rfl⟩ := id hes.six
    refine go5 ?_
    refine QV.fz (IQ.up ?_ h2k)
    rw [val_hi h1 h2, getD_lt (l := ys) (i := xs.length - 1) (by omega)]
    exact hes
  have h2 := dec_false.1 h2
  rw [← getD_lt (l := xs) (i := xs.length - 1) (by omega)] at h2
  refine go5 ?_
  refine f_loop (fun w vs H => ∃ (i : Nat), vs = [.c s, .c (.ptr 0 0), .c (.ptr 1 0), .c (.ptr 2 0), i64 i] ∧ H = [.live ⟨[a, b, c1, d, e, f], T_num_Q, .rw⟩, .live ⟨zeroQ, T_num_Q, .rw⟩, .live ⟨[cx, cy], T_table_hold, .rw⟩] ∧ w = xs.length - i ∧ i + 1 < xs.length ∧ ∀ j, j < i → xs.getD (j + 1) 0 ≤ x) (by rfl) ⟨0, rfl, rfl, rfl, ?_, fun j hj => by omega⟩ ?_
  · rcases Nat.lt_or_ge 1 xs.length with h3 | h3
    · omega
    · have : xs.length - 1 = 0 := by omega
      rw [this] at h2
      grind
  rintro w vs H ⟨i, rfl, rfl, rfl, h3, h4⟩
  refine go5 ?_
  rw [addI1 i (by omega)]
  refine go5 ?_
  refine ld_ls hx (i := i + 1) h3 (by omega) rfl (fun fs hfs => ?_)
  refine go5 ?_
  refine call_C (q_Cmp2 hfs hc (by omega)) (fun u hu => ?_)
  obtain rfl := hu
  refine go5 ?_
  rw [cq_leq]
  cases h5 : dec (xs[i + 1] ≤ x)
  case true =>
    have h5 := dec_true.1 h5
    rw [← getD_lt (l := xs) (i := i + 1) (by omega)] at h5
    refine go5 ?_
    rw [addI1 i (by omega)]
    refine l_n (by rfl) (n' := xs.length - (i + 1)) (by omega) ⟨i + 1, rfl, rfl, rfl, ?_, fun j hj => ?_⟩
    · rcases Nat.lt_or_ge (i + 1 + 1) xs.length with h6 | h6
      · exact h6
      · have : xs.length - 1 = i + 1 := by omega
        rw [this] at h2
        exact absurd h5 h2
    · rcases Nat.lt_or_ge j i with h6 | h6
      · exact h4 j h6
      · have : j = i := by omega
        subst this
        exact h5
  have h5 := dec_false.1 h5
  rw [← getD_lt (l := xs) (i := i + 1) (by omega)] at h5
  refine go5 ?_
  refine call_C (h.piece i h3) (fun u hu => ?_)
  obtain ⟨cp, mp, rfl, g1, g2⟩ := hu
  have l1 := g2.len
  have hE := Nat.le_trans (evK_mono (k := K) (m := k) l1) hK
  refine go5 ?_
  refine call_C (qp_Eval g1 hc (by omega) hE) (fun u hu => ?_)
  obtain ⟨es, rfl, g3⟩ := hu
  obtain ⟨_, _, _, _, _, _, rfl⟩ := id g3.six
  refine go5 ?_
  refine QV.fz (IQ.up ?_ (evK_mono l1))
  rw [val_in h1 h2 h3 (Rat.not_le.1 h5) h4, ← g2.ev]
  exact g3
theorem table_number {k : Nat} {cs : List C} {q : Rat} (hc : IQ k cs q) : semC Tryz.prog n_table_number [.agg cs] (NumK q) := by
  refine semC_of_awpF ok_table_number rfl (show HFVs [.agg cs] from ⟨hc.hf, trivial⟩) ?_
  obtain ⟨a, b, c1, d, e, f, rfl⟩ := id hc.six
  refine go5 ?_
  refine semH_of_semC (num_Q_Out hc.is (rp_pos q)) (fun u hu => ?_)
  obtain rfl := hu
  unfold outV
  cases h : fitR (rp q)
  · refine go5 ?_
    exact NumK.no h
  · refine go5 ?_
    exact NumK.yes h
end Go.Proofs.YtjncgcnofiaiaaaGreat

set_option linter.unusedVariables false
set_option linter.unusedSimpArgs false
namespace Go.Proofs.YtjncgcnofiaiaaaGreat
open Go.RowKit
/-- What is left of a polynomial, a root taken out. -/
def dq : List Rat → Rat → List Rat
  | [], _ => []
  | [_], _ => []
  | _ :: b :: t, r => ev (b :: t) r :: dq (b :: t) r
theorem dq_ev : ∀ (l : List Rat) (r x : Rat), ev l x - ev l r = (x - r) * ev (dq l r) x
  | [], r, x => by
    simp only [dq, ev]
    grind
  | [a], r, x => by
    simp only [dq, ev]
    grind
  | a :: b :: t, r, x => by
    have ih := dq_ev (b :: t) r x
    rw [show ev (a :: b :: t) x = a + x * ev (b :: t) x from rfl, show ev (a :: b :: t) r = a + r * ev (b :: t) r from rfl, show ev (dq (a :: b :: t) r) x = ev (b :: t) r + x * ev (dq (b :: t) r) x from rfl]
    generalize ev (b :: t) x = y at *
    generalize ev (b :: t) r = z at *
    generalize ev (dq (b :: t) r) x = w at *
    grind
theorem dq_len : ∀ (l : List Rat) (r : Rat), (dq l r).length = l.length - 1
  | [], r => rfl
  | [a], r => rfl
  | a :: b :: t, r => by
    have := dq_len (b :: t) r
    simp only [dq, List.length_cons] at *
    omega
theorem dq_all0 : ∀ (l : List Rat) (r : Rat), (∀ a ∈ dq l r, a = 0) → ev l r = 0 → ∀ a ∈ l, a = 0
  | [], r, _, _ => fun a h => by cases h
  | [b], r, _, h => fun a ha => by
    simp at ha
    subst ha
    rw [ev_one] at h
    exact h
  | b :: c :: t, r, h, h2 => by
    have h3 : ev (c :: t) r = 0 := h _ (by simp [dq])
    have h4 := dq_all0 (c :: t) r (fun a ha => h a (by simp [dq, ha])) h3
    intro a ha
    rcases List.mem_cons.1 ha with rfl | ha
    · rw [show ev (a :: c :: t) r = a + r * ev (c :: t) r from rfl, h3] at h2
      grind
    · exact h4 a ha
theorem cast_ne {a b : Nat} (h : a < b) : ((b : Int) : Rat) - ((a : Int) : Rat) ≠ 0 := by
  intro e
  have h2 : ((b : Int) : Rat) = ((a : Int) : Rat) := by grind
  have := Rat.intCast_inj.1 h2
  omega
theorem ev_roots : ∀ (n : Nat) (l : List Rat) (c : Nat), l.length ≤ n → (∀ k : Nat, c ≤ k → ev l ((k : Int) : Rat) = 0) → ∀ a ∈ l, a = 0
  | 0, l, c, h, _ => by
    have : l = [] := List.eq_nil_of_length_eq_zero (by omega)
    subst this
    intro a ha
    cases ha
  | n + 1, l, c, h, hz => by
    refine dq_all0 l ((c : Int) : Rat) ?_ (hz c (Nat.le_refl _))
    refine ev_roots n _ (c + 1) (by rw [dq_len]; omega) (fun k hk => ?_)
    have h1 := dq_ev l ((c : Int) : Rat) ((k : Int) : Rat)
    rw [hz k (by omega), hz c (Nat.le_refl _)] at h1
    have h2 := cast_ne (a := c) (b := k) (by omega)
    generalize ev (dq l ((c : Int) : Rat)) ((k : Int) : Rat) = y at *
    generalize ((k : Int) : Rat) - ((c : Int) : Rat) = z at *
    have h3 : z * y = 0 := by grind
    rcases Rat.mul_eq_zero.1 h3 with h4 | h4
    · exact absurd h4 h2
    · exact h4
theorem ev_zero {l : List Rat} (h : ∀ x, ev l x = 0) : ∀ a ∈ l, a = 0 := ev_roots l.length l 0 (Nat.le_refl _) (fun k _ => h _)
theorem zero_nil {l : List Rat} (ht : Top l) (h : ∀ x, ev l x = 0) : l = [] := by
  rcases Nat.eq_zero_or_pos l.length with h0 | h0
  · exact List.eq_nil_of_length_eq_zero h0
  · exact absurd (ev_zero h _ (List.getElem_mem _)) (ht h0)
theorem ev_range_sub (f g : Nat → Rat) (x : Rat) : ∀ n, ev ((List.range n).map fun j => f j - g j) x = ev ((List.range n).map f) x - ev ((List.range n).map g) x
  | 0 => by simp only [List.range_zero, List.map_nil, ev]; grind
  | n + 1 => by
    have e : ∀ h : Nat → Rat, (List.range (n + 1)).map h = (List.range n).map h ++ [h n] := fun h => by rw [List.range_succ, List.map_append]; rfl
    rw [e, e, e, ev_append, ev_append, ev_append, ev_range_sub f g x n, ev_one, ev_one, ev_one]
    simp only [List.length_map, List.length_range]
    grind
theorem getD_range {l : List Rat} {n : Nat} (h : l.length ≤ n) : (List.range n).map (l.getD · 0) = l ++ List.replicate (n - l.length) 0 := by
  apply List.ext_getElem
  · simp; omega
  · intro i h1 h2
    simp only [List.getElem_map, List.getElem_range]
    by_cases hi : i < l.length
    · rw [List.getElem_append_left hi]
      simp [hi]
    · rw [List.getElem_append_right (by omega), List.getElem_replicate]
      simp [hi]
theorem ev_getD_range {l : List Rat} {n : Nat} (h : l.length ≤ n) (x : Rat) : ev ((List.range n).map (l.getD · 0)) x = ev l x := by
  rw [getD_range h, ev_append, ev_zeros]
  grind
theorem coef_eq {l m : List Rat} (h : ∀ x, ev l x = ev m x) (j : Nat) : l.getD j 0 = m.getD j 0 := by
  have h1 : ∀ x, ev ((List.range (l.length + m.length + j + 1)).map fun j => l.getD j 0 - m.getD j 0) x = 0 := fun x => by
    rw [ev_range_sub (l.getD · 0) (m.getD · 0), ev_getD_range (by omega), ev_getD_range (by omega), h x]
    grind
  have h2 := ev_zero h1 (l.getD j 0 - m.getD j 0) (List.mem_map.2 ⟨j, List.mem_range.2 (by omega), rfl⟩)
  grind
end Go.Proofs.YtjncgcnofiaiaaaGreat

set_option linter.unusedVariables false
set_option linter.unusedSimpArgs false
namespace Go.Proofs.YtjncgcnofiaiaaaGreat
open Go.RowKit
set_option maxRecDepth 20000
theorem zeroRQ_is : IR 1 zeroRQ 0 := by
  have e : rp (0 : Rat) = (0, 1) := rp_int 0
  refine ⟨?_, ?_⟩
  · rw [e]
    exact IsRQ.mk (n := [.nilSl, .bool false]) (d := [.nilSl, .bool false]) rw_zero rw_zero
  · rw [e]
    exact one_bd (k := 0) (n := 0) (by decide)
section
variable {α : Type} {E : El α}
/-- A list is copied. -/
theorem app_copyE {H : Hp} {el : TypeId} {es bytes : Nat} {s x : Option V} {c : C} {L : List α} {K : V → Hp → Prop} (hs : s = some (.c .nilSl)) (hx : x = some (.c c)) (hc : Ls E c L) (he : E.s = es) (hz : L.length * bytes ≤ 140737488355328 ∧ L.length ≤ 140737488355328)
    (k : ∀ H' c', Out E el 0 H' c' L → K (.c c') H') : appX H el es bytes s x K := by
  subst hs hx he
  cases hc with
  | nil =>
    simp only [appX, slCells, slLen]
    exact chk_intro (by simp) (cnd_true rfl (k _ _ .nil))
  | @imm ds l h =>
    have hl := h.len
    have hxs : slCells H E.s (.imm L.length ds) = some ds := by
      simp only [slCells]
      rw [List.take_of_length_le (by omega)]
    simp only [appX, hxs, slLen]
    refine chk_intro (by simp [hl]) ?_
    rcases Nat.eq_zero_or_pos L.length with h0 | h0
    · have : L = [] := List.eq_nil_of_length_eq_zero h0
      subst this
      exact cnd_true rfl (k _ _ .nil)
    · refine cnd_false (by cases hL : L.length; omega; rfl) (chk_intro (by simp only [Bool.and_eq_true, dec_true]; exact hz) (k _ _ ?_))
      exact .sl (cells := ds) (by omega) (last_live _ _) rfl (by rw [List.take_of_length_le (by omega)]) h
end
structure IsScale (x : Rat) (p m : List Rat) : Prop where
  ev : ∀ y, ev m y = ev p y * x
  len : m.length ≤ p.length
  top : Top m
theorem ev_scale (x y : Rat) : ∀ l, ev (l.map (· * x)) y = ev l y * x
  | [] => by
    simp only [List.map_nil, ev]
    grind
  | a :: l => by
    simp only [List.map_cons, ev, ev_scale x y l]
    grind
/-- The sizes of a value under way. -/
def vaK (k m : Nat) : Nat → Nat
  | 0 => 1
  | n + 1 => vaK k m n + (k + (n * m + 1)) + 1
theorem vaK_mono {k m i n : Nat} (h : i ≤ n) : vaK k m i ≤ vaK k m n := by
  induction h with
  | refl => exact Nat.le_refl _
  | step _ ih =>
    simp only [vaK]
    omega
theorem pow_succ' (x : Rat) (i : Nat) : x ^ (i + 1) = x ^ i * x := Rat.pow_succ x i
attribute [local irreducible] compare' semH semC qLen qNil qIad qSlc qIdx ldBox ldCells stBox appX appI slcX awpF awpOpsF awpDF xopF xopDF qval lval seqQ blockQ loopQ bodyF retKF cnd arith IntKind.wrap
theorem ref02_Trim {k : Nat} {c : C} {l : List Rat} (hc : Ls (elR k) c l) (hl : l.length < 1048576) : semC Tryz.prog n_ref02_Trim [.c c] (PolyK (elR k) (Cut l)) := by
  refine semC_of_awpF ok_ref02_Trim rfl (show HFVs [.c c] from ⟨hc.hf, trivial⟩) ?_
  refine go6 ?_
  refine f_loop (fun w vs H => ∃ (n : Nat), vs = [.c c, i64 n] ∧ w = n ∧ n ≤ l.length ∧ ∀ x, ev (l.take n) x = ev l x) (by rfl) ⟨l.length, rfl, rfl, Nat.le_refl _, fun x => by rw [List.take_length]⟩ ?_
  rintro w vs H ⟨n, rfl, rfl, h1, h2⟩
  refine go6 ?_
  cases hq : compare' Cm.gtr (w : Int) 0
  · simp [compare'] at hq
    have hn : w = 0 := by omega
    subst hn
    refine go6 ?_
    refine slc_ls (l := l) (b := ((0 : Nat) : Int)) (by rfl) hc rfl (by rfl) (by rfl) (by omega) (by omega) (by omega) (fun c' hc' => ?_)
    have e2 : (l.drop (0 : Int).toNat).take (((0 : Nat) : Int).toNat - (0 : Int).toNat) = l.take 0 := by simp
    rw [e2] at hc'
    refine go6 ?_
    refine app_copyE (by rfl) (by rfl) hc' rfl (by simp) (fun H' c2 h3 => ?_)
    refine go6 ?_
    exact PolyK.fzo h3 ⟨h2, by simp, fun h => absurd h (by simp)⟩
  · simp [compare'] at hq
    have e1 : arith .sub .i64 (w : Int) 1 = ((w - 1 : Nat) : Int) := by rw [ar_sub, wrap_i64 (by omega) (by omega)]; omega
    refine go6 ?_
    rw [e1]
    refine go6 ?_
    refine ld_ls hc (i := w - 1) (by omega) (by omega) rfl (fun cs hcs => ?_)
    refine go6 ?_
    refine semH_of_semC (ref01_Q_IsZero hcs) (fun u hu => ?_)
    obtain ⟨z, rfl, hz⟩ := hu
    cases z
    · refine go6 ?_
      refine slc_ls (l := l) (b := (w : Int)) (by rfl) hc rfl (by rfl) (by rfl) (by omega) (by omega) (by omega) (fun c' hc' => ?_)
      have e2 : (l.drop (0 : Int).toNat).take ((w : Int).toNat - (0 : Int).toNat) = l.take w := by simp
      rw [e2] at hc'
      have hlw : (l.take w).length = w := by simp; omega
      refine go6 ?_
      refine app_copyE (by rfl) (by rfl) hc' rfl (by rw [hlw]; omega) (fun H' c2 h3 => ?_)
      refine go6 ?_
      refine PolyK.fzo h3 ⟨h2, by omega, fun h e => ?_⟩
      simp only [hlw, List.getElem_take] at e
      exact absurd (hz.2 e) (by decide)
    · have hz := hz.1 rfl
      refine go6 ?_
      rw [e1]
      refine l_n (by rfl) (n' := w - 1) (by omega) ⟨w - 1, rfl, rfl, by omega, fun x => ?_⟩
      have h3 := ev_take (l := l) (i := w - 1) (by omega) x
      rw [hz, show w - 1 + 1 = w by omega] at h3
      rw [← h2 x, h3]
      grind
theorem ref02_At {k : Nat} {c : C} {l : List Rat} (i : Nat) (hc : Ls (elR k) c l) (hl : l.length < 1048576) (hi : i < 1048576) (hk : 1 ≤ k) : semC Tryz.prog n_ref02_Poly_At [.c c, i64 i] (RQV k (l.getD i 0)) := by
  refine semC_of_awpF ok_ref02_Poly_At rfl (show HFVs [.c c, i64 i] from ⟨hc.hf, trivial, trivial⟩) ?_
  refine go5 ?_
  cases h0 : compare' Cm.lss (i : Int) 0
  case true =>
    simp [compare'] at h0
    omega
  refine go5 ?_
  cases h1 : compare' Cm.geq (i : Int) (l.length : Int)
  · simp [compare'] at h1
    refine go5 ?_
    refine ld_ls hc (i := i) h1 (by omega) rfl (fun cs hcs => ?_)
    obtain ⟨_, _, _, _, rfl⟩ := id hcs.four
    refine go5 ?_
    refine RQV.fz ?_
    rw [getD_lt h1]
    exact hcs
  · simp [compare'] at h1
    refine go5 ?_
    refine RQV.fz (IR.up (k := 1) ?_ hk)
    rw [getD_ge h1]
    exact zeroRQ_is
theorem ref02_Plus {k m : Nat} {c d : C} {p q : List Rat} (hc : Ls (elR k) c p) (hd : Ls (elR m) d q) (hp : p.length < 524288) (hq : q.length < 524288) (h0 : 1 ≤ k) (h1 : 1 ≤ m) (hk : k + m + 1 ≤ 134217728) : semC Tryz.prog n_ref02_Poly_Plus [.c c, .c d] (PolyK (elR (k + m + 1)) (IsSum p q)) := by
  refine semC_of_awpF ok_ref02_Poly_Plus rfl (show HFVs [.c c, .c d] from ⟨hc.hf, hd.hf, trivial⟩) ?_
  refine go5 ?_
  rw [show (if ((q.length : Nat) : Int) > (p.length : Nat) then ((q.length : Nat) : Int) else (p.length : Nat)) = ((max p.length q.length : Nat) : Int) by split <;> omega]
  generalize hn : max p.length q.length = n
  have hnp : p.length ≤ n := by omega
  have hnq : q.length ≤ n := by omega
  refine x_mkSl (by rfl) (by rfl) ⟨by omega, by omega, by omega, by omega⟩ ?_
  refine go5 ?_
  refine f_loop (fun w vs H => ∃ (i : Nat) (cells : List C), vs = [.c c, .c d, .c (.sl 0 0 n (some n) 4), i64 i] ∧ H = [.live ⟨cells, T_isoclineref01_Q, .rw⟩] ∧ w = n - i ∧ i ≤ n ∧ Fill (elR (k + m + 1)) zeroRQ n cells ((List.range i).map (sumC p q))) (by rfl) ⟨0, _, rfl, rfl, rfl, by omega, .zero rfl⟩ ?_
  rintro w vs H ⟨i, cells, rfl, rfl, rfl, h2, h3⟩
  have hlen : cells.length = n * 4 := h3.len
  have htl : ((List.range i).map (sumC p q)).length = i := by simp
  refine go5 ?_
  cases hi : compare' Cm.lss (i : Int) (n : Int)
  case false =>
    simp [compare'] at hi
    have ei : i = n := by omega
    subst ei
    have h4 := h3.done htl
    have h5 := Ls.imm h4
    rw [htl] at h5
    refine go5 ?_
    refine semH_of_semC_close [0] (.cons (.c (fz_sl (ds := cells) (by rfl) (by rfl) (by simp) (by rw [List.drop_zero, List.take_of_length_le (by simp only; omega)]) h4.hf)) .nil) (ref02_Trim h5 (by simp; omega)) (fun u hu => ?_)
    obtain ⟨c', r, rfl, h6, h7⟩ := hu
    refine go5 ?_
    exact PolyK.fz h6 ⟨fun x => by rw [h7.ev, ev_sumC hnp hnq], by have := h7.len; simp at this; omega, h7.top⟩
  simp [compare'] at hi
  refine go5 ?_
  refine semH_of_semC (ref02_At i hc (by omega) (by omega) h0) (fun u hu => ?_)
  obtain ⟨av, rfl, g1⟩ := hu
  refine go5 ?_
  refine semH_of_semC (ref02_At i hd (by omega) (by omega) h1) (fun u hu => ?_)
  obtain ⟨bs, rfl, g2⟩ := hu
  refine go5 ?_
  refine semH_of_semC (r_Add2 g1 g2 hk) (fun u hu => ?_)
  obtain ⟨cs, rfl, g3⟩ := hu
  have h8 := h3.put (by rw [htl]; omega) (show (elR (k + m + 1)).p cs (sumC p q i) from g3)
  rw [htl, ← range_map_succ] at h8
  obtain ⟨y1, y2, y3, y4, rfl⟩ := id g3.four
  refine go5 ?_
  rw [addI1 i (by omega)]
  exact l_n (by rfl) (by omega) ⟨i + 1, _, rfl, rfl, rfl, by omega, by rw [show 0 + ((i : Nat) : Int).toNat * 4 = i * 4 by omega]; exact h8⟩
theorem ref02_Times {k m : Nat} {c d : C} {p q : List Rat} (hc : Ls (elR k) c p) (hd : Ls (elR m) d q) (hp : p.length < 524288) (hq : q.length < 524288) (hk : evK k m (p.length * q.length) ≤ 134217727) : semC Tryz.prog n_ref02_Poly_Times [.c c, .c d] (PolyK (elR (evK k m (p.length * q.length))) (IsProd p q)) := by
  refine semC_of_awpF ok_ref02_Poly_Times rfl (show HFVs [.c c, .c d] from ⟨hc.hf, hd.hf, trivial⟩) ?_
  refine go5 ?_
  have e0 : arith .sub .i64 (arith .add .i64 (p.length : Int) (q.length : Int)) 1 = (p.length : Int) + q.length - 1 := by rw [addII (by omega), ar_sub, wrap_i64 (by omega) (by omega)]; omega
  rw [e0]
  generalize hn : p.length + q.length - 1 = n
  rw [show (if (p.length : Int) + q.length - 1 > 0 then (p.length : Int) + q.length - 1 else 0) = (n : Int) by split <;> omega]
  refine x_mkSl (by rfl) (by rfl) ⟨by omega, by omega, by omega, by omega⟩ ?_
  refine go5 ?_
  refine f_loop (fun w vs H => ∃ (j : Nat) (cells : List C) (L : List Rat), vs = [.c c, .c d, .c (.sl 0 0 n (some n) 4), i64 j] ∧ H = [.live ⟨cells, T_isoclineref01_Q, .rw⟩] ∧ w = p.length - j ∧ j ≤ p.length ∧ L.length = n ∧ Els (elR (evK k m (j * q.length))) cells L ∧ Row p q j 0 L) (by rfl) ⟨0, _, _, rfl, rfl, rfl, by omega, List.length_replicate, (Els.rep (E := elR 1) zeroRQ_is n).up' (by unfold evK; omega), .first⟩ ?_
  rintro w vs H ⟨j, cells, L, rfl, rfl, rfl, h3, h4, h5, h6⟩
  refine go5 ?_
  cases hj : compare' Cm.lss (j : Int) (p.length : Int)
  case false =>
    simp [compare'] at hj
    have ej : j = p.length := by omega
    subst ej
    have h7 := Ls.imm h5
    have hlen := h5.len
    rw [h4] at h7
    refine go5 ?_
    refine semH_of_semC_close [0] (.cons (.c (fz_sl (ds := cells) (by rfl) (by rfl) (by simp) (by rw [List.drop_zero, List.take_of_length_le (by simp only; rw [hlen, h4]; exact Nat.le_refl _)]) h5.hf)) .nil) (ref02_Trim h7 (by omega)) (fun u hu => ?_)
    obtain ⟨c', r, rfl, h8, h9⟩ := hu
    refine go5 ?_
    refine PolyK.fz h8 ⟨fun x => by rw [h9.ev, h6.done], by have := h9.len; omega, fun h => ?_, h9.top⟩
    refine zero_nil h9.top (fun x => ?_)
    rw [h9.ev, h6.done]
    rcases h with rfl | rfl <;> simp only [ev] <;> grind
  simp [compare'] at hj
  refine go5 ?_
  refine f_loop (fun w vs H => ∃ (o : Nat) (cells : List C) (L : List Rat), vs = [.c c, .c d, .c (.sl 0 0 n (some n) 4), i64 j, i64 o] ∧ H = [.live ⟨cells, T_isoclineref01_Q, .rw⟩] ∧ w = q.length - o ∧ o ≤ q.length ∧ L.length = n ∧ Els (elR (evK k m (j * q.length + o))) cells L ∧ Row p q j o L) (by rfl) ⟨0, cells, L, rfl, rfl, rfl, by omega, h4, h5, h6⟩ ?_
  clear h4 h5 h6 L cells
  rintro w vs H ⟨o, cells, L, rfl, rfl, rfl, h4, h5, h6, h7⟩
  have hlen : cells.length = n * 4 := by rw [h6.len, h5]; rfl
  refine go5 ?_
  cases ho : compare' Cm.lss (o : Int) (q.length : Int)
  case false =>
    simp [compare'] at ho
    have eo : o = q.length := by omega
    subst eo
    refine go5 ?_
    rw [addI1 j (by omega)]
    exact l_n (by rfl) (by omega) ⟨j + 1, cells, L, rfl, rfl, rfl, by omega, h5, by rw [Nat.succ_mul]; exact h6, h7.next hj⟩
  simp [compare'] at ho
  have hjo : j + o < L.length := by omega
  have hle : j * q.length + o + 1 ≤ p.length * q.length := by
    have := Nat.mul_le_mul_right q.length (show j + 1 ≤ p.length by omega)
    rw [Nat.succ_mul] at this
    omega
  have hke := Nat.le_trans (evK_mono (k := k) (m := m) hle) hk
  rw [evK_succ] at hke
  have eo : evK k m (j * q.length + (o + 1)) = evK k m (j * q.length + o) + (k + m + 1) := evK_succ k m (j * q.length + o)
  refine go5 ?_
  rw [addII (show j + o < 9223372036854775808 by omega)]
  refine go5 ?_
  refine ld_boxE (by rfl) h6 hjo (by show _ = (j + o) * 4; omega) rfl (fun cs hcs => ?_)
  refine go5 ?_
  refine ld_ls hc (i := j) hj (by omega) rfl (fun ds hds => ?_)
  refine go5 ?_
  refine ld_ls hd (i := o) ho (by omega) rfl (fun es hes => ?_)
  refine go5 ?_
  refine call_C (r_Mul2 hds hes (by omega)) (fun u hu => ?_)
  obtain ⟨fs, rfl, g1⟩ := hu
  refine go5 ?_
  refine call_C (r_Add2 hcs g1 (by omega)) (fun u hu => ?_)
  obtain ⟨gs, rfl, g2⟩ := hu
  obtain ⟨y1, y2, y3, y4, rfl⟩ := id g2.four
  refine go5 ?_
  rw [addI1 o (by omega)]
  have g3 : IR (evK k m (j * q.length + (o + 1))) _ _ := g2.up (by rw [eo]; omega)
  exact l_n (by rfl) (by omega) ⟨o + 1, _, _, rfl, rfl, rfl, by omega, by rw [List.length_set]; exact h5, by
    rw [show 0 + ((j + o : Nat) : Int).toNat * 4 = (j + o) * 4 by omega]
    exact (h6.up' (by rw [eo]; omega)).set hjo g3, h7.step hj ho hjo⟩
theorem ref02_Scale {k m : Nat} {c : C} {xs : List C} {p : List Rat} {x : Rat} (hc : Ls (elR k) c p) (hx : IR m xs x) (hp : p.length < 524288) (hk : k + m ≤ 134217727) : semC Tryz.prog n_ref02_Poly_Scale [.c c, .agg xs] (PolyK (elR (k + m)) (IsScale x p)) := by
  refine semC_of_awpF ok_ref02_Poly_Scale rfl (show HFVs [.c c, .agg xs] from ⟨hc.hf, hx.hf, trivial⟩) ?_
  obtain ⟨a, b, c1, d, rfl⟩ := id hx.four
  refine go5 ?_
  refine x_mkSl (by rfl) (by rfl) ⟨by omega, by omega, by omega, by omega⟩ ?_
  refine go5 ?_
  refine f_loop (fun w vs H => ∃ (i : Nat) (cells : List C), vs = [.c c, .c (.ptr 0 0), .c (.sl 1 0 p.length (some p.length) 4), i64 i] ∧ H = [.live ⟨[a, .bool b, c1, .bool d], T_isoclineref01_Q, .rw⟩, .live ⟨cells, T_isoclineref01_Q, .rw⟩] ∧ w = p.length - i ∧ i ≤ p.length ∧ Fill (elR (k + m)) zeroRQ p.length cells ((p.take i).map (· * x))) (by rfl) ⟨0, _, rfl, rfl, rfl, by omega, .zero rfl⟩ ?_
  rintro w vs H ⟨i, cells, rfl, rfl, rfl, h2, h3⟩
  have hlen : cells.length = p.length * 4 := h3.len
  refine go5 ?_
  cases hi : compare' Cm.lss (i : Int) (p.length : Int)
  case false =>
    simp [compare'] at hi
    have ei : i = p.length := by omega
    subst ei
    rw [List.take_length] at h3
    have h4 := h3.done (by simp)
    have h5 := Ls.imm h4
    rw [List.length_map] at h5
    refine go5 ?_
    refine semH_of_semC_close [1] (.cons (.c (fz_sl (ds := cells) (by rfl) (by rfl) (by simp) (by rw [List.drop_zero, List.take_of_length_le (by simp only; omega)]) h4.hf)) .nil) (ref02_Trim h5 (by simp; omega)) (fun u hu => ?_)
    obtain ⟨c', r, rfl, h6, h7⟩ := hu
    refine go5 ?_
    exact PolyK.fz h6 ⟨fun y => by rw [h7.ev, ev_scale], by have := h7.len; simpa using this, h7.top⟩
  simp [compare'] at hi
  have htl : ((p.take i).map (· * x)).length = i := by simp; omega
  refine go5 ?_
  refine ld_ls hc (i := i) hi (by omega) rfl (fun cs hcs => ?_)
  refine go5 ?_
  refine call_C (r_Mul2 hcs hx hk) (fun u hu => ?_)
  obtain ⟨es, rfl, g3⟩ := hu
  have h8 := h3.put (by rw [htl]; omega) (show (elR (k + m)).p es (p[i] * x) from g3)
  rw [htl, show (p.take i).map (· * x) ++ [p[i] * x] = (p.take (i + 1)).map (· * x) by rw [take_add hi, List.map_append]; rfl] at h8
  obtain ⟨y1, y2, y3, y4, rfl⟩ := id g3.four
  refine go5 ?_
  rw [addI1 i (by omega)]
  exact l_n (by rfl) (by omega) ⟨i + 1, _, rfl, rfl, rfl, by omega, by rw [show 0 + ((i : Nat) : Int).toNat * 4 = i * 4 by omega]; exact h8⟩
theorem ref02_Value {k m : Nat} {c : C} {xs : List C} {p : List Rat} {x : Rat} (hc : Ls (elR k) c p) (hx : IR m xs x) (hp : p.length < 524288) (hk : vaK k m p.length ≤ 134217727) (hm : p.length * m + 1 ≤ 134217727) : semC Tryz.prog n_ref02_Poly_Value [.c c, .agg xs] (RQV (vaK k m p.length) (ev p x)) := by
  refine semC_of_awpF ok_ref02_Poly_Value rfl (show HFVs [.c c, .agg xs] from ⟨hc.hf, hx.hf, trivial⟩) ?_
  obtain ⟨a, b, c1, d, rfl⟩ := id hx.four
  refine go5 ?_
  refine semH_of_semC (r_Int (g := 1) (by decide)) (fun u hu => ?_)
  obtain ⟨es, rfl, g1⟩ := hu
  obtain ⟨e1, e2, e3, e4, rfl⟩ := id g1.four
  refine go5 ?_
  simp only [spanC, zeroC, ratC, zeroE, zeroS, List.set_cons_zero, List.set_cons_succ, List.nil_append, List.cons_append, List.append_nil, List.replicate_succ, List.replicate_zero, List.length_cons, List.length_nil, splice, List.take_succ_cons, List.take_zero, List.drop_succ_cons, List.drop_zero, List.take_nil, List.drop_nil, Nat.zero_add, Nat.reduceAdd, Nat.reduceMul, Int.reduceToNat, closeB, List.getElem?_cons_succ, List.getElem?_cons_zero]
  refine f_loop (fun w vs H => ∃ (i : Nat) (os ps : List C), vs = [.c c, .c (.ptr 0 0), .c (.ptr 1 0), .c (.ptr 2 0), .c (.ptr 3 0), i64 i] ∧ H = [.live ⟨[a, .bool b, c1, .bool d], T_isoclineref01_Q, .rw⟩, .live ⟨zeroRQ, T_isoclineref01_Q, .rw⟩, .live ⟨os, T_isoclineref01_Q, .rw⟩, .live ⟨ps, T_isoclineref01_Q, .rw⟩] ∧ w = p.length - i ∧ i ≤ p.length ∧ IR (vaK k m i) os (ev (p.take i) x) ∧ IR (i * m + 1) ps (x ^ i)) (by rfl) ⟨0, _, _, rfl, rfl, rfl, by omega, zeroRQ_is, ?_⟩ ?_
  · rw [Rat.pow_zero, Nat.zero_mul]
    exact g1
  rintro w vs H ⟨i, os, ps, rfl, rfl, rfl, h2, h3, h4⟩
  obtain ⟨o1, o2, o3, o4, rfl⟩ := id h3.four
  obtain ⟨p1, p2, p3, p4, rfl⟩ := id h4.four
  refine go5 ?_
  cases hi : compare' Cm.lss (i : Int) (p.length : Int)
  case false =>
    simp [compare'] at hi
    have ei : i = p.length := by omega
    subst ei
    rw [List.take_length] at h3
    refine go5 ?_
    exact RQV.fz h3
  simp [compare'] at hi
  have k1 := Nat.le_trans (vaK_mono (k := k) (m := m) (show i + 1 ≤ p.length by omega)) hk
  simp only [vaK] at k1
  have k2 : i * m + m ≤ p.length * m := by
    have := Nat.mul_le_mul_right m (show i + 1 ≤ p.length by omega)
    rwa [Nat.succ_mul] at this
  refine go5 ?_
  refine ld_ls hc (i := i) hi (by omega) rfl (fun cs hcs => ?_)
  refine go5 ?_
  refine call_C (r_Mul2 hcs h4 (by omega)) (fun u hu => ?_)
  obtain ⟨fs, rfl, g2⟩ := hu
  refine go5 ?_
  refine call_C (r_Add2 h3 g2 (by omega)) (fun u hu => ?_)
  obtain ⟨gs, rfl, g3⟩ := hu
  obtain ⟨y1, y2, y3, y4, rfl⟩ := id g3.four
  refine go5 ?_
  refine call_C (r_Mul2 h4 hx (by omega)) (fun u hu => ?_)
  obtain ⟨hs, rfl, g4⟩ := hu
  obtain ⟨z1, z2, z3, z4, rfl⟩ := id g4.four
  refine go5 ?_
  rw [addI1 i (by omega)]
  refine l_n (by rfl) (by omega) ⟨i + 1, _, _, rfl, rfl, rfl, by omega, ?_, ?_⟩
  · rw [ev_take hi]
    have e : x ^ i * p[i] = p[i] * x ^ i := by grind
    rw [e]
    exact g3
  · rw [pow_succ']
    exact g4.up (by rw [Nat.succ_mul]; omega)
end Go.Proofs.YtjncgcnofiaiaaaGreat

set_option linter.unusedVariables false
set_option linter.unusedSimpArgs false
namespace Go.Proofs.YtjncgcnofiaiaaaGreat
open Go.RowKit
set_option maxRecDepth 20000
/-- The product of Lagrange's factors behind so many points. -/
def prodTo (xs : List Rat) (i : Nat) (x : Rat) : Nat → Rat
  | 0 => 1
  | o + 1 => if o = i then prodTo xs i x o else prodTo xs i x o * ((x - xs.getD o 0) * (xs.getD i 0 - xs.getD o 0)⁻¹)
def lagTo (xs ys : List Rat) (x : Rat) : Nat → Rat
  | 0 => 0
  | i + 1 => lagTo xs ys x i + ys.getD i 0 * prodTo xs i x xs.length
def thF (k m : Nat) : Nat → Nat
  | 0 => k
  | j + 1 => evK (thF k m j) m ((j + 1) * 2) + (2 * m + 1)
theorem thF_succ {k m j : Nat} : thF k m j ≤ thF k m (j + 1) := by
  simp only [thF, evK]
  have := Nat.le_mul_of_pos_left (thF k m j + m + 1) (show 0 < (j + 1) * 2 by omega)
  omega
theorem thF_mono {k m i n : Nat} (h : i ≤ n) : thF k m i ≤ thF k m n := by
  induction h with
  | refl => exact Nat.le_refl _
  | step _ ih => exact Nat.le_trans ih thF_succ
def thO (k m n : Nat) : Nat → Nat
  | 0 => 1
  | i + 1 => thO k m n i + thF k m n + 1
theorem thO_mono {k m n i j : Nat} (h : i ≤ j) : thO k m n i ≤ thO k m n j := by
  induction h with
  | refl => exact Nat.le_refl _
  | step _ ih =>
    simp only [thO]
    omega
theorem thO_pos {k m n i : Nat} : 1 ≤ thO k m n i := by
  cases i <;> simp only [thO] <;> omega
structure IsThrough (xs ys m : List Rat) : Prop where
  ev : ∀ x, ev m x = lagTo xs ys x xs.length
  len : m.length ≤ xs.length + 1
  top : Top m
theorem line_through {xs ys : List Rat} {i : Nat} {x : Rat} (h : xs.getD i 0 < xs.getD (i + 1) 0) (hi : i + 1 < xs.length) (hlen : ys.length = xs.length) : lagTo ((xs.drop i).take 2) ((ys.drop i).take 2) x 2 = lineP xs ys i x := by
  have l2 : ((xs.drop i).take 2).length = 2 := by simp; omega
  have ex : (xs.drop i).take 2 = [xs.getD i 0, xs.getD (i + 1) 0] := by
    apply List.ext_getElem
    · simp; omega
    · intro j h1 h2
      rw [List.getElem_take, List.getElem_drop]
      have : j < 2 := by simpa using h2
      match j, this with
      | 0, _ => simp [show i < xs.length by omega]
      | 1, _ => simp [hi]
  have ey : (ys.drop i).take 2 = [ys.getD i 0, ys.getD (i + 1) 0] := by
    apply List.ext_getElem
    · simp; omega
    · intro j h1 h2
      rw [List.getElem_take, List.getElem_drop]
      have : j < 2 := by simpa using h2
      match j, this with
      | 0, _ => simp [show i < ys.length by omega]
      | 1, _ => simp [show i + 1 < ys.length by omega]
  rw [ex, ey]
  have n1 := sub_ne h
  simp only [lagTo, prodTo, List.length_cons, List.length_nil, List.getD_cons_zero, List.getD_cons_succ, if_pos, Nat.zero_add, Nat.reduceAdd, Nat.one_ne_zero, if_false, Nat.zero_ne_one]
  unfold lineP slope
  rw [Rat.div_def]
  generalize xs.getD i 0 = a at *
  generalize xs.getD (i + 1) 0 = b at *
  generalize ys.getD i 0 = c
  generalize ys.getD (i + 1) 0 = d
  have n2 : a - b ≠ 0 := fun e => by grind
  have e1 : (a - b)⁻¹ = -(b - a)⁻¹ := by
    have h1 : (b - a) * (b - a)⁻¹ = 1 := Rat.mul_inv_cancel _ n1
    have h2 : (a - b) * (a - b)⁻¹ = 1 := Rat.mul_inv_cancel _ n2
    generalize (b - a)⁻¹ = u at *
    generalize (a - b)⁻¹ = v at *
    grind
  rw [e1]
  have h1 : (b - a) * (b - a)⁻¹ = 1 := Rat.mul_inv_cancel _ n1
  generalize (b - a)⁻¹ = u at *
  grind
theorem elR_two {k : Nat} {cs ds : List C} {a b : Rat} (h1 : IR k cs a) (h2 : IR k ds b) : Els (elR k) (cs ++ ds) [a, b] := .cons h1 (.one h2)
structure RTab (kind : Int) (cx cy : C) (xs ys : List Rat) (K : Nat) (pc : Nat → Rat → Rat) : Prop where
  x : Ls (elR 2) cx xs
  y : Ls (elR 2) cy ys
  len : ys.length = xs.length
  pos : 0 < xs.length
  small : xs.length ≤ 1024
  piece : ∀ i, i + 1 < xs.length → semC Tryz.prog n_ref24_table_piece [.agg [iC kind, cx, cy], i64 i] (PolyK (elR K) (PieceIs (pc i)))
theorem row_len {l : List Rat} {i : Nat} (hi : i + 1 < l.length) : ((l.drop i).take 2).length = 2 := by simp; omega
theorem row_ne {l : List Rat} {i : Nat} (hr : Rises l) (hi : i + 1 < l.length) : ∀ a b (ha : a < ((l.drop i).take 2).length) (hb : b < ((l.drop i).take 2).length), a ≠ b → ((l.drop i).take 2)[a] ≠ ((l.drop i).take 2)[b] := by
  intro a b ha hb hab
  have e := row_len hi
  have h := hr i hi
  simp only [List.getElem_take, List.getElem_drop]
  obtain rfl | rfl : a = 0 ∨ a = 1 := by omega
  · obtain rfl | rfl : b = 0 ∨ b = 1 := by omega
    · exact absurd rfl hab
    · simp only [Nat.add_zero]
      grind
  · obtain rfl | rfl : b = 0 ∨ b = 1 := by omega
    · simp only [Nat.add_zero]
      grind
    · exact absurd rfl hab
attribute [local irreducible] compare' semH semC qLen qNil qIad qSlc qIdx ldBox ldCells stBox appX appI slcX awpF awpOpsF awpDF xopF xopDF qval lval seqQ blockQ loopQ bodyF retKF cnd arith IntKind.wrap
theorem ref02_Through {k m : Nat} {cx cy : C} {xs ys : List Rat} (hx : Ls (elR m) cx xs) (hy : Ls (elR k) cy ys) (hlen : ys.length = xs.length) (hl : xs.length < 1024) (hm : 1 ≤ m) (hd : ∀ a b (ha : a < xs.length) (hb : b < xs.length), a ≠ b → xs[a] ≠ xs[b]) (hF : thF k m xs.length ≤ 134217727) (hO : thO k m xs.length xs.length ≤ 134217727) (hF1 : 1 ≤ k) : semC Tryz.prog n_ref02_Through [.c cx, .c cy] (PolyK (elR (thO k m xs.length xs.length)) (IsThrough xs ys)) := by
  refine semC_of_awpF ok_ref02_Through rfl (show HFVs [.c cx, .c cy] from ⟨hx.hf, hy.hf, trivial⟩) ?_
  refine go8 ?_
  refine semH_of_semC (r_Int (g := 1) (by decide)) (fun u hu => ?_)
  obtain ⟨os, rfl, g1⟩ := hu
  obtain ⟨o1, o2, o3, o4, rfl⟩ := id g1.four
  refine go8 ?_
  simp only [spanC, zeroC, ratC, zeroE, zeroS, List.set_cons_zero, List.set_cons_succ, List.nil_append, List.cons_append, List.append_nil, List.replicate_succ, List.replicate_zero, List.length_cons, List.length_nil, splice, List.take_succ_cons, List.take_zero, List.drop_succ_cons, List.drop_zero, List.take_nil, List.drop_nil, Nat.zero_add, Nat.reduceAdd, Nat.reduceMul, Int.reduceToNat, closeB, List.getElem?_cons_succ, List.getElem?_cons_zero]
  refine f_loop (fun w vs H => ∃ (i : Nat) (o : C) (O : List Rat) (R : Hp), vs = [.c cx, .c cy, .c o, .c (.ptr 0 0), i64 i] ∧ H = .live ⟨[o1, .bool o2, o3, .bool o4], T_isoclineref01_Q, .rw⟩ :: R ∧ w = xs.length - i ∧ i ≤ xs.length ∧ Ls (elR (thO k m xs.length i)) o O ∧ O.length ≤ xs.length + 1 ∧ (∀ x, ev O x = lagTo xs ys x i) ∧ Top O) (by rfl) ⟨0, _, [], [], rfl, rfl, rfl, by omega, .nil, by simp, fun x => rfl, fun h => absurd h (by simp)⟩ ?_
  rintro w vs H ⟨i, o, O, R, rfl, rfl, rfl, h1, h2, h3, h4, h5⟩
  refine go8 ?_
  cases hi : compare' Cm.lss (i : Int) (xs.length : Int)
  case false =>
    simp [compare'] at hi
    have ei : i = xs.length := by omega
    subst ei
    refine go8 ?_
    exact PolyK.fz h2 ⟨h4, h3, h5⟩
  simp [compare'] at hi
  refine go8 ?_
  refine ld_ls hy (i := i) (by omega) (by omega) rfl (fun ds hds => ?_)
  obtain ⟨d1, d2, d3, d4, rfl⟩ := id hds.four
  refine go8 ?_
  simp only [spanC, zeroC, ratC, zeroE, zeroS, List.set_cons_zero, List.set_cons_succ, List.nil_append, List.cons_append, List.append_nil, List.replicate_succ, List.replicate_zero, List.length_cons, List.length_nil, splice, List.take_succ_cons, List.take_zero, List.drop_succ_cons, List.drop_zero, List.take_nil, List.drop_nil, Nat.zero_add, Nat.reduceAdd, Nat.reduceMul, Int.reduceToNat, closeB, List.getElem?_cons_succ, List.getElem?_cons_zero]
  refine f_loop (fun w vs H => ∃ (j : Nat) (f : C) (F : List Rat) (R : Hp), vs = [.c cx, .c cy, .c o, .c (.ptr 0 0), i64 i, .c f, i64 j] ∧ H = .live ⟨[o1, .bool o2, o3, .bool o4], T_isoclineref01_Q, .rw⟩ :: R ∧ w = xs.length - j ∧ j ≤ xs.length ∧ Ls (elR (thF k m j)) f F ∧ F.length ≤ j + 1 ∧ ∀ x, ev F x = ys[i] * prodTo xs i x j) (by rfl) ⟨0, _, [ys[i]], R, rfl, rfl, rfl, by omega, .imm (.one hds), by simp, fun x => by rw [ev_one]; simp only [prodTo]; grind⟩ ?_
  clear hds
  rintro w vs H ⟨j, f, F, R, rfl, rfl, rfl, j1, j2, j3, j4⟩
  refine go8 ?_
  cases hj : compare' Cm.lss (j : Int) (xs.length : Int)
  case false =>
    simp [compare'] at hj
    have ej : j = xs.length := by omega
    subst ej
    refine go8 ?_
    refine semH_of_semC (ref02_Trim j2 (by omega)) (fun u hu => ?_)
    obtain ⟨ct, T, rfl, t1, t2⟩ := hu
    have t3 := t2.len
    have hO1 := Nat.le_trans (thO_mono (k := k) (m := m) (n := xs.length) (show i + 1 ≤ xs.length by omega)) hO
    simp only [thO] at hO1
    refine go8 ?_
    refine semH_of_semC (ref02_Plus h2 t1 (by omega) (by omega) thO_pos (Nat.le_trans hF1 (thF_mono (k := k) (m := m) (Nat.zero_le _))) (by omega)) (fun u hu => ?_)
    obtain ⟨cp, P, rfl, p1, p2⟩ := hu
    have p3 := p2.len
    refine go8 ?_
    rw [addI1 i (by omega)]
    refine l_n (by rfl) (n' := xs.length - (i + 1)) (by omega) ⟨i + 1, cp, P, _, rfl, rfl, rfl, by omega, p1, by omega, fun x => ?_, p2.top⟩
    rw [p2.ev, h4, t2.ev, j4]
    simp only [lagTo]
    rw [getD_lt (l := ys) (i := i) (by omega)]
  simp [compare'] at hj
  have hFj := Nat.le_trans (thF_mono (k := k) (m := m) (show j + 1 ≤ xs.length by omega)) hF
  simp only [thF] at hFj
  have hF1' := evK_le (k := thF k m j) (m := m) (n := (j + 1) * 2)
  refine go8 ?_
  cases hji : compare' Cm.neq (j : Int) (i : Int)
  case false =>
    simp [compare'] at hji
    refine go8 ?_
    rw [addI1 j (by omega)]
    refine l_n (by rfl) (n' := xs.length - (j + 1)) (by omega) ⟨j + 1, f, F, _, rfl, rfl, rfl, by omega, j2.up' thF_succ, by omega, fun x => ?_⟩
    rw [j4]
    simp only [prodTo]
    rw [if_pos (by omega)]
  simp [compare'] at hji
  have hji : j ≠ i := by omega
  refine go8 ?_
  refine ld_ls hx (i := j) (by omega) (by omega) rfl (fun av has => ?_)
  refine go8 ?_
  refine ld_ls hx (i := i) (by omega) (by omega) rfl (fun bs hbs => ?_)
  refine go8 ?_
  refine ld_ls hx (i := j) (by omega) (by omega) rfl (fun cs hcs => ?_)
  refine go8 ?_
  refine call_C (r_Neg has (by omega)) (fun u hu => ?_)
  obtain ⟨es, rfl, g2⟩ := hu
  obtain ⟨e1, e2, e3, e4, rfl⟩ := id g2.four
  refine go8 ?_
  have g3 := elR_two g2 (g1.up hm)
  have hle : evK (thF k m j) m (F.length * 2) ≤ evK (thF k m j) m ((j + 1) * 2) := evK_mono (by omega)
  refine call_C (ref02_Times j2 (.imm g3) (by omega) (by simp) (by simp only [List.length_cons, List.length_nil, Nat.zero_add, Nat.reduceAdd]; omega)) (fun u hu => ?_)
  obtain ⟨ct, T, rfl, t1, t2⟩ := hu
  have t3 := t2.len
  simp only [List.length_cons, List.length_nil, Nat.zero_add, Nat.reduceAdd] at t1 t3
  refine go8 ?_
  refine call_C (r_Sub2 hbs hcs (by omega)) (fun u hu => ?_)
  obtain ⟨fs, rfl, g4⟩ := hu
  have hne : xs[i] - xs[j] ≠ 0 := fun e => hd i j (by omega) (by omega) (fun e => hji e.symm) (by grind)
  refine go8 ?_
  refine call_C (r_Inv g4 (by omega) hne) (fun u hu => ?_)
  obtain ⟨gs, rfl, g5⟩ := hu
  refine go8 ?_
  refine call_C (ref02_Scale t1 g5 (by omega) (by omega)) (fun u hu => ?_)
  obtain ⟨cu, U, rfl, u1, u2⟩ := hu
  have u3 := u2.len
  refine go8 ?_
  rw [addI1 j (by omega)]
  refine l_n (by rfl) (n' := xs.length - (j + 1)) (by omega) ⟨j + 1, cu, U, _, rfl, rfl, rfl, by omega, u1.up' (by simp only [thF]; omega), by omega, fun x => ?_⟩
  rw [u2.ev, t2.ev, j4, ev_two]
  simp only [prodTo]
  rw [if_neg hji, getD_lt (l := xs) (i := j) (by omega), getD_lt (l := xs) (i := i) (by omega)]
  grind
theorem ref24_piece_line {cx cy : C} {xs ys : List Rat} {i : Nat} (hx : Ls (elR 2) cx xs) (hy : Ls (elR 2) cy ys) (hr : Rises xs) (hlen : ys.length = xs.length) (hl : xs.length ≤ 1024) (hi : i + 1 < xs.length) : semC Tryz.prog n_ref24_table_piece [.agg [iC 1, cx, cy], i64 i] (PolyK (elR (thO 2 2 2 2)) (PieceIs (lineP xs ys i))) := by
  refine semC_of_awpF ok_ref24_table_piece rfl (show HFVs [.agg [iC 1, cx, cy], i64 i] from ⟨⟨trivial, hx.hf, hy.hf, trivial⟩, trivial, trivial⟩) ?_
  refine go8 ?_
  refine c_f (by simp [compare']) ?_
  refine go8 ?_
  refine c_t (by simp [compare']) ?_
  refine go8 ?_
  rw [show arith .add .i64 (i : Int) 2 = ((i + 2 : Nat) : Int) by rw [ar_add, wrap_i64 (by omega) (by omega)]; omega]
  refine slc_ls (l := xs) (a := (i : Int)) (b := ((i + 2 : Nat) : Int)) (by rfl) hx rfl (by rfl) (by rfl) (by omega) (by omega) (by omega) (fun c1 hc1 => ?_)
  refine go8 ?_
  rw [show arith .add .i64 (i : Int) 2 = ((i + 2 : Nat) : Int) by rw [ar_add, wrap_i64 (by omega) (by omega)]; omega]
  refine slc_ls (l := ys) (a := (i : Int)) (b := ((i + 2 : Nat) : Int)) (by rfl) hy rfl (by rfl) (by rfl) (by omega) (by omega) (by omega) (fun c2 hc2 => ?_)
  rw [show ((i : Nat) : Int).toNat = i by omega, show ((i + 2 : Nat) : Int).toNat - i = 2 by omega] at hc1 hc2
  have l1 := row_len hi
  have l2 : ((ys.drop i).take 2).length = 2 := row_len (by omega)
  refine go8 ?_
  refine call_C (ref02_Through hc1 hc2 (by omega) (by omega) (by decide) (row_ne hr hi) (by rw [l1]; decide) (by rw [l1]; decide) (by decide)) (fun u hu => ?_)
  obtain ⟨ct, T, rfl, t1, t2⟩ := hu
  have t3 := t2.len
  rw [l1] at t1 t3
  refine go8 ?_
  refine PolyK.fz t1 ⟨fun x => ?_, by omega, t2.top⟩
  rw [t2.ev, l1]
  exact line_through (hr.get hi) hi hlen
theorem ref24_last {kind : Int} {cx cy : C} {k : Nat} {xs : List Rat} (hx : Ls (elR k) cx xs) (hy : HFC cy) (hl : xs.length < 1048576) (hp : 0 < xs.length) : semC Tryz.prog n_ref24_table_last [.agg [iC kind, cx, cy]] (IntK ((xs.length - 1 : Nat) : Int)) := by
  refine semC_of_awpF ok_ref24_table_last rfl (show HFVs [.agg [iC kind, cx, cy]] from ⟨⟨trivial, hx.hf, hy, trivial⟩, trivial⟩) ?_
  refine go5 ?_
  rw [show arith .sub .i64 (xs.length : Int) 1 = ((xs.length - 1 : Nat) : Int) by rw [ar_sub, wrap_i64 (by omega) (by omega)]; omega]
  refine go5 ?_
  exact IntK.fz
theorem ref24_value {kind : Int} {cx cy : C} {xs ys : List Rat} {K k : Nat} {pc : Nat → Rat → Rat} {cs : List C} {x : Rat} (h : RTab kind cx cy xs ys K pc) (hc : IR k cs x) (hK : vaK K k 4 ≤ 134217727) (hk4 : 4 * k + 1 ≤ 134217727) (hK2 : 2 ≤ K) : semC Tryz.prog n_ref24_table_value [.agg [iC kind, cx, cy], .agg cs] (RQV (vaK K k 4) (valR pc xs ys x)) := by
  have hx := h.x
  have hy := h.y
  refine semC_of_awpF ok_ref24_table_value rfl (show HFVs [.agg [iC kind, cx, cy], .agg cs] from ⟨⟨trivial, hx.hf, hy.hf, trivial⟩, hc.hf, trivial⟩) ?_
  obtain ⟨a, b, c1, d, rfl⟩ := id hc.four
  have hlen := h.len
  have hpos := h.pos
  have hsm := h.small
  have hkk : k + 2 ≤ 268435456 := by omega
  have h2k : 2 ≤ vaK K k 4 := by
    simp only [vaK]
    omega
  refine go5 ?_
  refine semH_of_semC (ref24_last hx hy.hf (by omega) hpos) (fun u hu => ?_)
  obtain rfl := hu
  refine go5 ?_
  refine ld_ls hx (i := 0) hpos (by omega) rfl (fun ds hds => ?_)
  refine go5 ?_
  refine call_C (r_Cmp2 hc hds hkk) (fun u hu => ?_)
  obtain rfl := hu
  refine go5 ?_
  rw [cq_leq]
  cases h1 : dec (x ≤ xs[0])
  case true =>
    have h1 := dec_true.1 h1
    rw [← getD_lt hpos] at h1
    refine go5 ?_
    refine ld_ls hy (i := 0) (by omega) (by omega) rfl (fun es hes => ?_)
    obtain ⟨_, _, _, _, rfl⟩ := id hes.four
    refine go5 ?_
    refine RQV.fz (IR.up ?_ h2k)
    rw [val_lo h1, getD_lt (l := ys) (i := 0) (by omega)]
    exact hes
  have h1 := dec_false.1 h1
  rw [← getD_lt hpos] at h1
  refine go5 ?_
  refine ld_ls hx (i := xs.length - 1) (by omega) (by omega) rfl (fun es hes => ?_)
  refine go5 ?_
  refine call_C (r_Cmp2 hc hes hkk) (fun u hu => ?_)
  obtain rfl := hu
  refine go5 ?_
  rw [cq_geq]
  cases h2 : dec (xs[xs.length - 1] ≤ x)
  case true =>
    have h2 := dec_true.1 h2
    rw [← getD_lt (l := xs) (i := xs.length - 1) (by omega)] at h2
    refine go5 ?_
    refine ld_ls hy (i := xs.length - 1) (by omega) (by omega) rfl (fun es hes => ?_)
    obtain ⟨_, _, _, _, rfl⟩ := id hes.four
    refine go5 ?_
    refine RQV.fz (IR.up ?_ h2k)
    rw [val_hi h1 h2, getD_lt (l := ys) (i := xs.length - 1) (by omega)]
    exact hes
  have h2 := dec_false.1 h2
  rw [← getD_lt (l := xs) (i := xs.length - 1) (by omega)] at h2
  refine go5 ?_
  refine f_loop (fun w vs H => ∃ (i : Nat), vs = [.c (.ptr 0 0), .c (.ptr 1 0), .c (.ptr 2 0), i64 i] ∧ H = [.live ⟨[iC kind, cx, cy], T_isoclineref24_table, .rw⟩, .live ⟨[a, .bool b, c1, .bool d], T_isoclineref01_Q, .rw⟩, .live ⟨zeroRQ, T_isoclineref01_Q, .rw⟩] ∧ w = xs.length - i ∧ i + 1 < xs.length ∧ ∀ j, j < i → xs.getD (j + 1) 0 ≤ x) (by rfl) ⟨0, rfl, rfl, rfl, ?_, fun j hj => by omega⟩ ?_
  · rcases Nat.lt_or_ge 1 xs.length with h3 | h3
    · omega
    · have : xs.length - 1 = 0 := by omega
      rw [this] at h2
      grind
  rintro w vs H ⟨i, rfl, rfl, rfl, h3, h4⟩
  refine go5 ?_
  rw [addI1 i (by omega)]
  refine go5 ?_
  refine ld_ls hx (i := i + 1) h3 (by omega) rfl (fun fs hfs => ?_)
  refine go5 ?_
  refine call_C (r_Cmp2 hc hfs (by omega)) (fun u hu => ?_)
  obtain rfl := hu
  refine go5 ?_
  rw [cq_geq]
  cases h5 : dec (xs[i + 1] ≤ x)
  case true =>
    have h5 := dec_true.1 h5
    rw [← getD_lt (l := xs) (i := i + 1) (by omega)] at h5
    refine go5 ?_
    rw [addI1 i (by omega)]
    refine l_n (by rfl) (n' := xs.length - (i + 1)) (by omega) ⟨i + 1, rfl, rfl, rfl, ?_, fun j hj => ?_⟩
    · rcases Nat.lt_or_ge (i + 1 + 1) xs.length with h6 | h6
      · exact h6
      · have : xs.length - 1 = i + 1 := by omega
        rw [this] at h2
        exact absurd h5 h2
    · rcases Nat.lt_or_ge j i with h6 | h6
      · exact h4 j h6
      · have : j = i := by omega
        subst this
        exact h5
  have h5 := dec_false.1 h5
  rw [← getD_lt (l := xs) (i := i + 1) (by omega)] at h5
  refine go5 ?_
  refine call_C (h.piece i h3) (fun u hu => ?_)
  obtain ⟨cp, mp, rfl, g1, g2⟩ := hu
  have l1 := g2.len
  have hE := Nat.le_trans (vaK_mono (k := K) (m := k) l1) hK
  have hk5 := Nat.mul_le_mul_right k l1
  refine go5 ?_
  refine call_C (ref02_Value g1 hc (by omega) hE (by omega)) (fun u hu => ?_)
  obtain ⟨es, rfl, g3⟩ := hu
  obtain ⟨_, _, _, _, rfl⟩ := id g3.four
  refine go5 ?_
  refine RQV.fz (IR.up ?_ (vaK_mono l1))
  rw [val_in h1 h2 h3 (Rat.not_le.1 h5) h4, ← g2.ev]
  exact g3
theorem ref24_number {k : Nat} {cs : List C} {q : Rat} (hc : IR k cs q) : semC Tryz.prog n_ref24_number [.agg cs] (NumK q) := by
  refine semC_of_awpF ok_ref24_number rfl (show HFVs [.agg cs] from ⟨hc.hf, trivial⟩) ?_
  obtain ⟨a, b, c1, d, rfl⟩ := id hc.four
  refine go5 ?_
  refine semH_of_semC (ref01_Rat hc.is (rp_pos q)) (fun u hu => ?_)
  obtain rfl := hu
  unfold outV
  cases h : fitR (rp q)
  · refine go5 ?_
    exact NumK.no h
  · refine go5 ?_
    exact NumK.yes h
end Go.Proofs.YtjncgcnofiaiaaaGreat

set_option linter.unusedVariables false
set_option linter.unusedSimpArgs false
namespace Go.Proofs.YtjncgcnofiaiaaaGreat
open Go.RowKit
set_option maxRecDepth 20000
noncomputable def lagX (d w : R2) : Rat := rt w - rt d
def LagOk (t v : List R2) (d w : R2) : Prop := Valid t ∧ Valid v ∧ IsRat d.1 d.2 ∧ IsRat w.1 w.2 ∧ 0 ≤ d.1 ∧ Rises (t.map rt)
def LagOut (t : List R2) (x : Rat) : Prop := t = [] ∨ x < (t.map rt).getD 0 0 ∨ (t.map rt).getD ((t.map rt).length - 1) 0 < x
noncomputable def lagV (t v : List R2) (x : Rat) : Rat := valR (lineP (t.map rt) (v.map rt)) (t.map rt) (v.map rt) x
noncomputable def lagR (t v : List R2) (d w : R2) : R2 × Bool × Int :=
  bif dec (64 < t.length ∨ 64 < v.length) then ((0, 0), false, 3) else
  bif dec (LagOk t v d w) then
    bif dec (t.length = v.length) then
      bif dec (LagOut t (lagX d w)) then ((0, 0), false, 0) else ((numR (lagV t v (lagX d w))).1, dec ((numR (lagV t v (lagX d w))).2 = 0), (numR (lagV t v (lagX d w))).2)
    else ((0, 0), false, 8)
  else ((0, 0), false, 1)
def LagK (t v : List R2) (d w : R2) (u : V) : Prop := u = .tup [.agg (ratC (lagR t v d w).1), .c (.bool (lagR t v d w).2.1), i64 (lagR t v d w).2.2]
theorem LagK.fz {t v : List R2} {d w : R2} {H : Hp} {r : R2} {b : Bool} {e : Int} (h : lagR t v d w = (r, b, e)) : ∃ x, FzV H (.tup [.agg (ratC r), .c (.bool b), i64 e]) x ∧ LagK t v d w x := by
  refine ⟨_, .tup (.cons (.agg (.hf (HFL_rat _))) (.cons (.c (.hf trivial)) (.cons (.c (.hf trivial)) .nil))), ?_⟩
  unfold LagK
  rw [h]
  rfl
theorem LagK.bad {t v : List R2} {d w : R2} {H : Hp} {e : Int} (h : lagR t v d w = ((0, 0), false, e)) : ∃ x, FzV H (.tup [.agg [.int .i64 0, .int .i64 0], .c (.bool false), i64 e]) x ∧ LagK t v d w x := LagK.fz h
theorem lag_long {t v : List R2} {d w : R2} (h : 64 < t.length ∨ 64 < v.length) : lagR t v d w = ((0, 0), false, 3) := by
  unfold lagR
  rw [dec_true.2 h]
  rfl
theorem lag_bad {t v : List R2} {d w : R2} (h : ¬ (64 < t.length ∨ 64 < v.length)) (h2 : ¬ LagOk t v d w) : lagR t v d w = ((0, 0), false, 1) := by
  unfold lagR
  rw [dec_false.2 h, dec_false.2 h2]
  rfl
theorem lag_fit {t v : List R2} {d w : R2} (h : ¬ (64 < t.length ∨ 64 < v.length)) (h2 : LagOk t v d w) (h3 : t.length ≠ v.length) : lagR t v d w = ((0, 0), false, 8) := by
  unfold lagR
  rw [dec_false.2 h, dec_true.2 h2, dec_false.2 h3]
  rfl
theorem lag_out {t v : List R2} {d w : R2} (h : ¬ (64 < t.length ∨ 64 < v.length)) (h2 : LagOk t v d w) (h3 : t.length = v.length) (h4 : LagOut t (lagX d w)) : lagR t v d w = ((0, 0), false, 0) := by
  unfold lagR
  rw [dec_false.2 h, dec_true.2 h2, dec_true.2 h3, dec_true.2 h4]
  rfl
theorem lag_in {t v : List R2} {d w : R2} (h : ¬ (64 < t.length ∨ 64 < v.length)) (h2 : LagOk t v d w) (h3 : t.length = v.length) (h4 : ¬ LagOut t (lagX d w)) : lagR t v d w = ((numR (lagV t v (lagX d w))).1, dec ((numR (lagV t v (lagX d w))).2 = 0), (numR (lagV t v (lagX d w))).2) := by
  unfold lagR
  rw [dec_false.2 h, dec_true.2 h2, dec_true.2 h3, dec_false.2 h4]
  rfl
theorem eql_dec (a b : Int) : compare' Cm.eql a b = dec (a = b) := rfl
attribute [local irreducible] compare' semH semC qLen qNil qIad qSlc qIdx ldBox ldCells stBox appX appI slcX awpF awpOpsF awpDF xopF xopDF qval lval seqQ blockQ loopQ bodyF retKF cnd arith IntKind.wrap
theorem line_shape {cx cy : C} {xs ys : List Rat} (hx : Ls (elQ 2) cx xs) (hy : Ls (elQ 2) cy ys) (hr : Rises xs) (hlen : ys.length = xs.length) (hpos : 0 < xs.length) (hl : xs.length ≤ 1024) : Shape (.ifaceA T_table_line [cx, cy]) cx cy xs ys 42 (lineP xs ys) :=
  ⟨⟨hx.hf, hy.hf, trivial⟩, hx, hy, hlen, hpos, hl, table_at_line hx.hf hy.hf, fun i hi => table_piece_line hx hy hr hlen hl hi⟩
theorem line_rtab {cx cy : C} {xs ys : List Rat} (hx : Ls (elR 2) cx xs) (hy : Ls (elR 2) cy ys) (hr : Rises xs) (hlen : ys.length = xs.length) (hpos : 0 < xs.length) (hl : xs.length ≤ 1024) : RTab 1 cx cy xs ys (thO 2 2 2 2) (lineP xs ys) :=
  ⟨hx, hy, hlen, hpos, hl, fun i hi => ref24_piece_line hx hy hr hlen hl hi⟩
theorem table_Lag {ct cv : C} {t v : List R2} (d w : R2) (ht : Ls elP ct t) (hv : Ls elP cv v) : semC Tryz.prog n_table_Lag [.c ct, .c cv, .agg (ratC d), .agg (ratC w)] (LagK t v d w) := by
  refine semC_of_awpF ok_table_Lag rfl (show HFVs [.c ct, .c cv, .agg (ratC d), .agg (ratC w)] from ⟨ht.hf, hv.hf, HFL_rat _, HFL_rat _, trivial⟩) ?_
  refine go5 ?_
  cases h1 : compare' Cm.gtr (t.length : Int) 64
  case true =>
    simp [compare'] at h1
    refine go5 ?_
    exact LagK.bad (lag_long (.inl (by omega)))
  simp [compare'] at h1
  refine go5 ?_
  cases h2 : compare' Cm.gtr (v.length : Int) 64
  case true =>
    simp [compare'] at h2
    refine go5 ?_
    exact LagK.bad (lag_long (.inr (by omega)))
  simp [compare'] at h2
  have hs : ¬ (64 < t.length ∨ 64 < v.length) := by omega
  have hl : t.length < 1073741824 := by omega
  have hl2 : v.length < 1073741824 := by omega
  refine go5 ?_
  refine semH_of_semC (num_AllValid ht hl) (fun u hu => ?_)
  obtain ⟨z1, rfl, k1⟩ := hu
  cases z1
  case false =>
    refine go5 ?_
    exact LagK.bad (lag_bad hs (fun h => absurd (k1.2 h.1) (by decide)))
  refine go5 ?_
  refine semH_of_semC (num_AllValid hv hl2) (fun u hu => ?_)
  obtain ⟨z2, rfl, k2⟩ := hu
  cases z2
  case false =>
    refine go5 ?_
    exact LagK.bad (lag_bad hs (fun h => absurd (k2.2 h.2.1) (by decide)))
  refine go5 ?_
  refine semH_of_semC (num_Valid d.1 d.2) (fun u hu => ?_)
  obtain ⟨z3, rfl, k3⟩ := hu
  cases z3
  case false =>
    refine go5 ?_
    exact LagK.bad (lag_bad hs (fun h => absurd (k3.2 h.2.2.1) (by decide)))
  refine go5 ?_
  refine semH_of_semC (num_Valid w.1 w.2) (fun u hu => ?_)
  obtain ⟨z4, rfl, k4⟩ := hu
  cases z4
  case false =>
    refine go5 ?_
    exact LagK.bad (lag_bad hs (fun h => absurd (k4.2 h.2.2.2.1) (by decide)))
  refine go5 ?_
  cases h5 : compare' Cm.lss d.1 0
  case true =>
    simp [compare'] at h5
    refine go5 ?_
    exact LagK.bad (lag_bad hs (fun h => absurd h.2.2.2.2.1 (by omega)))
  simp [compare'] at h5
  have k1 := k1.1 rfl
  have k2 := k2.1 rfl
  have k3 := k3.1 rfl
  have k4 := k4.1 rfl
  refine go5 ?_
  refine f_loop (fun n vs H => ∃ (i : Nat), vs = [.c ct, .c cv, .c (.ptr 0 0), .c (.ptr 1 0), .c (.ptr 2 0), i64 i] ∧ H = [.live ⟨ratC d, T_api_Rat, .rw⟩, .live ⟨ratC w, T_api_Rat, .rw⟩, .live ⟨[.int .i64 0, .int .i64 0], T_api_Rat, .rw⟩] ∧ n = t.length + 1 - i ∧ 1 ≤ i ∧ i ≤ t.length + 1 ∧ ∀ j (h : j + 1 < (t.map rt).length), j + 1 < i → (t.map rt)[j] < (t.map rt)[j + 1]) (by rfl) ⟨1, rfl, rfl, rfl, by omega, by omega, fun j _ h => by omega⟩ ?_
  rintro n vs H ⟨i, rfl, rfl, rfl, j1, j2, j3⟩
  refine go5 ?_
  cases hi : compare' Cm.lss (i : Int) (t.length : Int)
  case true =>
    simp [compare'] at hi
    have hi1 : i - 1 < t.length := by omega
    refine go5 ?_
    rw [show arith .sub .i64 (i : Int) 1 = ((i - 1 : Nat) : Int) by rw [ar_sub, wrap_i64 (by omega) (by omega)]; omega]
    refine go5 ?_
    refine ld_ls ht hi1 (by omega) rfl (fun cs hcs => ?_)
    obtain rfl := hcs
    refine go5 ?_
    refine ld_ls ht hi (by omega) rfl (fun cs hcs => ?_)
    obtain rfl := hcs
    refine go5 ?_
    refine call_C (q_Of (k1 _ (getL_mem hi1))) (fun u hu => ?_)
    obtain ⟨ds, rfl, hd⟩ := hu
    refine go5 ?_
    refine call_C (q_Of (k1 _ (getL_mem hi))) (fun u hu => ?_)
    obtain ⟨es, rfl, he⟩ := hu
    refine go5 ?_
    refine call_C (q_Cmp hd he (by decide)) (fun u hu => ?_)
    obtain rfl := hu
    refine go5 ?_
    rw [cq_geq]
    cases hg : dec (rt t[i] ≤ rt t[i - 1])
    · refine go5 ?_
      rw [addI1 i (by omega)]
      refine l_n (by rfl) (n' := t.length + 1 - (i + 1)) (by omega) ⟨i + 1, rfl, rfl, rfl, by omega, by omega, ?_⟩
      refine rises_take (by simpa using hi) j3 (fun h0 => ?_)
      have := dec_false.1 hg
      simp only [List.getElem_map]
      exact Rat.not_le.1 this
    · refine go5 ?_
      refine LagK.bad (lag_bad hs (fun h => ?_))
      have h5 := h.2.2.2.2.2 (i - 1) (by simp; omega)
      simp only [List.getElem_map, show i - 1 + 1 = i by omega] at h5
      exact absurd (dec_true.1 hg) (Rat.not_le.2 h5)
  simp [compare'] at hi
  have hr : Rises (t.map rt) := fun j hj => j3 j hj (by simp at hj; omega)
  have hok : LagOk t v d w := ⟨k1, k2, k3, k4, by omega, hr⟩
  refine go5 ?_
  cases h6 : compare' Cm.neq (t.length : Int) (v.length : Int)
  case true =>
    simp [compare'] at h6
    refine go5 ?_
    exact LagK.bad (lag_fit hs hok (by omega))
  simp [compare'] at h6
  refine go5 ?_
  refine call_C (q_Of k4) (fun u hu => ?_)
  obtain ⟨ws, rfl, g1⟩ := hu
  refine go5 ?_
  refine call_C (q_Of k3) (fun u hu => ?_)
  obtain ⟨ds, rfl, g2⟩ := hu
  refine go5 ?_
  refine call_C (q_Sub2 g1 g2 (by decide)) (fun u hu => ?_)
  obtain ⟨xs, rfl, g3⟩ := hu
  obtain ⟨x1, x2, x3, x4, x5, x6, rfl⟩ := id g3.six
  refine go5 ?_
  cases h7 : compare' Cm.eql (t.length : Int) 0
  case true =>
    simp [compare'] at h7
    refine go5 ?_
    exact LagK.bad (lag_out hs hok (by omega) (.inl h7))
  simp [compare'] at h7
  have hpos : 0 < t.length := List.length_pos_iff.2 h7
  refine go5 ?_
  refine ld_ls ht (i := 0) hpos (by omega) rfl (fun cs hcs => ?_)
  obtain rfl := hcs
  refine go5 ?_
  refine call_C (q_Of (k1 _ (getL_mem hpos))) (fun u hu => ?_)
  obtain ⟨av, rfl, g4⟩ := hu
  refine go5 ?_
  refine call_C (q_Cmp2 g3 g4 (by decide)) (fun u hu => ?_)
  obtain rfl := hu
  refine go5 ?_
  rw [cq_lss]
  have e0 : (t.map rt).getD 0 0 = rt t[0] := by simp [hpos]
  have e9 : (t.map rt).getD ((t.map rt).length - 1) 0 = rt t[t.length - 1] := by simp [show t.length - 1 < t.length by omega]
  cases h8 : dec (rt w - rt d < rt t[0])
  case true =>
    refine go5 ?_
    exact LagK.bad (lag_out hs hok (by omega) (.inr (.inl (by rw [e0]; exact dec_true.1 h8))))
  have h8 := dec_false.1 h8
  have hn1 : t.length - 1 < t.length := by omega
  refine go5 ?_
  rw [show arith .sub .i64 (t.length : Int) 1 = ((t.length - 1 : Nat) : Int) by rw [ar_sub, wrap_i64 (by omega) (by omega)]; omega]
  refine go5 ?_
  refine ld_ls ht (i := t.length - 1) hn1 (by omega) rfl (fun cs hcs => ?_)
  obtain rfl := hcs
  refine go5 ?_
  refine call_C (q_Of (k1 _ (getL_mem hn1))) (fun u hu => ?_)
  obtain ⟨bs, rfl, g5⟩ := hu
  refine go5 ?_
  refine call_C (q_Cmp2 g3 g5 (by decide)) (fun u hu => ?_)
  obtain rfl := hu
  refine go5 ?_
  rw [cq_gtr]
  cases h9 : dec (rt t[t.length - 1] < rt w - rt d)
  case true =>
    refine go5 ?_
    exact LagK.bad (lag_out hs hok (by omega) (.inr (.inr (by rw [e9]; exact dec_true.1 h9))))
  have h9 := dec_false.1 h9
  have hin : ¬ LagOut t (lagX d w) := by
    rintro (h | h | h)
    · exact h7 h
    · rw [e0] at h
      exact h8 h
    · rw [e9] at h
      exact h9 h
  refine go5 ?_
  refine call_C (num_In ht k1 hl) (fun u hu => ?_)
  obtain ⟨cx, rfl, g6⟩ := hu
  refine go5 ?_
  refine call_C (num_In hv k2 hl2) (fun u hu => ?_)
  obtain ⟨cy, rfl, g7⟩ := hu
  refine go5 ?_
  refine call_C (table_value (line_shape g6 g7 hr (by simp; omega) (by simpa using hpos) (by simp; omega)) g3 (by decide)) (fun u hu => ?_)
  obtain ⟨ys, rfl, g8⟩ := hu
  refine go5 ?_
  refine call_C (table_number g8) (fun u hu => ?_)
  obtain rfl := hu
  refine go5 ?_
  rw [eql_dec]
  refine go5 ?_
  exact LagK.fz (lag_in hs hok (by omega) hin)
theorem ref24_Lag {ct cv : C} {t v : List R2} (d w : R2) (ht : Ls elP ct t) (hv : Ls elP cv v) : semC Tryz.prog n_ref24_Lag [.c ct, .c cv, .agg (ratC d), .agg (ratC w)] (LagK t v d w) := by
  refine semC_of_awpF ok_ref24_Lag rfl (show HFVs [.c ct, .c cv, .agg (ratC d), .agg (ratC w)] from ⟨ht.hf, hv.hf, HFL_rat _, HFL_rat _, trivial⟩) ?_
  refine go5 ?_
  cases h1 : compare' Cm.gtr (t.length : Int) 64
  case true =>
    simp [compare'] at h1
    refine go5 ?_
    exact LagK.bad (lag_long (.inl (by omega)))
  simp [compare'] at h1
  refine go5 ?_
  cases h2 : compare' Cm.gtr (v.length : Int) 64
  case true =>
    simp [compare'] at h2
    refine go5 ?_
    exact LagK.bad (lag_long (.inr (by omega)))
  simp [compare'] at h2
  have hs : ¬ (64 < t.length ∨ 64 < v.length) := by omega
  have hl : t.length < 1073741824 := by omega
  have hl2 : v.length < 1073741824 := by omega
  refine go5 ?_
  refine semH_of_semC (ref01_Are ht hl) (fun u hu => ?_)
  obtain ⟨z1, rfl, k1⟩ := hu
  cases z1
  case false =>
    refine go5 ?_
    exact LagK.bad (lag_bad hs (fun h => absurd (k1.2 h.1) (by decide)))
  refine go5 ?_
  refine semH_of_semC (ref01_Are hv hl2) (fun u hu => ?_)
  obtain ⟨z2, rfl, k2⟩ := hu
  cases z2
  case false =>
    refine go5 ?_
    exact LagK.bad (lag_bad hs (fun h => absurd (k2.2 h.2.1) (by decide)))
  refine go5 ?_
  refine semH_of_semC (ref01_Is d.1 d.2) (fun u hu => ?_)
  obtain ⟨z3, rfl, k3⟩ := hu
  cases z3
  case false =>
    refine go5 ?_
    exact LagK.bad (lag_bad hs (fun h => absurd (k3.2 h.2.2.1) (by decide)))
  refine go5 ?_
  refine semH_of_semC (ref01_Is w.1 w.2) (fun u hu => ?_)
  obtain ⟨z4, rfl, k4⟩ := hu
  cases z4
  case false =>
    refine go5 ?_
    exact LagK.bad (lag_bad hs (fun h => absurd (k4.2 h.2.2.2.1) (by decide)))
  refine go5 ?_
  cases h5 : compare' Cm.lss d.1 0
  case true =>
    simp [compare'] at h5
    refine go5 ?_
    exact LagK.bad (lag_bad hs (fun h => absurd h.2.2.2.2.1 (by omega)))
  simp [compare'] at h5
  have k1 := k1.1 rfl
  have k2 := k2.1 rfl
  have k3 := k3.1 rfl
  have k4 := k4.1 rfl
  refine go5 ?_
  refine semH_of_semC (ref24_rises ht k1 hl) (fun u hu => ?_)
  obtain ⟨z5, rfl, hr⟩ := hu
  cases z5
  case false =>
    refine go5 ?_
    exact LagK.bad (lag_bad hs (fun h => absurd (hr.2 h.2.2.2.2.2) (by decide)))
  have hr := hr.1 rfl
  have hok : LagOk t v d w := ⟨k1, k2, k3, k4, by omega, hr⟩
  refine go5 ?_
  cases h6 : compare' Cm.neq (t.length : Int) (v.length : Int)
  case true =>
    simp [compare'] at h6
    refine go5 ?_
    exact LagK.bad (lag_fit hs hok (by omega))
  simp [compare'] at h6
  refine go5 ?_
  refine call_C (r_Of k4) (fun u hu => ?_)
  obtain ⟨ws, rfl, g1⟩ := hu
  refine go5 ?_
  refine call_C (r_Of k3) (fun u hu => ?_)
  obtain ⟨ds, rfl, g2⟩ := hu
  refine go5 ?_
  refine call_C (r_Sub2 g1 g2 (by decide)) (fun u hu => ?_)
  obtain ⟨xs, rfl, g3⟩ := hu
  obtain ⟨x1, x2, x3, x4, rfl⟩ := id g3.four
  refine go5 ?_
  refine semH_of_semC (ref01_List ht k1 hl) (fun u hu => ?_)
  obtain ⟨cx, rfl, g6⟩ := hu
  refine go5 ?_
  refine semH_of_semC (ref01_List hv k2 hl2) (fun u hu => ?_)
  obtain ⟨cy, rfl, g7⟩ := hu
  refine go5 ?_
  cases h7 : compare' Cm.eql (t.length : Int) 0
  case true =>
    simp [compare'] at h7
    refine go5 ?_
    exact LagK.bad (lag_out hs hok (by omega) (.inl h7))
  simp [compare'] at h7
  have hpos : 0 < t.length := List.length_pos_iff.2 h7
  have hml : (t.map rt).length = t.length := by simp
  refine go5 ?_
  refine ld_ls g6 (i := 0) (by omega) (by omega) rfl (fun cs g4 => ?_)
  refine go5 ?_
  refine call_C (r_Cmp2 g3 g4 (by decide)) (fun u hu => ?_)
  obtain rfl := hu
  refine go5 ?_
  rw [cq_lss]
  have e0 : (t.map rt).getD 0 0 = (t.map rt)[0] := getD_lt (by omega)
  have e9 : (t.map rt).getD ((t.map rt).length - 1) 0 = (t.map rt)[t.length - 1] := by
    rw [getD_lt (l := t.map rt) (i := (t.map rt).length - 1) (by omega)]
    simp
  cases h8 : dec (rt w - rt d < (t.map rt)[0])
  case true =>
    refine go5 ?_
    exact LagK.bad (lag_out hs hok (by omega) (.inr (.inl (by rw [e0]; exact dec_true.1 h8))))
  have h8 := dec_false.1 h8
  have hn1 : t.length - 1 < (t.map rt).length := by omega
  refine go5 ?_
  rw [show arith .sub .i64 (t.length : Int) 1 = ((t.length - 1 : Nat) : Int) by rw [ar_sub, wrap_i64 (by omega) (by omega)]; omega]
  refine go5 ?_
  refine ld_ls g6 (i := t.length - 1) hn1 (by omega) rfl (fun cs g5 => ?_)
  refine go5 ?_
  refine call_C (r_Cmp2 g3 g5 (by decide)) (fun u hu => ?_)
  obtain rfl := hu
  refine go5 ?_
  rw [cq_gtr]
  cases h9 : dec ((t.map rt)[t.length - 1] < rt w - rt d)
  case true =>
    refine go5 ?_
    exact LagK.bad (lag_out hs hok (by omega) (.inr (.inr (by rw [e9]; exact dec_true.1 h9))))
  have h9 := dec_false.1 h9
  have hin : ¬ LagOut t (lagX d w) := by
    rintro (h | h | h)
    · exact h7 h
    · rw [e0] at h
      exact h8 h
    · rw [e9] at h
      exact h9 h
  refine go5 ?_
  refine semH_of_semC (ref24_value (line_rtab g6 g7 hr (by simp; omega) (by simpa using hpos) (by simp; omega)) g3 (by decide) (by decide) (by decide)) (fun u hu => ?_)
  obtain ⟨ys, rfl, g8⟩ := hu
  refine go5 ?_
  refine semH_of_semC (ref24_number g8) (fun u hu => ?_)
  obtain rfl := hu
  refine go5 ?_
  rw [eql_dec]
  refine go5 ?_
  exact LagK.fz (lag_in hs hok (by omega) hin)
end Go.Proofs.YtjncgcnofiaiaaaGreat

set_option linter.unusedVariables false
set_option linter.unusedSimpArgs false
namespace Go.Proofs.YtjncgcnofiaiaaaGreat
open Go.RowKit
set_option maxRecDepth 20000
def TabOk (kind : Int) (X Y : List R2) : Prop := 0 ≤ kind ∧ kind ≤ 3 ∧ X ≠ [] ∧ X.length = Y.length ∧ Valid X ∧ Valid Y ∧ Rises (X.map rt)
noncomputable def valE (kind : Int) (X Y : List R2) : Int := bif dec (24 < X.length ∨ 24 < Y.length) then 3 else bif dec (TabOk kind X Y) then 0 else 1
theorem val_long {kind : Int} {X Y : List R2} (h : 24 < X.length ∨ 24 < Y.length) : valE kind X Y = 3 := by
  unfold valE
  rw [dec_true.2 h]
  rfl
theorem val_bad {kind : Int} {X Y : List R2} (h : ¬ (24 < X.length ∨ 24 < Y.length)) (h2 : ¬ TabOk kind X Y) : valE kind X Y = 1 := by
  unfold valE
  rw [dec_false.2 h, dec_false.2 h2]
  rfl
theorem val_ok {kind : Int} {X Y : List R2} (h : ¬ (24 < X.length ∨ 24 < Y.length)) (h2 : TabOk kind X Y) : valE kind X Y = 0 := by
  unfold valE
  rw [dec_false.2 h, dec_true.2 h2]
  rfl
theorem val_zero {kind : Int} {X Y : List R2} (h : valE kind X Y = 0) : ¬ (24 < X.length ∨ 24 < Y.length) ∧ TabOk kind X Y := by
  unfold valE at h
  cases h1 : dec (24 < X.length ∨ 24 < Y.length)
  · cases h2 : dec (TabOk kind X Y)
    · rw [h1, h2] at h
      cases h
    · exact ⟨dec_false.1 h1, dec_true.1 h2⟩
  · rw [h1] at h
    cases h
theorem IntK.of {n m : Int} {H : Hp} (h : m = n) : ∃ d, FzV H (i64 n) d ∧ IntK m d := by
  subst h
  exact IntK.fz
noncomputable def withE (kind : Int) (X Y l : List R2) : Int := bif dec (valE kind X Y = 0) then bif dec (Valid l) then 0 else 1 else valE kind X Y
theorem with_val {kind : Int} {X Y l : List R2} (h : valE kind X Y ≠ 0) : withE kind X Y l = valE kind X Y := by
  unfold withE
  rw [dec_false.2 h]
  rfl
theorem with_bad {kind : Int} {X Y l : List R2} (h : valE kind X Y = 0) (h2 : ¬ Valid l) : withE kind X Y l = 1 := by
  unfold withE
  rw [dec_true.2 h, dec_false.2 h2]
  rfl
theorem with_ok {kind : Int} {X Y l : List R2} (h : valE kind X Y = 0) (h2 : Valid l) : withE kind X Y l = 0 := by
  unfold withE
  rw [dec_true.2 h, dec_true.2 h2]
  rfl
theorem with_zero {kind : Int} {X Y l : List R2} (h : withE kind X Y l = 0) : valE kind X Y = 0 ∧ Valid l := by
  unfold withE at h
  cases h1 : dec (valE kind X Y = 0)
  · rw [h1] at h
    exact absurd h (dec_false.1 h1)
  · cases h2 : dec (Valid l)
    · rw [h1, h2] at h
      cases h
    · exact ⟨dec_true.1 h1, dec_true.1 h2⟩
/-- What the pieces of a table are. -/
def shapeMax : Nat := 65536
def MadeK (xs ys : List Rat) (pc : Nat → Rat → Rat) (u : V) : Prop := ∃ s cx cy K, u = .c s ∧ (2 ≤ K ∧ K ≤ shapeMax) ∧ Shape s cx cy xs ys K pc
theorem MadeK.fz {xs ys : List Rat} {pc : Nat → Rat → Rat} {s cx cy : C} {K : Nat} {H : Hp} (h : Shape s cx cy xs ys K pc) (hK : 2 ≤ K ∧ K ≤ shapeMax) : ∃ d, FzV H (.c s) d ∧ MadeK xs ys pc d := ⟨_, .c (.hf h.hf), s, cx, cy, K, rfl, hK, h⟩
noncomputable def valueR (pc : Nat → Rat → Rat) (kind : Int) (X Y : List R2) (x : R2) : R2 × Int := bif dec (withE kind X Y [x] = 0) then numR (valR pc (X.map rt) (Y.map rt) (rt x)) else ((0, 0), withE kind X Y [x])
def PairK (r : R2 × Int) (u : V) : Prop := u = .tup [.agg (ratC r.1), i64 r.2]
theorem PairK.of {r r' : R2 × Int} {H : Hp} (h : r' = r) : ∃ d, FzV H (.tup [.agg (ratC r.1), i64 r.2]) d ∧ PairK r' d := by
  subst h
  exact ⟨_, .tup (.cons (.agg (.hf (HFL_rat _))) (.cons (.c (.hf trivial)) .nil)), rfl⟩
theorem PairK.bad {r' : R2 × Int} {e : Int} {H : Hp} (h : r' = ((0, 0), e)) : ∃ d, FzV H (.tup [.agg [.int .i64 0, .int .i64 0], i64 e]) d ∧ PairK r' d := PairK.of h
theorem evK_cap {K : Nat} (h : K ≤ shapeMax) : evK K 2 4 ≤ 134217728 := by
  unfold evK
  unfold shapeMax at h
  omega
theorem neq_dec (a b : Int) : compare' Cm.neq a b = dec (a ≠ b) := rfl
attribute [local irreducible] compare' semH semC qLen qNil qIad qSlc qIdx ldBox ldCells stBox appX appI slcX awpF awpOpsF awpDF xopF xopDF qval lval seqQ blockQ loopQ bodyF retKF cnd arith IntKind.wrap
theorem table_Validate {cx cy : C} {X Y : List R2} (kind : Int) (hx : Ls elP cx X) (hy : Ls elP cy Y) : semC Tryz.prog n_table_Validate [.agg [iC kind, cx, cy]] (IntK (valE kind X Y)) := by
  refine semC_of_awpF ok_table_Validate rfl (show HFVs [.agg [iC kind, cx, cy]] from ⟨⟨trivial, hx.hf, hy.hf, trivial⟩, trivial⟩) ?_
  refine go5 ?_
  cases h1 : compare' Cm.gtr (X.length : Int) 24
  case true =>
    simp [compare'] at h1
    refine go5 ?_
    exact IntK.of (val_long (.inl (by omega)))
  simp [compare'] at h1
  refine go5 ?_
  cases h2 : compare' Cm.gtr (Y.length : Int) 24
  case true =>
    simp [compare'] at h2
    refine go5 ?_
    exact IntK.of (val_long (.inr (by omega)))
  simp [compare'] at h2
  have hs : ¬ (24 < X.length ∨ 24 < Y.length) := by omega
  have hl : X.length < 1073741824 := by omega
  have hl2 : Y.length < 1073741824 := by omega
  refine go5 ?_
  cases h3 : compare' Cm.lss kind 0
  case true =>
    simp [compare'] at h3
    refine go5 ?_
    exact IntK.of (val_bad hs (fun h => absurd h.1 (by omega)))
  simp [compare'] at h3
  refine go5 ?_
  cases h4 : compare' Cm.gtr kind 3
  case true =>
    simp [compare'] at h4
    refine go5 ?_
    exact IntK.of (val_bad hs (fun h => absurd h.2.1 (by omega)))
  simp [compare'] at h4
  refine go5 ?_
  cases h5 : compare' Cm.eql (X.length : Int) 0
  case true =>
    simp [compare'] at h5
    refine go5 ?_
    exact IntK.of (val_bad hs (fun h => h.2.2.1 h5))
  simp [compare'] at h5
  refine go5 ?_
  cases h6 : compare' Cm.neq (X.length : Int) (Y.length : Int)
  case true =>
    simp [compare'] at h6
    refine go5 ?_
    exact IntK.of (val_bad hs (fun h => absurd h.2.2.2.1 (by omega)))
  simp [compare'] at h6
  refine go5 ?_
  refine semH_of_semC (num_AllValid hx hl) (fun u hu => ?_)
  obtain ⟨z1, rfl, k1⟩ := hu
  cases z1
  case false =>
    refine go5 ?_
    exact IntK.of (val_bad hs (fun h => absurd (k1.2 h.2.2.2.2.1) (by decide)))
  refine go5 ?_
  refine semH_of_semC (num_AllValid hy hl2) (fun u hu => ?_)
  obtain ⟨z2, rfl, k2⟩ := hu
  cases z2
  case false =>
    refine go5 ?_
    exact IntK.of (val_bad hs (fun h => absurd (k2.2 h.2.2.2.2.2.1) (by decide)))
  have k1 := k1.1 rfl
  have k2 := k2.1 rfl
  refine go5 ?_
  refine f_loop (fun n vs H => ∃ (i : Nat), vs = [.c (.ptr 0 0), i64 i] ∧ H = [.live ⟨[iC kind, cx, cy], T_api_Table, .rw⟩] ∧ n = X.length + 1 - i ∧ 1 ≤ i ∧ i ≤ X.length + 1 ∧ ∀ j (h : j + 1 < (X.map rt).length), j + 1 < i → (X.map rt)[j] < (X.map rt)[j + 1]) (by rfl) ⟨1, rfl, rfl, rfl, by omega, by omega, fun j _ h => by omega⟩ ?_
  rintro n vs H ⟨i, rfl, rfl, rfl, j1, j2, j3⟩
  refine go5 ?_
  cases hi : compare' Cm.lss (i : Int) (X.length : Int)
  case true =>
    simp [compare'] at hi
    have hi1 : i - 1 < X.length := by omega
    refine go5 ?_
    rw [show arith .sub .i64 (i : Int) 1 = ((i - 1 : Nat) : Int) by rw [ar_sub, wrap_i64 (by omega) (by omega)]; omega]
    refine go5 ?_
    refine ld_ls hx hi1 (by omega) rfl (fun cs hcs => ?_)
    obtain rfl := hcs
    refine go5 ?_
    refine ld_ls hx hi (by omega) rfl (fun cs hcs => ?_)
    obtain rfl := hcs
    refine go5 ?_
    refine call_C (q_Of (k1 _ (getL_mem hi1))) (fun u hu => ?_)
    obtain ⟨ds, rfl, hd⟩ := hu
    refine go5 ?_
    refine call_C (q_Of (k1 _ (getL_mem hi))) (fun u hu => ?_)
    obtain ⟨es, rfl, he⟩ := hu
    refine go5 ?_
    refine call_C (q_Cmp hd he (by decide)) (fun u hu => ?_)
    obtain rfl := hu
    refine go5 ?_
    rw [cq_geq]
    cases hg : dec (rt X[i] ≤ rt X[i - 1])
    · refine go5 ?_
      rw [addI1 i (by omega)]
      refine l_n (by rfl) (n' := X.length + 1 - (i + 1)) (by omega) ⟨i + 1, rfl, rfl, rfl, by omega, by omega, ?_⟩
      refine rises_take (by simpa using hi) j3 (fun h0 => ?_)
      have := dec_false.1 hg
      simp only [List.getElem_map]
      exact Rat.not_le.1 this
    · refine go5 ?_
      refine IntK.of (val_bad hs (fun h => ?_))
      have h5 := h.2.2.2.2.2.2 (i - 1) (by simp; omega)
      simp only [List.getElem_map, show i - 1 + 1 = i by omega] at h5
      exact absurd (dec_true.1 hg) (Rat.not_le.2 h5)
  simp [compare'] at hi
  have hr : Rises (X.map rt) := fun j hj => j3 j hj (by simp at hj; omega)
  refine go5 ?_
  exact IntK.of (val_ok hs ⟨by omega, by omega, h5, by omega, k1, k2, hr⟩)
theorem table_with {cx cy cl : C} {X Y l : List R2} (kind : Int) (hx : Ls elP cx X) (hy : Ls elP cy Y) (hc : Ls elP cl l) (hl3 : l.length < 1073741824) : semC Tryz.prog n_table_with [.agg [iC kind, cx, cy], .c cl] (IntK (withE kind X Y l)) := by
  refine semC_of_awpF ok_table_with rfl (show HFVs [.agg [iC kind, cx, cy], .c cl] from ⟨⟨trivial, hx.hf, hy.hf, trivial⟩, hc.hf, trivial⟩) ?_
  refine go5 ?_
  refine semH_of_semC (table_Validate kind hx hy) (fun u hu => ?_)
  obtain rfl := hu
  refine go5 ?_
  rw [neq_dec]
  cases h1 : dec (valE kind X Y ≠ 0)
  case true =>
    refine go5 ?_
    exact IntK.of (with_val (dec_true.1 h1))
  have h1 : valE kind X Y = 0 := Classical.byContradiction (dec_false.1 h1)
  refine go5 ?_
  refine f_loop (fun n vs H => ∃ (i : Nat), vs = [.c cl, i64 l.length, i64 i] ∧ n = l.length - i ∧ i ≤ l.length ∧ Valid (l.take i)) (by rfl) ⟨0, rfl, rfl, by omega, by intro p hp; simp at hp⟩ ?_
  rintro n vs H ⟨i, rfl, rfl, j1, j2⟩
  refine go5 ?_
  cases hi : compare' Cm.lss (i : Int) (l.length : Int)
  case false =>
    simp [compare'] at hi
    have ei : i = l.length := by omega
    subst ei
    rw [List.take_length] at j2
    refine go5 ?_
    exact IntK.of (with_ok h1 j2)
  simp [compare'] at hi
  refine go5 ?_
  refine ld_ls hc hi (by omega) rfl (fun cs hcs => ?_)
  obtain rfl := hcs
  refine go5 ?_
  refine semH_of_semC (rat_Validate l[i]) (fun u hu => ?_)
  obtain rfl := hu
  cases hz : dec (IsRat l[i].1 l[i].2)
  case false =>
    refine go5 ?_
    refine c_t (by simp [compare']) ?_
    refine go5 ?_
    exact IntK.of (with_bad h1 (fun h => dec_false.1 hz (h _ (getL_mem hi))))
  refine go5 ?_
  refine c_f (by simp [compare']) ?_
  refine go5 ?_
  rw [addI1 i (by omega)]
  exact l_n (by rfl) (by omega) ⟨i + 1, rfl, rfl, by omega, j2.step hi (dec_true.1 hz)⟩
theorem table_made_line {cx cy : C} {X Y : List R2} (hx : Ls elP cx X) (hy : Ls elP cy Y) (h : valE 1 X Y = 0) : semC Tryz.prog n_table_made [.agg [iC 1, cx, cy]] (MadeK (X.map rt) (Y.map rt) (lineP (X.map rt) (Y.map rt))) := by
  obtain ⟨h1, h2⟩ := val_zero h
  refine semC_of_awpF ok_table_made rfl (show HFVs [.agg [iC 1, cx, cy]] from ⟨⟨trivial, hx.hf, hy.hf, trivial⟩, trivial⟩) ?_
  refine go5 ?_
  refine call_C (num_In hx h2.2.2.2.2.1 (by omega)) (fun u hu => ?_)
  obtain ⟨dx, rfl, g1⟩ := hu
  refine go5 ?_
  refine call_C (num_In hy h2.2.2.2.2.2.1 (by omega)) (fun u hu => ?_)
  obtain ⟨dy, rfl, g2⟩ := hu
  refine go5 ?_
  refine c_t (by simp [compare']) ?_
  refine go5 ?_
  have hpos := List.length_pos_iff.2 h2.2.2.1
  have hlen := h2.2.2.2.1
  exact MadeK.fz (line_shape g1 g2 h2.2.2.2.2.2.2 (by simp; omega) (by simpa using hpos) (by simp; omega)) (by decide)
theorem table_Value {cx cy : C} {X Y : List R2} {pc : Nat → Rat → Rat} (kind : Int) (x : R2) (hx : Ls elP cx X) (hy : Ls elP cy Y) (hm : valE kind X Y = 0 → semC Tryz.prog n_table_made [.agg [iC kind, cx, cy]] (MadeK (X.map rt) (Y.map rt) pc)) : semC Tryz.prog n_table_Value [.agg [iC kind, cx, cy], .agg (ratC x)] (PairK (valueR pc kind X Y x)) := by
  refine semC_of_awpF ok_table_Value rfl (show HFVs [.agg [iC kind, cx, cy], .agg (ratC x)] from ⟨⟨trivial, hx.hf, hy.hf, trivial⟩, HFL_rat _, trivial⟩) ?_
  refine go8 ?_
  simp only [spanC, zeroC, ratC, zeroE, zeroS, List.set_cons_zero, List.set_cons_succ, List.nil_append, List.cons_append, List.append_nil, List.replicate_succ, List.replicate_zero, List.length_cons, List.length_nil, splice, List.take_succ_cons, List.take_zero, List.drop_succ_cons, List.drop_zero, List.take_nil, List.drop_nil, Nat.zero_add, Nat.reduceAdd, Nat.reduceMul, Int.reduceToNat, closeB, List.getElem?_cons_succ, List.getElem?_cons_zero]
  have hc : Ls elP (.imm 1 (ratC x)) [x] := .imm (.one rfl)
  refine semH_of_semC (table_with kind hx hy hc (by simp)) (fun u hu => ?_)
  obtain rfl := hu
  refine go8 ?_
  rw [neq_dec]
  cases h1 : dec (withE kind X Y [x] ≠ 0)
  case true =>
    refine go8 ?_
    refine PairK.bad ?_
    unfold valueR
    rw [dec_false.2 (dec_true.1 h1)]
    rfl
  have h1 : withE kind X Y [x] = 0 := Classical.byContradiction (dec_false.1 h1)
  obtain ⟨h2, h3⟩ := with_zero h1
  refine go8 ?_
  refine call_C (hm h2) (fun u hu => ?_)
  obtain ⟨s, dx, dy, K, rfl, hK, hS⟩ := hu
  refine go8 ?_
  refine call_C (q_Of (h3 x (by simp))) (fun u hu => ?_)
  obtain ⟨es, rfl, g1⟩ := hu
  refine go8 ?_
  refine call_C (table_value hS g1 (evK_cap hK.2)) (fun u hu => ?_)
  obtain ⟨fs, rfl, g2⟩ := hu
  refine go8 ?_
  refine call_C (table_number g2) (fun u hu => ?_)
  obtain rfl := hu
  refine go8 ?_
  refine PairK.of ?_
  unfold valueR
  rw [dec_true.2 h1]
  rfl
end Go.Proofs.YtjncgcnofiaiaaaGreat
