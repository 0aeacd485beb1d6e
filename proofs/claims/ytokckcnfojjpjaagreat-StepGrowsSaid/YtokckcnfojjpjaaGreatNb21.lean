/-
  Parts of the proof: Points along a direction (step.along), the rate of a system.
-/
import Derived.Test.YtokckcnfojjpjaaGreatNb20
set_option linter.unusedVariables false
set_option linter.unusedSimpArgs false
namespace Go.Proofs.YtokckcnfojjpjaaGreat
open Go.RowKit
set_option maxRecDepth 20000
section
variable {P : Program} {e : Env} {H : Hp} {K : Env → Hp → Prop} {rd : List DOp} {log : List (Nat × Option Nat)} {n0 i aid : Nat} {inc : List Nat} {T : Option Nat}
theorem d_keepA2 {d : Nat} {el : TypeId} {es bytes : Nat} {s x : AO} (hl : pN (.app el es bytes s x) inc = true) (hT : tch e (n0 + aid) (.app el es bytes s x) = T) (h : qC inc T log = true) (k : appX H el es bytes (s.ev e) (x.ev e) fun v H' => jX inc log H H' ∧ xI P n0 rd ((i, T) :: log) (put e d v) H' K) : xI P n0 (⟨i, aid, ⟨some d, .app el es bytes s x, none⟩, inc⟩ :: rd) log e H K := d_keep hl hT h (bJ k)
theorem d_keepC {d : Nat} {f : AO} {args : List AO} {g : FuncId} {us : List V} (hl : pN (.call f args) inc = true) (hT : tch e (n0 + aid) (.call f args) = T) (h : qC inc T log = true) (h1 : f.ev e = some (.c (.fn g []))) (h2 : evs e args = some us) (k : semH P g us H fun v H' => jX inc log H H' ∧ xI P n0 rd ((i, T) :: log) (put e d v) H' K) : xI P n0 (⟨i, aid, ⟨some d, .call f args, none⟩, inc⟩ :: rd) log e H K := d_keep hl hT h (pQ h1 h2 k)
end
def lowLog2 (n : Nat) (log : List (Nat × Option Nat)) : Bool := log.all fun p => match p.2 with
 | none => true
 | some b => Nat.ble (b + 1) n
theorem keep_low4 {F R R' : Hp} {inc : List Nat} {log : List (Nat × Option Nat)} (h : lowLog2 F.length log = true) : jX inc log (F ++ R) (F ++ R') := fun p hp _ b hb => by
 have h2 := List.all_eq_true.1 h p hp
 rw [hb] at h2
 have h3 : b < F.length := Nat.le_of_ble_eq_true h2
 rw [List.getElem?_append_left h3, List.getElem?_append_left h3]
theorem keep_low5 {F R' : Hp} {inc : List Nat} {log : List (Nat × Option Nat)} (h : lowLog2 F.length log = true) : jX inc log F (F ++ R') := by
 have := keep_low4 (F := F) (R := []) (R' := R') (inc := inc) h
 rwa [List.append_nil] at this
theorem go12 {A B : Prop} (k : B) (h : Held B → A := by
 intro hgo
 repeat (first | (refine g_o ?_; first | (refine o_some ?_; try (first | (refine x_q (by rfl) ?_; try (first | refine q_mv (by rfl) ?_ | refine wO (by rfl) ?_ | (refine uO ?_; try (first | refine uD (by rfl) (by assumption) ?_ | refine vA (by rfl) (by assumption) ?_ | refine vB (by rfl) ?_ | refine xY (by rfl) ?_ | refine xX (by rfl) ?_)) | (refine uQ ?_; try (first | refine uE (by rfl) (by rfl) (by assumption) (by omega) (by omega) ?_ | refine wS (by rfl) (by rfl) (by assumption) (by omega) (by omega) ?_ | refine wW (by rfl) (by rfl) (by decide) (by decide) ?_ | refine yG (by rfl) (by rfl) (by decide) (by decide) ?_ | refine wM (by rfl) (by rfl) (by decide) (by decide) ?_ | refine yG (by rfl) (by rfl) (by omega) (by omega) ?_)) | refine q_cm (by rfl) (by rfl) ?_ | refine q_ar (by rfl) (by rfl) (by rfl) ?_ | refine vJ (by rfl) ?_ | (refine uU ?_; try (first | refine wG (by rfl) ?_ | refine wH (by rfl) ?_ | refine vC (by rfl) ?_)) | refine uT (by rfl) (by rfl) ?_ | refine wN (by rfl) ?_ | refine wP (by rfl) ?_ | refine uK (by rfl) (by rfl) (by first | decide | omega) ?_ | refine uJ (by rfl) (by rfl) (by first | decide | omega) ?_ | refine uV (by rfl) (by rfl) ?_ | refine uW (by rfl) (by rfl) (by rfl) ?_ | refine uM (by rfl) ?_ | refine uL (by rfl) ?_ | refine xZ (by rfl) (by rfl) ?_ | refine wA (by rfl) (by rfl) ?_ | refine uI ?_ | refine uP ?_ | refine uS (by rfl) (by rfl) ?_ | refine vI (by rfl) (by rfl) ?_ | refine wC (by rfl) ?_ | refine q_mx (by rfl) (by rfl) ?_ | refine q_mn (by rfl) (by rfl) ?_ | refine uN (by rfl) (by rfl) (by rfl) ?_ | refine uR (by rfl) ?_ | refine vK (by rfl) ?_ | refine vL (by rfl) ?_ | refine wB (by rfl) ?_ | refine wQ (by rfl) (by rfl) ?_ | refine wR (by rfl) (by rfl) ?_)) | (refine gB ?_; try (first | (refine uX (by rfl) ?_; try (first | refine yN (by rfl) (by rfl) ?_ | refine yI (by rfl) (by rfl) ?_ | refine yN (yJ _ _) (by rfl) ?_ | refine yI (yJ _ _) (by rfl) ?_ | refine yN (xQ _ _ _ _) (by rfl) ?_ | refine yI (xQ _ _ _ _) (by rfl) ?_ | refine yN (xP _ _ _) (by rfl) ?_ | refine yI (xP _ _ _) (by rfl) ?_)) | (refine uY (by rfl) ?_; try (first | refine tC (by assumption) (by omega) (by omega) (fun _ _ => ?_) | refine vS (by omega) (by omega) ?_ | refine xN (Nat.le_of_ble_eq_true (by rfl)) ?_ | refine yS (by rfl) (by rfl) (by rfl) (by omega) ?_)))) | refine uZ (by rfl) (by rfl) (by rfl) (by rfl) (Nat.le_of_ble_eq_true (by rfl)) ?_ | (refine qO (by rfl) (by rfl) ?_; try (first | refine yS (by rfl) (by rfl) (by rfl) (Nat.le_of_ble_eq_true (by rfl)) ?_ | refine yS (by rfl) (by rfl) (by rfl) (by omega) ?_)) | refine pQ (by rfl) (by rfl) ?_ | refine x_box (by rfl) (by rfl) ?_ | refine pE ?_ | refine x_frzSl (by rfl) ?_ | refine bJ ?_ | refine gA ?_ | refine pC ?_ | refine pD (by rfl) (by rfl) (by rfl) (by rfl) ?_ | refine sT (by rfl) (by rfl) (by rfl) ?_)) | (refine o_nil ?_; try (first | refine s_n ?_ | refine s_r ?_ | refine s_e ?_ | refine k_n ?_ | refine k_r ?_ | refine k_e (by rfl) ?_ | refine k_o (by rfl) ?_ | refine l_r ?_ | refine l_e ?_ | refine b_r ?_ | refine b_n ?_)) | refine o_guard (by rfl) ?_ | refine bO (by rfl) ?_ | refine o_none ?_ | refine bP (by rfl) ?_) | (refine g_f ?_; first | refine f_seq ?_ | refine f_reg ?_ | (refine f_cond (by rfl) ?_; try (first | refine c_t (by rfl) ?_ | refine c_f (by rfl) ?_)) | refine f_block ?_ | refine f_skip ?_ | refine f_ret ?_ | refine f_exit ?_ | refine f_regD0 ?_ | refine f_regD ?_) | (refine g_s ?_; first | refine s_n ?_ | refine s_r ?_ | refine s_e ?_) | (refine g_d ?_; first | refine d_keepA2 (T := none) (by rfl) (by rfl) (by rfl) ?_ | refine d_late (T := none) (by rfl) (by rfl) (by rfl) (by rfl) ?_ | refine d_keepC (T := none) (by rfl) (by rfl) (by rfl) (by rfl) (by rfl) ?_ | (refine pX (T := none) (by rfl) (by rfl) ?_; try (first | (refine xd_q (by rfl) ?_; try (first | refine q_mv (by rfl) ?_ | refine wO (by rfl) ?_ | (refine uO ?_; try (first | refine uD (by rfl) (by assumption) ?_ | refine vA (by rfl) (by assumption) ?_ | refine vB (by rfl) ?_ | refine xY (by rfl) ?_ | refine xX (by rfl) ?_)) | (refine uQ ?_; try (first | refine uE (by rfl) (by rfl) (by assumption) (by omega) (by omega) ?_ | refine wS (by rfl) (by rfl) (by assumption) (by omega) (by omega) ?_ | refine wW (by rfl) (by rfl) (by decide) (by decide) ?_ | refine yG (by rfl) (by rfl) (by decide) (by decide) ?_ | refine wM (by rfl) (by rfl) (by decide) (by decide) ?_ | refine yG (by rfl) (by rfl) (by omega) (by omega) ?_)) | refine q_cm (by rfl) (by rfl) ?_ | refine q_ar (by rfl) (by rfl) (by rfl) ?_ | refine vJ (by rfl) ?_ | (refine uU ?_; try (first | refine wG (by rfl) ?_ | refine wH (by rfl) ?_ | refine vC (by rfl) ?_)) | refine uT (by rfl) (by rfl) ?_ | refine wN (by rfl) ?_ | refine wP (by rfl) ?_ | refine uK (by rfl) (by rfl) (by first | decide | omega) ?_ | refine uJ (by rfl) (by rfl) (by first | decide | omega) ?_ | refine uV (by rfl) (by rfl) ?_ | refine uW (by rfl) (by rfl) (by rfl) ?_ | refine uM (by rfl) ?_ | refine uL (by rfl) ?_ | refine xZ (by rfl) (by rfl) ?_ | refine wA (by rfl) (by rfl) ?_ | refine uI ?_ | refine uP ?_ | refine uS (by rfl) (by rfl) ?_ | refine vI (by rfl) (by rfl) ?_ | refine wC (by rfl) ?_ | refine q_mx (by rfl) (by rfl) ?_ | refine q_mn (by rfl) (by rfl) ?_ | refine uN (by rfl) (by rfl) (by rfl) ?_ | refine uR (by rfl) ?_ | refine vK (by rfl) ?_ | refine vL (by rfl) ?_ | refine wB (by rfl) ?_ | refine wQ (by rfl) (by rfl) ?_ | refine wR (by rfl) (by rfl) ?_)) | (refine tV ?_; try (first | (refine uX (by rfl) ?_; try (first | refine yN (by rfl) (by rfl) ?_ | refine yI (by rfl) (by rfl) ?_ | refine yN (yJ _ _) (by rfl) ?_ | refine yI (yJ _ _) (by rfl) ?_ | refine yN (xQ _ _ _ _) (by rfl) ?_ | refine yI (xQ _ _ _ _) (by rfl) ?_ | refine yN (xP _ _ _) (by rfl) ?_ | refine yI (xP _ _ _) (by rfl) ?_)) | (refine uY (by rfl) ?_; try (first | refine tC (by assumption) (by omega) (by omega) (fun _ _ => ?_) | refine vS (by omega) (by omega) ?_ | refine xN (Nat.le_of_ble_eq_true (by rfl)) ?_ | refine yS (by rfl) (by rfl) (by rfl) (by omega) ?_)))) | refine wX (by rfl) (by rfl) (by rfl) (by rfl) (Nat.le_of_ble_eq_true (by rfl)) ?_ | (refine vZ (by rfl) (by rfl) ?_; try (first | refine yS (by rfl) (by rfl) (by rfl) (Nat.le_of_ble_eq_true (by rfl)) ?_ | refine yS (by rfl) (by rfl) (by rfl) (by omega) ?_)) | refine tW (by rfl) (by rfl) ?_ | refine sY (by rfl) (by rfl) (by rfl) ?_ | refine uA (by rfl) ?_ | refine pP (by rfl) ?_)) | (refine pX (by rfl) (by rfl) ?_; try (first | (refine xd_q (by rfl) ?_; try (first | refine q_mv (by rfl) ?_ | refine wO (by rfl) ?_ | (refine uO ?_; try (first | refine uD (by rfl) (by assumption) ?_ | refine vA (by rfl) (by assumption) ?_ | refine vB (by rfl) ?_ | refine xY (by rfl) ?_ | refine xX (by rfl) ?_)) | (refine uQ ?_; try (first | refine uE (by rfl) (by rfl) (by assumption) (by omega) (by omega) ?_ | refine wS (by rfl) (by rfl) (by assumption) (by omega) (by omega) ?_ | refine wW (by rfl) (by rfl) (by decide) (by decide) ?_ | refine yG (by rfl) (by rfl) (by decide) (by decide) ?_ | refine wM (by rfl) (by rfl) (by decide) (by decide) ?_ | refine yG (by rfl) (by rfl) (by omega) (by omega) ?_)) | refine q_cm (by rfl) (by rfl) ?_ | refine q_ar (by rfl) (by rfl) (by rfl) ?_ | refine vJ (by rfl) ?_ | (refine uU ?_; try (first | refine wG (by rfl) ?_ | refine wH (by rfl) ?_ | refine vC (by rfl) ?_)) | refine uT (by rfl) (by rfl) ?_ | refine wN (by rfl) ?_ | refine wP (by rfl) ?_ | refine uK (by rfl) (by rfl) (by first | decide | omega) ?_ | refine uJ (by rfl) (by rfl) (by first | decide | omega) ?_ | refine uV (by rfl) (by rfl) ?_ | refine uW (by rfl) (by rfl) (by rfl) ?_ | refine uM (by rfl) ?_ | refine uL (by rfl) ?_ | refine xZ (by rfl) (by rfl) ?_ | refine wA (by rfl) (by rfl) ?_ | refine uI ?_ | refine uP ?_ | refine uS (by rfl) (by rfl) ?_ | refine vI (by rfl) (by rfl) ?_ | refine wC (by rfl) ?_ | refine q_mx (by rfl) (by rfl) ?_ | refine q_mn (by rfl) (by rfl) ?_ | refine uN (by rfl) (by rfl) (by rfl) ?_ | refine uR (by rfl) ?_ | refine vK (by rfl) ?_ | refine vL (by rfl) ?_ | refine wB (by rfl) ?_ | refine wQ (by rfl) (by rfl) ?_ | refine wR (by rfl) (by rfl) ?_)) | (refine tV ?_; try (first | (refine uX (by rfl) ?_; try (first | refine yN (by rfl) (by rfl) ?_ | refine yI (by rfl) (by rfl) ?_ | refine yN (yJ _ _) (by rfl) ?_ | refine yI (yJ _ _) (by rfl) ?_ | refine yN (xQ _ _ _ _) (by rfl) ?_ | refine yI (xQ _ _ _ _) (by rfl) ?_ | refine yN (xP _ _ _) (by rfl) ?_ | refine yI (xP _ _ _) (by rfl) ?_)) | (refine uY (by rfl) ?_; try (first | refine tC (by assumption) (by omega) (by omega) (fun _ _ => ?_) | refine vS (by omega) (by omega) ?_ | refine xN (Nat.le_of_ble_eq_true (by rfl)) ?_ | refine yS (by rfl) (by rfl) (by rfl) (by omega) ?_)))) | refine wX (by rfl) (by rfl) (by rfl) (by rfl) (Nat.le_of_ble_eq_true (by rfl)) ?_ | (refine vZ (by rfl) (by rfl) ?_; try (first | refine yS (by rfl) (by rfl) (by rfl) (Nat.le_of_ble_eq_true (by rfl)) ?_ | refine yS (by rfl) (by rfl) (by rfl) (by omega) ?_)) | refine tW (by rfl) (by rfl) ?_ | refine sY (by rfl) (by rfl) (by rfl) ?_ | refine uA (by rfl) ?_ | refine pP (by rfl) ?_)) | (refine d_nil ?_; try (first | refine s_n ?_ | refine s_r ?_ | refine s_e ?_ | refine k_n ?_ | refine k_r ?_ | refine k_e (by rfl) ?_ | refine k_o (by rfl) ?_ | refine l_r ?_ | refine l_e ?_ | refine b_r ?_ | refine b_n ?_)) | refine d_none (by rfl) (by rfl) ?_ | refine d_guard (by rfl) (by rfl) (by rfl) ?_) | (refine g_x ?_; first | (refine x_q (by rfl) ?_; try (first | refine q_mv (by rfl) ?_ | refine wO (by rfl) ?_ | (refine uO ?_; try (first | refine uD (by rfl) (by assumption) ?_ | refine vA (by rfl) (by assumption) ?_ | refine vB (by rfl) ?_ | refine xY (by rfl) ?_ | refine xX (by rfl) ?_)) | (refine uQ ?_; try (first | refine uE (by rfl) (by rfl) (by assumption) (by omega) (by omega) ?_ | refine wS (by rfl) (by rfl) (by assumption) (by omega) (by omega) ?_ | refine wW (by rfl) (by rfl) (by decide) (by decide) ?_ | refine yG (by rfl) (by rfl) (by decide) (by decide) ?_ | refine wM (by rfl) (by rfl) (by decide) (by decide) ?_ | refine yG (by rfl) (by rfl) (by omega) (by omega) ?_)) | refine q_cm (by rfl) (by rfl) ?_ | refine q_ar (by rfl) (by rfl) (by rfl) ?_ | refine vJ (by rfl) ?_ | (refine uU ?_; try (first | refine wG (by rfl) ?_ | refine wH (by rfl) ?_ | refine vC (by rfl) ?_)) | refine uT (by rfl) (by rfl) ?_ | refine wN (by rfl) ?_ | refine wP (by rfl) ?_ | refine uK (by rfl) (by rfl) (by first | decide | omega) ?_ | refine uJ (by rfl) (by rfl) (by first | decide | omega) ?_ | refine uV (by rfl) (by rfl) ?_ | refine uW (by rfl) (by rfl) (by rfl) ?_ | refine uM (by rfl) ?_ | refine uL (by rfl) ?_ | refine xZ (by rfl) (by rfl) ?_ | refine wA (by rfl) (by rfl) ?_ | refine uI ?_ | refine uP ?_ | refine uS (by rfl) (by rfl) ?_ | refine vI (by rfl) (by rfl) ?_ | refine wC (by rfl) ?_ | refine q_mx (by rfl) (by rfl) ?_ | refine q_mn (by rfl) (by rfl) ?_ | refine uN (by rfl) (by rfl) (by rfl) ?_ | refine uR (by rfl) ?_ | refine vK (by rfl) ?_ | refine vL (by rfl) ?_ | refine wB (by rfl) ?_ | refine wQ (by rfl) (by rfl) ?_ | refine wR (by rfl) (by rfl) ?_)) | (refine gB ?_; try (first | (refine uX (by rfl) ?_; try (first | refine yN (by rfl) (by rfl) ?_ | refine yI (by rfl) (by rfl) ?_ | refine yN (yJ _ _) (by rfl) ?_ | refine yI (yJ _ _) (by rfl) ?_ | refine yN (xQ _ _ _ _) (by rfl) ?_ | refine yI (xQ _ _ _ _) (by rfl) ?_ | refine yN (xP _ _ _) (by rfl) ?_ | refine yI (xP _ _ _) (by rfl) ?_)) | (refine uY (by rfl) ?_; try (first | refine tC (by assumption) (by omega) (by omega) (fun _ _ => ?_) | refine vS (by omega) (by omega) ?_ | refine xN (Nat.le_of_ble_eq_true (by rfl)) ?_ | refine yS (by rfl) (by rfl) (by rfl) (by omega) ?_)))) | refine uZ (by rfl) (by rfl) (by rfl) (by rfl) (Nat.le_of_ble_eq_true (by rfl)) ?_ | (refine qO (by rfl) (by rfl) ?_; try (first | refine yS (by rfl) (by rfl) (by rfl) (Nat.le_of_ble_eq_true (by rfl)) ?_ | refine yS (by rfl) (by rfl) (by rfl) (by omega) ?_)) | refine pQ (by rfl) (by rfl) ?_ | refine x_box (by rfl) (by rfl) ?_ | refine pE ?_ | refine x_frzSl (by rfl) ?_ | refine bJ ?_ | refine gA ?_ | refine pC ?_ | refine pD (by rfl) (by rfl) (by rfl) (by rfl) ?_ | refine sT (by rfl) (by rfl) (by rfl) ?_) | (refine g_q ?_; first | refine q_mv (by rfl) ?_ | refine wO (by rfl) ?_ | (refine uO ?_; try (first | refine uD (by rfl) (by assumption) ?_ | refine vA (by rfl) (by assumption) ?_ | refine vB (by rfl) ?_ | refine xY (by rfl) ?_ | refine xX (by rfl) ?_)) | (refine uQ ?_; try (first | refine uE (by rfl) (by rfl) (by assumption) (by omega) (by omega) ?_ | refine wS (by rfl) (by rfl) (by assumption) (by omega) (by omega) ?_ | refine wW (by rfl) (by rfl) (by decide) (by decide) ?_ | refine yG (by rfl) (by rfl) (by decide) (by decide) ?_ | refine wM (by rfl) (by rfl) (by decide) (by decide) ?_ | refine yG (by rfl) (by rfl) (by omega) (by omega) ?_)) | refine q_cm (by rfl) (by rfl) ?_ | refine q_ar (by rfl) (by rfl) (by rfl) ?_ | refine vJ (by rfl) ?_ | (refine uU ?_; try (first | refine wG (by rfl) ?_ | refine wH (by rfl) ?_ | refine vC (by rfl) ?_)) | refine uT (by rfl) (by rfl) ?_ | refine wN (by rfl) ?_ | refine wP (by rfl) ?_ | refine uK (by rfl) (by rfl) (by first | decide | omega) ?_ | refine uJ (by rfl) (by rfl) (by first | decide | omega) ?_ | refine uV (by rfl) (by rfl) ?_ | refine uW (by rfl) (by rfl) (by rfl) ?_ | refine uM (by rfl) ?_ | refine uL (by rfl) ?_ | refine xZ (by rfl) (by rfl) ?_ | refine wA (by rfl) (by rfl) ?_ | refine uI ?_ | refine uP ?_ | refine uS (by rfl) (by rfl) ?_ | refine vI (by rfl) (by rfl) ?_ | refine wC (by rfl) ?_ | refine q_mx (by rfl) (by rfl) ?_ | refine q_mn (by rfl) (by rfl) ?_ | refine uN (by rfl) (by rfl) (by rfl) ?_ | refine uR (by rfl) ?_ | refine vK (by rfl) ?_ | refine vL (by rfl) ?_ | refine wB (by rfl) ?_ | refine wQ (by rfl) (by rfl) ?_ | refine wR (by rfl) (by rfl) ?_) | (refine g_c ?_; first | refine c_t (by rfl) ?_ | refine c_f (by rfl) ?_) | (refine g_k ?_; first | refine k_n ?_ | refine k_r ?_ | refine k_e (by rfl) ?_ | refine k_o (by rfl) ?_) | (refine g_lo ?_; first | refine l_r ?_ | refine l_e ?_) | (refine g_xd ?_; first | (refine xd_q (by rfl) ?_; try (first | refine q_mv (by rfl) ?_ | refine wO (by rfl) ?_ | (refine uO ?_; try (first | refine uD (by rfl) (by assumption) ?_ | refine vA (by rfl) (by assumption) ?_ | refine vB (by rfl) ?_ | refine xY (by rfl) ?_ | refine xX (by rfl) ?_)) | (refine uQ ?_; try (first | refine uE (by rfl) (by rfl) (by assumption) (by omega) (by omega) ?_ | refine wS (by rfl) (by rfl) (by assumption) (by omega) (by omega) ?_ | refine wW (by rfl) (by rfl) (by decide) (by decide) ?_ | refine yG (by rfl) (by rfl) (by decide) (by decide) ?_ | refine wM (by rfl) (by rfl) (by decide) (by decide) ?_ | refine yG (by rfl) (by rfl) (by omega) (by omega) ?_)) | refine q_cm (by rfl) (by rfl) ?_ | refine q_ar (by rfl) (by rfl) (by rfl) ?_ | refine vJ (by rfl) ?_ | (refine uU ?_; try (first | refine wG (by rfl) ?_ | refine wH (by rfl) ?_ | refine vC (by rfl) ?_)) | refine uT (by rfl) (by rfl) ?_ | refine wN (by rfl) ?_ | refine wP (by rfl) ?_ | refine uK (by rfl) (by rfl) (by first | decide | omega) ?_ | refine uJ (by rfl) (by rfl) (by first | decide | omega) ?_ | refine uV (by rfl) (by rfl) ?_ | refine uW (by rfl) (by rfl) (by rfl) ?_ | refine uM (by rfl) ?_ | refine uL (by rfl) ?_ | refine xZ (by rfl) (by rfl) ?_ | refine wA (by rfl) (by rfl) ?_ | refine uI ?_ | refine uP ?_ | refine uS (by rfl) (by rfl) ?_ | refine vI (by rfl) (by rfl) ?_ | refine wC (by rfl) ?_ | refine q_mx (by rfl) (by rfl) ?_ | refine q_mn (by rfl) (by rfl) ?_ | refine uN (by rfl) (by rfl) (by rfl) ?_ | refine uR (by rfl) ?_ | refine vK (by rfl) ?_ | refine vL (by rfl) ?_ | refine wB (by rfl) ?_ | refine wQ (by rfl) (by rfl) ?_ | refine wR (by rfl) (by rfl) ?_)) | (refine tV ?_; try (first | (refine uX (by rfl) ?_; try (first | refine yN (by rfl) (by rfl) ?_ | refine yI (by rfl) (by rfl) ?_ | refine yN (yJ _ _) (by rfl) ?_ | refine yI (yJ _ _) (by rfl) ?_ | refine yN (xQ _ _ _ _) (by rfl) ?_ | refine yI (xQ _ _ _ _) (by rfl) ?_ | refine yN (xP _ _ _) (by rfl) ?_ | refine yI (xP _ _ _) (by rfl) ?_)) | (refine uY (by rfl) ?_; try (first | refine tC (by assumption) (by omega) (by omega) (fun _ _ => ?_) | refine vS (by omega) (by omega) ?_ | refine xN (Nat.le_of_ble_eq_true (by rfl)) ?_ | refine yS (by rfl) (by rfl) (by rfl) (by omega) ?_)))) | refine wX (by rfl) (by rfl) (by rfl) (by rfl) (Nat.le_of_ble_eq_true (by rfl)) ?_ | (refine vZ (by rfl) (by rfl) ?_; try (first | refine yS (by rfl) (by rfl) (by rfl) (Nat.le_of_ble_eq_true (by rfl)) ?_ | refine yS (by rfl) (by rfl) (by rfl) (by omega) ?_)) | refine tW (by rfl) (by rfl) ?_ | refine sY (by rfl) (by rfl) (by rfl) ?_ | refine uA (by rfl) ?_ | refine pP (by rfl) ?_) | (refine g_l ?_; first | (refine uX (by rfl) ?_; try (first | refine yN (by rfl) (by rfl) ?_ | refine yI (by rfl) (by rfl) ?_ | refine yN (yJ _ _) (by rfl) ?_ | refine yI (yJ _ _) (by rfl) ?_ | refine yN (xQ _ _ _ _) (by rfl) ?_ | refine yI (xQ _ _ _ _) (by rfl) ?_ | refine yN (xP _ _ _) (by rfl) ?_ | refine yI (xP _ _ _) (by rfl) ?_)) | (refine uY (by rfl) ?_; try (first | refine tC (by assumption) (by omega) (by omega) (fun _ _ => ?_) | refine vS (by omega) (by omega) ?_ | refine xN (Nat.le_of_ble_eq_true (by rfl)) ?_ | refine yS (by rfl) (by rfl) (by rfl) (by omega) ?_))) | (refine g_len ?_; first | refine uD (by rfl) (by assumption) ?_ | refine vA (by rfl) (by assumption) ?_ | refine vB (by rfl) ?_ | refine xY (by rfl) ?_ | refine xX (by rfl) ?_) | (refine g_nil ?_; first | refine wG (by rfl) ?_ | refine wH (by rfl) ?_ | refine vC (by rfl) ?_) | (refine g_iad ?_; first | refine uE (by rfl) (by rfl) (by assumption) (by omega) (by omega) ?_ | refine wS (by rfl) (by rfl) (by assumption) (by omega) (by omega) ?_ | refine wW (by rfl) (by rfl) (by decide) (by decide) ?_ | refine yG (by rfl) (by rfl) (by decide) (by decide) ?_ | refine wM (by rfl) (by rfl) (by decide) (by decide) ?_ | refine yG (by rfl) (by rfl) (by omega) (by omega) ?_) | (refine g_box ?_; first | refine yN (by rfl) (by rfl) ?_ | refine yI (by rfl) (by rfl) ?_ | refine yN (yJ _ _) (by rfl) ?_ | refine yI (yJ _ _) (by rfl) ?_ | refine yN (xQ _ _ _ _) (by rfl) ?_ | refine yI (xQ _ _ _ _) (by rfl) ?_ | refine yN (xP _ _ _) (by rfl) ?_ | refine yI (xP _ _ _) (by rfl) ?_) | (refine g_cells ?_; first | refine tC (by assumption) (by omega) (by omega) (fun _ _ => ?_) | refine vS (by omega) (by omega) ?_ | refine xN (Nat.le_of_ble_eq_true (by rfl)) ?_) | (refine g_st ?_; first | refine yS (by rfl) (by rfl) (by rfl) (Nat.le_of_ble_eq_true (by rfl)) ?_) | (refine g_b ?_; first | refine b_r ?_ | refine b_n ?_) | (refine g_r ?_; first | refine r_tmp (by rfl) ?_ | refine r_cell ?_ | refine r_nil ?_))
 exact hgo.out) : A := h ⟨k⟩
theorem along_get {x k : List Rat} {c : Rat} {i : Nat} (h : k.length = x.length) (hi : i < x.length) : (xG x c k)[i]'(by simp [xG]; omega) = x[i] + c * k[i]'(by omega) := by simp [xG]
theorem wT {x k : List Rat} {c : Rat} (h : k.length = x.length) : (xG x c k).length = x.length := by simp [xG]; omega
theorem sC {a b d : Nat} {x k : List Rat} {c : Rat} (hx : CpL a x) (hc : CpL b [c]) (hk : CpL d k) : CpL (a + b + d + 1) (xG x c k) := by
 obtain ⟨D, h1, h2, h3⟩ := hx
 obtain ⟨E, g1, g2, g3⟩ := hc
 obtain ⟨F, f1, f2, f3⟩ := hk
 refine ⟨D * (E * F), Nat.mul_pos h1 (Nat.mul_pos g1 f1), ?_, fun q hq => ?_⟩
 ·refine Nat.le_trans (two_mul (e := a + (b + d)) rfl h2 (two_mul (e := b + d) rfl g2 f2)) (Nat.pow_le_pow_right (by decide) (by omega))
 ·unfold xG at hq
  obtain ⟨i, hi, rfl⟩ := List.getElem_of_mem hq
  rw [List.getElem_zipWith]
  simp only [List.length_zipWith] at hi
  have c1 := (h3 _ (List.getElem_mem (show i < x.length by omega))).dvd (E := D * (E * F)) ⟨E * F, rfl⟩
  have c2 := ((g3 c (by simp)).mul (f3 _ (List.getElem_mem (show i < k.length by omega)))).dvd (E := D * (E * F)) ⟨D, Nat.mul_comm _ _⟩
  refine (c1.add c2).mono ?_
  rw [← Nat.pow_add, Nat.pow_succ]
  have e1 := Nat.pow_le_pow_right (show 0 < 2 by decide) (show a ≤ a + b + d by omega)
  have e2 := Nat.pow_le_pow_right (show 0 < 2 by decide) (show b + d ≤ a + b + d by omega)
  omega
attribute [local irreducible] yA semH semC qLen qNil qIad qSlc qIdx yW yL xD appX appI slcX awpF yP xI xopF xR qval lval seqQ xL wJ wI xW cnd arith IntKind.wrap
theorem step_along {cx ck : C} {cc : List C} {x k : List Rat} {c : Rat} {n : Nat} (hx : Ls (elQ 4194304) cx x) (hc : IQ 4194304 cc c) (hk : Ls (elQ 4194304) ck k) (hl : k.length = x.length) (hlen : x.length < 1048576) (hb : CpL n (xG x c k)) (hn : n + n < 134217728) : semC Tryz.prog n_step_along [.c cx, .agg cc, .c ck] (LsK (elQ 4194304) (xG x c k)) := by
 refine yD ok_step_along rfl (show HFVs [.c cx, .agg cc, .c ck] from ⟨hx.hf, hc.hf, hk.hf, trivial⟩) ?_
 obtain ⟨a0, a1, a2, a3, a4, a5, rfl⟩ := id hc.six
 refine go11 ?_
 refine vT (by rfl) (by rfl) ⟨by omega, by omega, by omega, by omega⟩ ?_
 refine go11 ?_
 simp only [tN, tM, ratC, tY, tX, List.set_cons_zero, List.set_cons_succ, List.nil_append, List.cons_append, List.append_nil, List.replicate_succ, List.replicate_zero, List.length_cons, List.length_nil, splice, List.take_succ_cons, List.take_zero, List.drop_succ_cons, List.drop_zero, List.take_nil, List.drop_nil, Nat.zero_add, Nat.reduceAdd, Nat.reduceMul, Int.reduceToNat, wF, List.getElem?_cons_succ, List.getElem?_cons_zero]
 have hal := wT (c := c) hl
 refine yT (fun w vs H => ∃ (i : Nat) (cells : List C), vs = [.c cx, .c ck, .c (.ptr 0 0), .c (.sl 1 0 x.length (some x.length) 6), i64 x.length, i64 i] ∧ H = [.live ⟨[a0, a1, a2, a3, a4, a5], yZ, .rw⟩, .live ⟨cells, yZ, .rw⟩] ∧ w = x.length - i ∧ i ≤ x.length ∧ Fill (elQ 4194304) bH x.length cells ((xG x c k).take i)) (by rfl) ⟨0, _, rfl, rfl, rfl, by omega, .zero rfl⟩ ?_
 rintro w vs H ⟨i, cells, rfl, rfl, rfl, i1, i2⟩
 have hcl : cells.length = x.length * 6 := i2.len
 have htl : ((xG x c k).take i).length = i := by rw [List.length_take]; omega
 refine go11 ?_
 cases hi : yA Cm.lss (i : Int) (x.length : Int)
 case false =>
  simp [yA] at hi
  have ei : i = x.length := by omega
  subst ei
  rw [sD (by omega)] at i2
  have h4 := i2.done (by omega)
  have h5 := Ls.imm h4
  rw [hal] at h5
  refine go11 ?_
  exact ⟨_, .c (fz_sl (bx := ⟨cells, yZ, .rw⟩) (ds := cells) (by rfl) (by simp) (by simp) (by rw [List.drop_zero, List.take_of_length_le (by simp only; omega)]) h4.hf), _, rfl, h5⟩
 simp [yA] at hi
 refine go11 ?_
 refine qD hx (i := i) hi (by omega) rfl (fun cs hcs => ?_)
 refine go11 ?_
 refine qD hk (i := i) (by omega) (by omega) rfl (fun ds hds => ?_)
 refine go11 ?_
 first | refine yE (uC hc hds (by decide)) (fun u hu => ?_) | refine yB (uC hc hds (by decide)) (fun u hu => ?_)
 obtain ⟨es, rfl, g1⟩ := hu
 refine go11 ?_
 first | refine yE (tL hcs g1 (by decide)) (fun u hu => ?_) | refine yB (tL hcs g1 (by decide)) (fun u hu => ?_)
 obtain ⟨gs, rfl, g2⟩ := hu
 rw [← along_get hl hi] at g2
 have g2 := g2.tightS (hb.bd (k := 4194304) (by omega) (List.getElem_mem (by omega)))
 obtain ⟨_, _, _, _, _, _, rfl⟩ := id g2.six
 refine go11 ?_
 rw [xV i (by omega)]
 have h4 := i2.put (cs := _) (a := _) (by rw [htl]; exact hi) g2
 rw [htl] at h4
 refine l_n (by rfl) (n' := x.length - (i + 1)) (by omega) ⟨i + 1, _, rfl, by rw [Nat.zero_add, Int.toNat_natCast]; rfl, rfl, by omega, ?_⟩
 rw [vD (show i < (xG x c k).length by omega)]
 exact h4
theorem slices_CloneH {k : Nat} {c : C} {l : List Rat} {H : Hp} {K : V → Hp → Prop} (hc : Ls (elQ k) c l) (hl : l.length < 1048576) (h : ∀ R' c', Out (elQ k) yZ H.length (H ++ R') c' l → K (.c c') (H ++ R')) : semH Tryz.prog n_slices_Clone_sl_num_Q_num_Q [.c c] H K := by
 refine qQ ok_slices_Clone_sl_num_Q_num_Q rfl ?_
 cases hc with
 | nil =>
  refine go11 ?_
  have := h [] .nilSl .nil
  rw [List.append_nil] at this
  exact this
 | @imm ds l h' =>
  refine go2 ?_
  refine app_lsS (F := H) (R := [.live ⟨[], yZ, .rw⟩]) (c := .sl H.length 0 0 (some 0) 6) (out := []) (E := elQ k) rfl (.sl (cells := []) (ds := []) (Nat.le_refl _) (yJ _ _) rfl rfl .nil) (by rfl) (by rfl) (.imm h') rfl (by simp; omega) (fun R' c' q => ?_)
  refine go2 ?_
  exact h R' c' q
theorem step_rate {cf cx : C} {ch ct : List C} {f : List Pl} {x : List Rat} {h t : Rat} {n : Nat} (hc : Ls elM cf f) (hf : SysOk (x.length + 1) f) (hh : IQ 4194304 ch h) (hx : Ls (elQ 4194304) cx x) (ht : IQ 4194304 ct t) (hl : x.length < 1048575) (hb : CpL n (x ++ [t])) (hn : 2446 + 24 * n < 134217728) : semC Tryz.prog n_step_system_rate [.agg (cf :: ch), .c cx, .agg ct] (LsK (elQ 4194304) (jH f (x ++ [t]))) := by
 refine yD ok_step_system_rate rfl (show HFVs [.agg (cf :: ch), .c cx, .agg ct] from ⟨⟨hc.hf, hh.hf⟩, hx.hf, ht.hf, trivial⟩) ?_
 obtain ⟨a0, a1, a2, a3, a4, a5, rfl⟩ := id hh.six
 obtain ⟨b0, b1, b2, b3, b4, b5, rfl⟩ := id ht.six
 refine go12 ?_
 refine slices_CloneH hx (by omega) (fun R c q => ⟨keep_low5 (F := [.live ⟨[cf, a0, a1, a2, a3, a4, a5], vO, .rw⟩, .live ⟨[b0, b1, b2, b3, b4, b5], yZ, .rw⟩]) (by rfl), ?_⟩)
 refine go12 ?_
 refine app_imm (bytes := 80) (F := [.live ⟨[cf, a0, a1, a2, a3, a4, a5], vO, .rw⟩, .live ⟨[b0, b1, b2, b3, b4, b5], yZ, .rw⟩]) (R := R) (a := t) rfl q (by rfl) (by rfl) rfl ht (by omega) (fun R2 o2 q2 => ?_)
 refine ⟨keep_low4 (F := [.live ⟨[cf, a0, a1, a2, a3, a4, a5], vO, .rw⟩, .live ⟨[b0, b1, b2, b3, b4, b5], yZ, .rw⟩]) (by rfl), ?_⟩
 refine go12 ?_
 obtain ⟨bs, d, f1, l1⟩ := q2.closeS
 refine xB bs (.cons (.c (.hf hc.hf)) (.cons (.c f1) .nil)) (step_At hc (by rw [List.length_append]; exact hf) l1 hb hn) (fun u hu => ?_)
 obtain ⟨c3, rfl, h3⟩ := hu
 refine go12 ?_
 exact LsK.fz h3
end Go.Proofs.YtokckcnfojjpjaaGreat

set_option linter.unusedVariables false
set_option linter.unusedSimpArgs false
namespace Go.Proofs.YtokckcnfojjpjaaGreat
open Go.RowKit
set_option maxRecDepth 20000
def flQ (q : Rat) : Int := (rp q).1 / (rp q).2
noncomputable def roundI (q : Rat) (g : Int) : Int := bif dec ((1 : Rat) / 2 < q * g - flQ (q * g) ∨ (q * g - flQ (q * g) = (1 : Rat) / 2 ∧ flQ (q * g) % 2 = 1)) then flQ (q * g) + 1 else flQ (q * g)
noncomputable def gO (q : Rat) (g : Int) : Rat := (roundI q g : Rat) / (g : Rat)
noncomputable def rdV (g : Int) (q : Rat) : Rat := bif dec (0 < g) then gO q g else q
theorem and_u32 {n : Nat} (h : n < 4294967296) : arith .and .u32 (n : Int) 1 = ((n % 2 : Nat) : Int) := by
 show IntKind.u32.wrap (((BitVec.ofInt 32 (n : Int) &&& BitVec.ofInt 32 1).toNat : Nat) : Int) = _
 rw [xA]
 have e : (BitVec.ofInt 32 (n : Int) &&& BitVec.ofInt 32 1).toNat = n % 2 := by
  rw [BitVec.toNat_and]
  have e1 : (BitVec.ofInt 32 (n : Int)).toNat = n := by
   rw [BitVec.toNat_ofInt]
   omega
  rw [e1, show (BitVec.ofInt 32 1).toNat = 1 by decide, Nat.and_one_is_mod]
 rw [e]
 omega
theorem and_i64 {v : Int} : arith .and .i64 v 1 = v % 2 := by
 show IntKind.i64.wrap (((BitVec.ofInt 64 v &&& BitVec.ofInt 64 1).toNat : Nat) : Int) = _
 have e : (BitVec.ofInt 64 v &&& BitVec.ofInt 64 1).toNat = (v % 2).toNat := by
  rw [BitVec.toNat_and, show (BitVec.ofInt 64 1).toNat = 1 by decide, Nat.and_one_is_mod, BitVec.toNat_ofInt]
  omega
 rw [e, yF (by omega) (by omega)]
 omega
theorem val_odd {l : List Nat} (h : 0 < l.length) : val l % 2 = l[0] % 2 := by
 cases l with
 | nil => cases h
 | cons a l =>
  simp only [List.getElem_cons_zero, val]
  omega
theorem amt_odd (neg : Bool) (n : Nat) : (amt neg n % 2 = 1) ↔ n % 2 = 1 := by
 cases neg <;> simp only [amt, cond_false, cond_true] <;> omega
theorem fl_bd {k : Nat} {q : Rat} (h : Bd k (rp q)) : Sz k (flQ q) := by
 unfold flQ
 have h1 := h.n
 have h2 := h.pos
 unfold Sz at *
 exact Nat.lt_of_le_of_lt (ediv_le h2) h1
attribute [local irreducible] yA semH semC qLen qNil qIad qSlc qIdx yW yL xD appX appI slcX awpF yP xI xopF xR qval lval seqQ xL wJ wI xW cnd arith IntKind.wrap
theorem tZ {a b : Int} (h1 : a.natAbs < 4294967296) (h2 : b.natAbs < 4294967296) (h0 : b ≠ 0) : semC Tryz.prog n_num_Frac [i64 a, i64 b] (QV 1 ((a : Rat) / (b : Rat))) := by
 refine yD ok_num_Frac rfl (show HFVs [i64 a, i64 b] from ⟨trivial, trivial, trivial⟩) ?_
 have s1 : Sz 1 a := by unfold Sz; simpa using h1
 have s2 : Sz 1 b := by unfold Sz; simpa using h2
 refine go11 ?_
 first | refine yE (qB a (by omega) (by omega)) (fun u hu => ?_) | refine yB (qB a (by omega) (by omega)) (fun u hu => ?_)
 obtain ⟨es, rfl, g1⟩ := hu
 obtain ⟨_, _, _, rfl⟩ := g1.three
 refine go11 ?_
 first | refine yE (qB b (by omega) (by omega)) (fun u hu => ?_) | refine yB (qB b (by omega) (by omega)) (fun u hu => ?_)
 obtain ⟨fs, rfl, g2⟩ := hu
 obtain ⟨_, _, _, rfl⟩ := g2.three
 refine go11 ?_
 refine yB (uB (fun u hu => sH.rat hu h0 (Rat.divInt_eq_div a b) s1 s2) (qX (Sz.cl (n := 1) (by decide)) (quoOk (by decide)) g1 g2 s1 s2 h0)) (fun u hu => ?_)
 obtain ⟨gs, rfl, g3⟩ := hu
 obtain ⟨_, _, _, _, _, _, rfl⟩ := id g3.six
 refine go11 ?_
 exact QV.fz g3
theorem num_Z_Odd {cs : List C} {x : Int} (hx : IsZ cs x) : semC Tryz.prog n_num_Z_Odd [.agg cs] (sU (x % 2 = 1)) := by
 refine yD ok_num_Z_Odd rfl (show HFVs [.agg cs] from ⟨hx.hf, trivial⟩) ?_
 rcases hx.look with ⟨rfl, x1, x2⟩ | ⟨lx, nx, rfl, xn, xv, xe⟩
 ·refine go11 ?_
  rw [and_i64]
  cases hq : yA Cm.eql (x % 2) 1
  ·simp [yA] at hq
   exact ⟨_, .c (.hf trivial), false, rfl, ⟨fun h => (by cases h), fun h => absurd h hq⟩⟩
  ·simp [yA] at hq
   exact ⟨_, .c (.hf trivial), true, rfl, ⟨fun _ => hq, fun _ => rfl⟩⟩
 ·have hl : 0 < lx.length := by
   rcases Nat.eq_zero_or_pos lx.length with h | h
   ·have := List.eq_nil_of_length_eq_zero h
    subst this
    simp [val] at xv
   ·exact h
  have hw : Wd (.imm lx.length (lx.map W)) lx := .imm lx
  have ha : at0 lx 0 = lx[0] := by simp [at0, hl]
  have hlt : at0 lx 0 < 4294967296 := by rw [ha]; exact xn.1 _ (List.getElem_mem hl)
  have ho : (x % 2 = 1) ↔ at0 lx 0 % 2 = 1 := by rw [xe, amt_odd, val_odd hl, ha]
  refine go11 ?_
  rw [show ((0 : Int).toNat) = 0 from rfl, and_u32 hlt]
  cases hq : yA Cm.eql ((at0 lx 0 % 2 : Nat) : Int) 1
  ·simp [yA] at hq
   refine go11 ?_
   exact ⟨_, .c (.hf trivial), false, rfl, ⟨fun h => (by cases h), fun h => absurd (ho.1 h) (by omega)⟩⟩
  ·simp [yA] at hq
   refine go11 ?_
   exact ⟨_, .c (.hf trivial), true, rfl, ⟨fun _ => ho.2 (by omega), fun _ => rfl⟩⟩
theorem num_Q_Round {k : Nat} {cs : List C} {q : Rat} {g : Int} (hx : IQ k cs q) (hg : 0 < g) (hg2 : g < 4294967296) (hk : 3 * k + 8 ≤ 134217728) : semC Tryz.prog n_num_Q_Round [.agg cs, i64 g] (QV (k + 3) (gO q g)) := by
 refine yD ok_num_Q_Round rfl (show HFVs [.agg cs, i64 g] from ⟨hx.hf, trivial, trivial⟩) ?_
 obtain ⟨a0, a1, a2, a3, a4, a5, rfl⟩ := id hx.six
 refine go11 ?_
 first | refine yE (vG (g := g) (by omega)) (fun u hu => ?_) | refine yB (vG (g := g) (by omega)) (fun u hu => ?_)
 obtain ⟨es, rfl, g1⟩ := hu
 refine go11 ?_
 first | refine yE (uC hx g1 (by omega)) (fun u hu => ?_) | refine yB (uC hx g1 (by omega)) (fun u hu => ?_)
 obtain ⟨fs, rfl, g2⟩ := hu
 have e : (q * ((g : Int) : Rat)) = q * (g : Rat) := rfl
 obtain ⟨f0, f1, f2, f3, f4, f5, rfl⟩ := id g2.six
 refine go11 ?_
 simp only [tN, tM, ratC, tY, tX, List.set_cons_zero, List.set_cons_succ, List.nil_append, List.cons_append, List.append_nil, List.replicate_succ, List.replicate_zero, List.length_cons, List.length_nil, splice, List.take_succ_cons, List.take_zero, List.drop_succ_cons, List.drop_zero, List.take_nil, List.drop_nil, Nat.zero_add, Nat.reduceAdd, Nat.reduceMul, Int.reduceToNat, wF, List.getElem?_cons_succ, List.getElem?_cons_zero]
 first | refine yE (num_Q_Floor (Sz.cl (n := k + 1) (by omega)) (quoOk (by omega)) g2.is g2.bd.n g2.bd.d g2.bd.pos) (fun u hu => ?_) | refine yB (num_Q_Floor (Sz.cl (n := k + 1) (by omega)) (quoOk (by omega)) g2.is g2.bd.n g2.bd.d g2.bd.pos) (fun u hu => ?_)
 obtain ⟨ks, rfl, g3⟩ := hu
 obtain ⟨k0, k1, k2, rfl⟩ := g3.three
 have sk : Sz (k + 1) (flQ (q * g)) := fl_bd g2.bd
 refine go11 ?_
 simp only [tN, tM, ratC, tY, tX, List.set_cons_zero, List.set_cons_succ, List.nil_append, List.cons_append, List.append_nil, List.replicate_succ, List.replicate_zero, List.length_cons, List.length_nil, splice, List.take_succ_cons, List.take_zero, List.drop_succ_cons, List.drop_zero, List.take_nil, List.drop_nil, Nat.zero_add, Nat.reduceAdd, Nat.reduceMul, Int.reduceToNat, wF, List.getElem?_cons_succ, List.getElem?_cons_zero]
 first | refine yE (qB 1 (by decide) (by decide)) (fun u hu => ?_) | refine yB (qB 1 (by decide) (by decide)) (fun u hu => ?_)
 obtain ⟨os, rfl, go⟩ := hu
 obtain ⟨o0, o1, o2, rfl⟩ := go.three
 have hI : IQ (k + 1) [k0, k1, k2, o0, o1, o2] ((flQ (q * g) : Int) : Rat) := ⟨by rw [rp_int]; exact .mk (p := (flQ (q * g), 1)) g3 go, by rw [rp_int]; exact ⟨sk, (Sz.one (n := 0)).up (by omega), by simp⟩⟩
 refine go11 ?_
 first | refine yE (q_Sub2 g2 hI (by omega)) (fun u hu => ?_) | refine yB (q_Sub2 g2 hI (by omega)) (fun u hu => ?_)
 obtain ⟨ds, rfl, g4⟩ := hu
 refine go11 ?_
 first | refine yE (tZ (a := 1) (b := 2) (by decide) (by decide) (by decide)) (fun u hu => ?_) | refine yB (tZ (a := 1) (b := 2) (by decide) (by decide) (by decide)) (fun u hu => ?_)
 obtain ⟨hs, rfl, g5⟩ := hu
 refine go11 ?_
 first | refine yE (q_Cmp2 g4 g5 (by omega)) (fun u hu => ?_) | refine yB (q_Cmp2 g4 g5 (by omega)) (fun u hu => ?_)
 obtain rfl := hu
 have e12 : ((1 : Int) : Rat) / ((2 : Int) : Rat) = (1 : Rat) / 2 := by simp
 refine go11 ?_
 rw [cq_gtr, e12]
 have sg : Sz (k + 3) g := (show Sz 1 g by unfold Sz; simp; omega).up (by omega)
 cases c1 : dec ((1 : Rat) / 2 < q * g - flQ (q * g))
 case true =>
  have c1 := yH.1 c1
  have hr : roundI q g = flQ (q * g) + 1 := by
   unfold roundI
   rw [yH.2 (by first | exact .inl c1 | exact .inr ⟨c2, hz⟩)]
   rfl
  refine go11 ?_
  first | refine yE (qB 1 (by decide) (by decide)) (fun u hu => ?_) | refine yB (qB 1 (by decide) (by decide)) (fun u hu => ?_)
  obtain ⟨us, rfl, gu⟩ := hu
  obtain ⟨_, _, _, rfl⟩ := gu.three
  refine go11 ?_
  first | refine yE (pK (n := k + 1) g3 gu sk ((Sz.one (n := 0)).up (by omega)) (by omega)) (fun u hu => ?_) | refine yB (pK (n := k + 1) g3 gu sk ((Sz.one (n := 0)).up (by omega)) (by omega)) (fun u hu => ?_)
  obtain ⟨ws, rfl, gw⟩ := hu
  obtain ⟨_, _, _, rfl⟩ := gw.three
  have sN : Sz (k + 3) (flQ (q * g) + 1) := sk.add2 ((Sz.one (n := 0)).up (show 1 ≤ k + 1 by omega)) (by omega)
  refine go11 ?_
  first | refine yE (qB g (by omega) (by omega)) (fun u hu => ?_) | refine yB (qB g (by omega) (by omega)) (fun u hu => ?_)
  obtain ⟨ps, rfl, g7⟩ := hu
  refine go11 ?_
  refine yB (uB (fun u hu => sH.rat hu (Int.ne_of_gt hg) (Rat.divInt_eq_div _ _) sN sg) (qX (Sz.cl (n := k + 3) (by omega)) (quoOk (by omega)) gw g7 sN sg (Int.ne_of_gt hg))) (fun u hu => ?_)
  obtain ⟨gs, rfl, g8⟩ := hu
  obtain ⟨_, _, _, _, _, _, rfl⟩ := id g8.six
  refine go11 ?_
  rw [show gO q g = ((flQ (q * g) + 1 : Int) : Rat) / ((g : Int) : Rat) by unfold gO; rw [hr]]
  exact QV.fz g8
 have c1 := yM.1 c1
 refine go11 ?_
 rw [cq_eql]
 cases c2 : dec (q * g - flQ (q * g) = (1 : Rat) / 2)
 case false =>
  have c2 := yM.1 c2
  have hr : roundI q g = flQ (q * g) := by
   unfold roundI
   rw [yM.2 (by rintro (h | ⟨h, _⟩) <;> contradiction)]
   rfl
  have sN : Sz (k + 3) (flQ (q * g)) := sk.up (by omega)
  refine go11 ?_
  first | refine yE (qB g (by omega) (by omega)) (fun u hu => ?_) | refine yB (qB g (by omega) (by omega)) (fun u hu => ?_)
  obtain ⟨ps, rfl, g7⟩ := hu
  refine go11 ?_
  refine yB (uB (fun u hu => sH.rat hu (Int.ne_of_gt hg) (Rat.divInt_eq_div _ _) sN sg) (qX (Sz.cl (n := k + 3) (by omega)) (quoOk (by omega)) g3 g7 sN sg (Int.ne_of_gt hg))) (fun u hu => ?_)
  obtain ⟨gs, rfl, g8⟩ := hu
  obtain ⟨_, _, _, _, _, _, rfl⟩ := id g8.six
  refine go11 ?_
  rw [show gO q g = ((flQ (q * g) : Int) : Rat) / ((g : Int) : Rat) by unfold gO; rw [hr]]
  exact QV.fz g8
 have c2 := yH.1 c2
 refine go11 ?_
 first | refine yE (num_Z_Odd g3) (fun u hu => ?_) | refine yB (num_Z_Odd g3) (fun u hu => ?_)
 obtain ⟨z, rfl, hz⟩ := hu
 cases z
 case false =>
  have hr : roundI q g = flQ (q * g) := by
   unfold roundI
   rw [yM.2 (by
    rintro (h | ⟨_, h⟩)
    ·exact c1 h
    ·cases hz.2 h)]
   rfl
  have sN : Sz (k + 3) (flQ (q * g)) := sk.up (by omega)
  refine go11 ?_
  first | refine yE (qB g (by omega) (by omega)) (fun u hu => ?_) | refine yB (qB g (by omega) (by omega)) (fun u hu => ?_)
  obtain ⟨ps, rfl, g7⟩ := hu
  refine go11 ?_
  refine yB (uB (fun u hu => sH.rat hu (Int.ne_of_gt hg) (Rat.divInt_eq_div _ _) sN sg) (qX (Sz.cl (n := k + 3) (by omega)) (quoOk (by omega)) g3 g7 sN sg (Int.ne_of_gt hg))) (fun u hu => ?_)
  obtain ⟨gs, rfl, g8⟩ := hu
  obtain ⟨_, _, _, _, _, _, rfl⟩ := id g8.six
  refine go11 ?_
  rw [show gO q g = ((flQ (q * g) : Int) : Rat) / ((g : Int) : Rat) by unfold gO; rw [hr]]
  exact QV.fz g8
 have hz := hz.1 rfl
 have hr : roundI q g = flQ (q * g) + 1 := by
  unfold roundI
  rw [yH.2 (by first | exact .inl c1 | exact .inr ⟨c2, hz⟩)]
  rfl
 refine go11 ?_
 first | refine yE (qB 1 (by decide) (by decide)) (fun u hu => ?_) | refine yB (qB 1 (by decide) (by decide)) (fun u hu => ?_)
 obtain ⟨us, rfl, gu⟩ := hu
 obtain ⟨_, _, _, rfl⟩ := gu.three
 refine go11 ?_
 first | refine yE (pK (n := k + 1) g3 gu sk ((Sz.one (n := 0)).up (by omega)) (by omega)) (fun u hu => ?_) | refine yB (pK (n := k + 1) g3 gu sk ((Sz.one (n := 0)).up (by omega)) (by omega)) (fun u hu => ?_)
 obtain ⟨ws, rfl, gw⟩ := hu
 obtain ⟨_, _, _, rfl⟩ := gw.three
 have sN : Sz (k + 3) (flQ (q * g) + 1) := sk.add2 ((Sz.one (n := 0)).up (show 1 ≤ k + 1 by omega)) (by omega)
 refine go11 ?_
 first | refine yE (qB g (by omega) (by omega)) (fun u hu => ?_) | refine yB (qB g (by omega) (by omega)) (fun u hu => ?_)
 obtain ⟨ps, rfl, g7⟩ := hu
 refine go11 ?_
 refine yB (uB (fun u hu => sH.rat hu (Int.ne_of_gt hg) (Rat.divInt_eq_div _ _) sN sg) (qX (Sz.cl (n := k + 3) (by omega)) (quoOk (by omega)) gw g7 sN sg (Int.ne_of_gt hg))) (fun u hu => ?_)
 obtain ⟨gs, rfl, g8⟩ := hu
 obtain ⟨_, _, _, _, _, _, rfl⟩ := id g8.six
 refine go11 ?_
 rw [show gO q g = ((flQ (q * g) + 1 : Int) : Rat) / ((g : Int) : Rat) by unfold gO; rw [hr]]
 exact QV.fz g8
end Go.Proofs.YtokckcnfojjpjaaGreat

set_option linter.unusedVariables false
set_option linter.unusedSimpArgs false
namespace Go.Proofs.YtokckcnfojjpjaaGreat
open Go.RowKit
set_option maxRecDepth 20000
theorem fit_ratS {q : Rat} (h : fitR (rp q) = true) : wZ (rp q).1 (rp q).2 := by
 unfold fitR at h
 have h1 := yH.1 h
 have h2 := rp_good q
 exact ⟨by have := h2.1; omega, h1.2.2, h1.1, h1.2.1, h2.2⟩
def gE (m : List Rat) : Prop := ∀ q ∈ m, fitR (rp q) = true
def RdK (m : List Rat) (u : V) : Prop := (gE m ∧ ∃ c, u = .tup [.c c, .c (.bool true)] ∧ Ls (elQ 2) c m) ∨ (¬ gE m ∧ u = .tup [.c .nilSl, .c (.bool false)])
theorem rd_pos {g : Int} {q : Rat} (h : 0 < g) : rdV g q = gO q g := by
 unfold rdV
 rw [yH.2 h]
 rfl
theorem rd_none {g : Int} {q : Rat} (h : ¬ 0 < g) : rdV g q = q := by
 unfold rdV
 rw [yM.2 h]
 rfl
attribute [local irreducible] yA semH semC qLen qNil qIad qSlc qIdx yW yL xD appX appI slcX awpF yP xI xopF xR qval lval seqQ xL wJ wI xW cnd arith IntKind.wrap
theorem qP {cx : C} {x : List Rat} {g : Int} (hx : Ls (elQ 4194304) cx x) (hl : x.length < 1048576) (hg : g < 4294967296) : semC Tryz.prog n_step_rounded [.c cx, i64 g] (RdK (x.map (rdV g))) := by
 refine yD ok_step_rounded rfl (show HFVs [.c cx, i64 g] from ⟨hx.hf, trivial, trivial⟩) ?_
 refine go11 ?_
 refine vT (by rfl) (by rfl) ⟨by omega, by omega, by omega, by omega⟩ ?_
 refine go11 ?_
 simp only [tN, tM, ratC, tY, tX, List.set_cons_zero, List.set_cons_succ, List.nil_append, List.cons_append, List.append_nil, List.replicate_succ, List.replicate_zero, List.length_cons, List.length_nil, splice, List.take_succ_cons, List.take_zero, List.drop_succ_cons, List.drop_zero, List.take_nil, List.drop_nil, Nat.zero_add, Nat.reduceAdd, Nat.reduceMul, Int.reduceToNat, wF, List.getElem?_cons_succ, List.getElem?_cons_zero]
 refine yT (fun w vs H => ∃ (i : Nat) (cells : List C) (R : Hp), vs = [.c cx, i64 g, .c (.sl 0 0 x.length (some x.length) 6), i64 x.length, i64 i] ∧ H = .live ⟨cells, yZ, .rw⟩ :: R ∧ w = x.length - i ∧ i ≤ x.length ∧ Fill (elQ 2) bH x.length cells ((x.map (rdV g)).take i) ∧ ∀ q ∈ (x.map (rdV g)).take i, fitR (rp q) = true) (by rfl) ⟨0, _, [], rfl, rfl, rfl, by omega, .zero rfl, by simp⟩ ?_
 rintro w vs H ⟨i, cells, R, rfl, rfl, rfl, i1, i2, i3⟩
 have hcl : cells.length = x.length * 6 := i2.len
 have hfl : (x.map (rdV g)).length = x.length := by simp
 have htl : ((x.map (rdV g)).take i).length = i := by rw [List.length_take]; omega
 refine go11 ?_
 cases hi : yA Cm.lss (i : Int) (x.length : Int)
 case false =>
  simp [yA] at hi
  have ei : i = x.length := by omega
  subst ei
  rw [sD (by omega)] at i2 i3
  have h4 := i2.done (by omega)
  have h5 := Ls.imm h4
  rw [hfl] at h5
  refine go11 ?_
  exact ⟨_, .tup (.cons (.c (fz_sl (bx := ⟨cells, yZ, .rw⟩) (ds := cells) (by rfl) (by simp) (by simp) (by rw [List.drop_zero, List.take_of_length_le (by simp only; omega)]) h4.hf)) (.cons (.c (.hf trivial)) .nil)), .inl ⟨i3, _, rfl, h5⟩⟩
 simp [yA] at hi
 refine go11 ?_
 refine qD hx (i := i) hi (by omega) rfl (fun cs hcs => ?_)
 obtain ⟨e0, e1, e2, e3, e4, e5, rfl⟩ := id (show IQ 4194304 _ _ from hcs).six
 refine go11 ?_
 rw [show 0 + (i : Int).toNat * 6 = i * 6 by omega]
 cases hg0 : yA Cm.gtr g 0
 case false =>
  simp [yA] at hg0
  have g1 : IQ 4194307 [e0, e1, e2, e3, e4, e5] (rdV g x[i]) := by
   rw [rd_none (by omega)]
   exact (show IQ 4194304 _ _ from hcs).up (by decide)
  refine go11 ?_
  refine ld_splice (cells := cells) (off := i * 6) (cs := [e0, e1, e2, e3, e4, e5]) (by rfl) (by rfl) (by omega) (by omega) ?_
  refine go11 ?_
  first | refine yE (pM g1.is (pS _)) (fun u hu => ?_) | refine yB (pM g1.is (pS _)) (fun u hu => ?_)
  obtain rfl := hu
  unfold outV
  cases hf : fitR (rp (rdV g x[i]))
  case false =>
   have hno : ¬ gE (x.map (rdV g)) := fun h => by
    have := h (rdV g x[i]) (List.mem_map_of_mem (vH hi))
    rw [hf] at this
    cases this
   refine go11 ?_
   exact ⟨_, .tup (.cons (.c (.hf trivial)) (.cons (.c (.hf trivial)) .nil)), .inr ⟨hno, rfl⟩⟩
  refine go11 ?_
  rw [xV i (by omega)]
  have g2 := g1.tightS (fit_ratS hf).bd
  have h4 := i2.put (cs := [e0, e1, e2, e3, e4, e5]) (a := rdV g x[i]) (by rw [htl]; exact hi) g2
  rw [htl] at h4
  refine l_n (by rfl) (n' := x.length - (i + 1)) (by omega) ⟨i + 1, _, _, rfl, rfl, rfl, by omega, ?_, fun q hq => ?_⟩
  ·rw [vD (show i < (x.map (rdV g)).length by simpa using hi), List.getElem_map]
   exact h4
  ·rw [vD (show i < (x.map (rdV g)).length by simpa using hi), List.getElem_map] at hq
   rcases List.mem_append.1 hq with hq | hq
   ·exact i3 q hq
   ·simp at hq
    subst hq
    exact hf
 simp [yA] at hg0
 refine go11 ?_
 refine qD hx (i := i) hi (by omega) rfl (fun cs hcs => ?_)
 refine go11 ?_
 first | refine yE (num_Q_Round (show IQ 4194304 _ _ from hcs) hg0 hg (by decide)) (fun u hu => ?_) | refine yB (num_Q_Round (show IQ 4194304 _ _ from hcs) hg0 hg (by decide)) (fun u hu => ?_)
 obtain ⟨es, rfl, g1⟩ := hu
 rw [← rd_pos hg0] at g1
 obtain ⟨f0, f1, f2, f3, f4, f5, rfl⟩ := id g1.six
 refine go11 ?_
 refine yS (cs := splice cells (i * 6) [e0, e1, e2, e3, e4, e5]) (by rfl) (by rfl) (by rfl) (by rw [jD (by simp only [List.length_cons, List.length_nil]; omega)]; omega) ?_
 rw [show 0 + (i : Int).toNat * 6 = i * 6 by omega, splice_twice (by omega) (by rfl)]
 clear hcs
 refine go11 ?_
 refine ld_splice (cells := cells) (off := i * 6) (cs := [f0, f1, f2, f3, f4, f5]) (by rfl) (by rfl) (by omega) (by omega) ?_
 refine go11 ?_
 first | refine yE (pM g1.is (pS _)) (fun u hu => ?_) | refine yB (pM g1.is (pS _)) (fun u hu => ?_)
 obtain rfl := hu
 unfold outV
 cases hf : fitR (rp (rdV g x[i]))
 case false =>
  have hno : ¬ gE (x.map (rdV g)) := fun h => by
   have := h (rdV g x[i]) (List.mem_map_of_mem (vH hi))
   rw [hf] at this
   cases this
  refine go11 ?_
  exact ⟨_, .tup (.cons (.c (.hf trivial)) (.cons (.c (.hf trivial)) .nil)), .inr ⟨hno, rfl⟩⟩
 refine go11 ?_
 rw [xV i (by omega)]
 have g2 := g1.tightS (fit_ratS hf).bd
 have h4 := i2.put (cs := [f0, f1, f2, f3, f4, f5]) (a := rdV g x[i]) (by rw [htl]; exact hi) g2
 rw [htl] at h4
 refine l_n (by rfl) (n' := x.length - (i + 1)) (by omega) ⟨i + 1, _, _, rfl, rfl, rfl, by omega, ?_, fun q hq => ?_⟩
 ·rw [vD (show i < (x.map (rdV g)).length by simpa using hi), List.getElem_map]
  exact h4
 ·rw [vD (show i < (x.map (rdV g)).length by simpa using hi), List.getElem_map] at hq
  rcases List.mem_append.1 hq with hq | hq
  ·exact i3 q hq
  ·simp at hq
   subst hq
   exact hf
end Go.Proofs.YtokckcnfojjpjaaGreat

set_option linter.unusedVariables false
set_option linter.unusedSimpArgs false
namespace Go.Proofs.YtokckcnfojjpjaaGreat
open Go.RowKit
set_option maxRecDepth 20000
noncomputable def valS (f : List Pl) : Int := sysE 1 ((f.length : Int) + 1) true f
def ValK (f : List Pl) (v : V) : Prop := ∃ e : Int, v = i64 e ∧ (hZ f → e = valS f) ∧ (e = 0 → hZ f) ∧ 0 ≤ e ∧ e ≤ 3
def AffS (f : List Pl) : Prop := ∀ p ∈ f, ∀ t ∈ p, sumP (t.2.take (t.2.length - 1)) ≤ 1
structure RunOk (m : Int) (f : List Pl) (t : R2) (x : List R2) (h : R2) (g n : Int) : Prop where
 sys : valS f = 0
 ht : wZ t.1 t.2
 hx : pB x
 hh : wZ h.1 h.2
 m0 : 0 ≤ m
 m6 : m ≤ 6
 hp : 0 < h.1
 g0 : 0 ≤ g
 gm : g ≤ 1000000
 n0 : 0 ≤ n
 nm : n ≤ 60
 len : x.length = f.length
 aff : m = 4 ∨ m = 5 → AffS f
theorem val_sys {f : List Pl} (h : valS f = 0) : SysOk (f.length + 1) f ∧ 1 ≤ f.length := by
 obtain ⟨h1, h2, h3⟩ := sys_zero h
 refine ⟨⟨by omega, fun p hp => ⟨?_, fun t ht => ?_⟩⟩, by omega⟩
 ·exact Classical.byContradiction fun h => h2 ⟨p, hp, .inl (by omega)⟩
 ·have hb : ¬ BadT ((f.length : Int) + 1) t := fun h => by
   obtain ⟨j, hj, rfl⟩ := List.getElem_of_mem ht
   exact h3 ⟨p, hp, j, hj, .inl h⟩
  have hw : ¬ WideT true t := fun h => h2 ⟨p, hp, .inr ⟨t, ht, h⟩⟩
  refine ⟨?_, Classical.byContradiction fun h => hb (.inr (.inl h)), fun k hk => ?_, ?_⟩
  ·have : (t.2.length : Int) = (f.length : Int) + 1 := Classical.byContradiction fun h => hb (.inl h)
   omega
  ·exact Classical.byContradiction fun h => hb (.inr (.inr (.inr ⟨k, hk, by omega⟩)))
  ·exact Classical.byContradiction fun h => hw (.inl (by omega))
noncomputable def qU (m : Int) (f : List Pl) (t : R2) (x : List R2) (h : R2) (g n : Int) : Int :=
 bif dec (valS f = 0) then bif dec (wZ t.1 t.2 ∧ pB x ∧ wZ h.1 h.2) then bif dec (m < 0 ∨ 6 < m ∨ h.1 ≤ 0 ∨ g < 0 ∨ 1000000 < g ∨ n < 0 ∨ 60 < n) then 1 else
  bif dec (x.length = f.length) then bif dec ((m = 4 ∨ m = 5) ∧ ¬ AffS f) then 6 else 0 else 8 else 1 else valS f
section
variable {m : Int} {f : List Pl} {t : R2} {x : List R2} {h : R2} {g n : Int}
theorem known_sys (h1 : valS f ≠ 0) : qU m f t x h g n = valS f := by
 unfold qU
 rw [yM.2 h1]
 rfl
theorem known_rat (h1 : valS f = 0) (h2 : ¬ (wZ t.1 t.2 ∧ pB x ∧ wZ h.1 h.2)) : qU m f t x h g n = 1 := by
 unfold qU
 rw [yH.2 h1, yM.2 h2]
 rfl
theorem jG (h1 : valS f = 0) (h3 : m < 0 ∨ 6 < m ∨ h.1 ≤ 0 ∨ g < 0 ∨ 1000000 < g ∨ n < 0 ∨ 60 < n) : qU m f t x h g n = 1 := by
 by_cases h2 : wZ t.1 t.2 ∧ pB x ∧ wZ h.1 h.2
 ·unfold qU
  rw [yH.2 h1, yH.2 h2, yH.2 h3]
  rfl
 ·exact known_rat h1 h2
theorem known_fit (h1 : valS f = 0) (h2 : wZ t.1 t.2 ∧ pB x ∧ wZ h.1 h.2) (h3 : ¬ (m < 0 ∨ 6 < m ∨ h.1 ≤ 0 ∨ g < 0 ∨ 1000000 < g ∨ n < 0 ∨ 60 < n)) (h4 : x.length ≠ f.length) : qU m f t x h g n = 8 := by
 unfold qU
 rw [yH.2 h1, yH.2 h2, yM.2 h3, yM.2 h4]
 rfl
theorem known_aff (h1 : valS f = 0) (h2 : wZ t.1 t.2 ∧ pB x ∧ wZ h.1 h.2) (h3 : ¬ (m < 0 ∨ 6 < m ∨ h.1 ≤ 0 ∨ g < 0 ∨ 1000000 < g ∨ n < 0 ∨ 60 < n)) (h4 : x.length = f.length) (h5 : (m = 4 ∨ m = 5) ∧ ¬ AffS f) : qU m f t x h g n = 6 := by
 unfold qU
 rw [yH.2 h1, yH.2 h2, yM.2 h3, yH.2 h4, yH.2 h5]
 rfl
theorem known_ok (h1 : valS f = 0) (h2 : wZ t.1 t.2 ∧ pB x ∧ wZ h.1 h.2) (h3 : ¬ (m < 0 ∨ 6 < m ∨ h.1 ≤ 0 ∨ g < 0 ∨ 1000000 < g ∨ n < 0 ∨ 60 < n)) (h4 : x.length = f.length) (h5 : ¬ ((m = 4 ∨ m = 5) ∧ ¬ AffS f)) : qU m f t x h g n = 0 ∧ RunOk m f t x h g n := by
 refine ⟨?_, h1, h2.1, h2.2.1, h2.2.2, by omega, by omega, by omega, by omega, by omega, by omega, by omega, h4, fun hm => Classical.byContradiction fun h => h5 ⟨hm, h⟩⟩
 unfold qU
 rw [yH.2 h1, yH.2 h2, yM.2 h3, yH.2 h4, yM.2 h5]
 rfl
end
def qN (m : Int) (f : List Pl) (t : R2) (x : List R2) (h : R2) (g n : Int) (v : V) : Prop := ∃ e : Int, v = i64 e ∧ (hZ f → e = qU m f t x h g n) ∧ (e = 0 → RunOk m f t x h g n)
theorem qN.of {m : Int} {f : List Pl} {t : R2} {x : List R2} {h : R2} {g n e : Int} {H : Hp} (h1 : hZ f → e = qU m f t x h g n) (h2 : e ≠ 0) : ∃ d, FzV H (i64 e) d ∧ qN m f t x h g n d := ⟨_, .c (.hf trivial), e, rfl, h1, fun h => absurd h h2⟩
theorem sumP_append : ∀ (l m : List Int), sumP (l ++ m) = sumP l + sumP m
 | [], m => by simp [sumP]
 | x :: l, m => by simp only [List.cons_append, sumP, sumP_append l m]; omega
theorem jW (a b : Int) : yA Cm.neq a b = dec (a ≠ b) := rfl
attribute [local irreducible] yA semH semC qLen qNil qIad qSlc qIdx yW yL xD appX appI slcX awpF yP xI xopF xR qval lval seqQ xL wJ wI xW cnd arith IntKind.wrap
theorem step_Validate {c : C} {f : List Pl} (hc : Ls elM c f) (hf : f.length < vE) : semC Tryz.prog n_step_Validate [.c c] (ValK f) := by
 refine yD ok_step_Validate rfl (show HFVs [.c c] from ⟨hc.hf, trivial⟩) ?_
 have hw : f.length ≤ 3 → arith .add .i64 (f.length : Int) 1 = (f.length : Int) + 1 := fun h => by rw [yU]; exact yF (by omega) (by omega)
 refine go11 ?_
 generalize arith .add .i64 (f.length : Int) 1 = u at hw
 first | refine yE (step_Check 1 u true hc hf (fun h => by rw [hw h]; omega)) (fun u hu => ?_) | refine yB (step_Check 1 u true hc hf (fun h => by rw [hw h]; omega)) (fun u hu => ?_)
 obtain ⟨e, rfl, h1, h2, h3⟩ := hu
 refine go11 ?_
 refine ⟨_, .c (.hf trivial), e, rfl, fun hS => ?_, h2, h3⟩
 rw [h1 hS]
 unfold valS
 rcases Nat.lt_or_ge 3 f.length with h | h
 ·rw [bK (.inr h), bK (.inr h)]
 ·rw [hw h]
theorem jO {c : C} {f : List Pl} {m : Nat} (hc : Ls elM c f) (hf : SysOk m f) (hm : 1 ≤ m ∧ m ≤ 1024) : semC Tryz.prog n_step_isAffine [.c c] (sU (AffS f)) := by
 refine yD ok_step_isAffine rfl (show HFVs [.c c] from ⟨hc.hf, trivial⟩) ?_
 have hlen := hf.len
 refine go11 ?_
 refine yT (fun w vs H => ∃ (i : Nat), vs = [.c c, i64 f.length, i64 i] ∧ w = f.length - i ∧ i ≤ f.length ∧ ∀ p ∈ f.take i, ∀ t ∈ p, sumP (t.2.take (t.2.length - 1)) ≤ 1) (by rfl) ⟨0, rfl, rfl, by omega, by simp⟩ ?_
 rintro w vs H ⟨i, rfl, rfl, i1, i2⟩
 refine go11 ?_
 cases hi : yA Cm.lss (i : Int) (f.length : Int)
 case false =>
  simp [yA] at hi
  rw [sD (by omega)] at i2
  refine go11 ?_
  exact ⟨_, .c (.hf trivial), true, rfl, ⟨fun _ => i2, fun _ => rfl⟩⟩
 simp [yA] at hi
 refine go11 ?_
 refine qD hc (i := i) hi (by omega) rfl (fun cs hcs => ?_)
 obtain ⟨d, rfl, hd, hdl⟩ := hcs
 have hp := hf.poly f[i] (vH hi)
 have hpl := hp.len
 refine go11 ?_
 refine yT (fun w vs H => ∃ (j : Nat), vs = [.c c, i64 f.length, i64 i, .c d, i64 f[i].length, i64 j] ∧ w = f[i].length - j ∧ j ≤ f[i].length ∧ ∀ t ∈ f[i].take j, sumP (t.2.take (t.2.length - 1)) ≤ 1) (by rfl) ⟨0, rfl, rfl, by omega, by simp⟩ ?_
 rintro w vs H ⟨j, rfl, rfl, j1, j2⟩
 refine go11 ?_
 cases hj : yA Cm.lss (j : Int) (f[i].length : Int)
 case false =>
  simp [yA] at hj
  rw [sD (by omega)] at j2
  refine go11 ?_
  rw [xV i (by omega)]
  refine l_n (by rfl) (n' := f.length - (i + 1)) (by omega) ⟨i + 1, rfl, rfl, by omega, fun p hp => ?_⟩
  rw [vD hi] at hp
  rcases List.mem_append.1 hp with hp | hp
  ·exact i2 p hp
  ·simp at hp
   subst hp
   exact j2
 simp [yA] at hj
 refine go11 ?_
 refine qD hd (i := j) hj (by omega) rfl (fun cs hcs => ?_)
 obtain ⟨e, rfl, he, hel⟩ := hcs
 have ht := hp.term f[i][j] (vH hj)
 have hxl := ht.len
 refine go11 ?_
 rw [pR _ (by omega) (by omega)]
 refine slc_ls (l := f[i][j].2) (a := 0) (b := ((f[i][j].2.length - 1 : Nat) : Int)) (by rfl) he rfl (by rfl) (by rfl) (by omega) (by omega) (by omega) (fun a1 ha1 => ?_)
 rw [show (f[i][j].2.drop (0 : Int).toNat).take (((f[i][j].2.length - 1 : Nat) : Int).toNat - (0 : Int).toNat) = f[i][j].2.take (f[i][j].2.length - 1) by simp] at ha1
 obtain ⟨L, hL⟩ : ∃ L, L = f[i][j].2.take (f[i][j].2.length - 1) := ⟨_, rfl⟩
 rw [← hL] at ha1
 have hLl : L.length ≤ 1024 := by rw [hL, List.length_take]; omega
 have hLn : ∀ k ∈ L, 0 ≤ k := fun k hk => ht.nn k (List.mem_of_mem_take (by rw [← hL]; exact hk))
 have hLs : sumP L ≤ 12 := by rw [hL]; exact Int.le_trans (sumP_take _ _) ht.deg
 refine go11 ?_
 refine yT (fun w vs H => ∃ (k : Nat), vs = [i64 (sumP (L.take k)), .c c, i64 f.length, i64 i, .c d, i64 f[i].length, i64 j, .c a1, i64 L.length, i64 k] ∧ w = L.length - k ∧ k ≤ L.length) (by rfl) ⟨0, by simp [sumP, i64], rfl, by omega⟩ ?_
 rintro w vs H ⟨k, rfl, rfl, k1⟩
 refine go11 ?_
 cases hk : yA Cm.lss (k : Int) (L.length : Int)
 case false =>
  simp [yA] at hk
  rw [sD (by omega)]
  refine go11 ?_
  cases hg : yA Cm.gtr (sumP L) 1
  case true =>
   simp [yA] at hg
   refine go11 ?_
   refine ⟨_, .c (.hf trivial), false, rfl, ⟨fun h => (by cases h), fun h => ?_⟩⟩
   have := h f[i] (vH hi) f[i][j] (vH hj)
   rw [← hL] at this
   omega
  simp [yA] at hg
  refine go11 ?_
  rw [xV j (by omega)]
  refine l_n (by rfl) (n' := f[i].length - (j + 1)) (by omega) ⟨j + 1, rfl, rfl, by omega, fun t ht => ?_⟩
  rw [vD hj] at ht
  rcases List.mem_append.1 ht with ht | ht
  ·exact j2 t ht
  ·simp at ht
   subst ht
   rw [← hL]
   exact hg
 simp [yA] at hk
 have hn := hLn _ (vH hk)
 have hs : arith .add .i64 (sumP (L.take k)) L[k] = sumP (L.take (k + 1)) := by
  have h1 := sumP_take L (k + 1)
  have h0 := sumP_nn (L.take k)
  rw [vD hk, sumP_append] at h1
  rw [vD hk, sumP_append, yU]
  have h2 : sumP [L[k]] = L[k] := by
   simp only [sumP]
   split <;> omega
  rw [h2] at h1 ⊢
  exact yF (by omega) (by omega)
 refine go11 ?_
 rw [hs, xV k (by omega)]
 exact l_n (by rfl) (n' := L.length - (k + 1)) (by omega) ⟨k + 1, rfl, rfl, by omega⟩
theorem step_known {cf cx : C} {f : List Pl} {x : List R2} (m : Int) (t h : R2) (g n : Int) (hc : Ls elM cf f) (hf : f.length < vE) (hx : Ls elP cx x) (hxl : x.length < vE) : semC Tryz.prog n_step_known [i64 m, .c cf, .agg (ratC t), .c cx, .agg (ratC h), i64 g, i64 n] (qN m f t x h g n) := by
 refine yD ok_step_known rfl (show HFVs [i64 m, .c cf, .agg (ratC t), .c cx, .agg (ratC h), i64 g, i64 n] from ⟨trivial, hc.hf, pH _, hx.hf, pH _, trivial, trivial, trivial⟩) ?_
 refine go11 ?_
 first | refine yE (step_Validate hc hf) (fun u hu => ?_) | refine yB (step_Validate hc hf) (fun u hu => ?_)
 obtain ⟨e, rfl, v1, v2, v3⟩ := hu
 refine go11 ?_
 rw [jW]
 cases h1 : dec (e ≠ 0)
 case true =>
  have h1 := yH.1 h1
  refine go11 ?_
  exact qN.of (fun hS => by rw [v1 hS] at h1 ⊢; rw [known_sys h1]) h1
 have h1 : e = 0 := Classical.byContradiction (yM.1 h1)
 have hS := v2 h1
 have hv : valS f = 0 := by rw [← v1 hS, h1]
 obtain ⟨hsys, hf1⟩ := val_sys hv
 have hsl := hsys.len
 refine go11 ?_
 first | refine yE (pL t.1 t.2) (fun u hu => ?_) | refine yB (pL t.1 t.2) (fun u hu => ?_)
 obtain ⟨z1, rfl, k1⟩ := hu
 cases z1
 case false =>
  refine go11 ?_
  exact qN.of (fun _ => (known_rat hv (fun h => by cases k1.2 h.1)).symm) (by decide)
 refine go11 ?_
 first | refine yE (jQ hx hxl) (fun u hu => ?_) | refine yB (jQ hx hxl) (fun u hu => ?_)
 obtain ⟨z2, rfl, k2⟩ := hu
 cases z2
 case false =>
  refine go11 ?_
  exact qN.of (fun _ => (known_rat hv (fun h => by cases k2.2 h.2.1)).symm) (by decide)
 refine go11 ?_
 first | refine yE (pL h.1 h.2) (fun u hu => ?_) | refine yB (pL h.1 h.2) (fun u hu => ?_)
 obtain ⟨z3, rfl, k3⟩ := hu
 cases z3
 case false =>
  refine go11 ?_
  exact qN.of (fun _ => (known_rat hv (fun h => by cases k3.2 h.2.2)).symm) (by decide)
 have hr : wZ t.1 t.2 ∧ pB x ∧ wZ h.1 h.2 := ⟨k1.1 rfl, k2.1 rfl, k3.1 rfl⟩
 refine go11 ?_
 cases c1 : yA Cm.lss m 0
 case true =>
  simp [yA] at c1
  refine go11 ?_
  exact qN.of (fun _ => (jG hv (by omega)).symm) (by decide)
 simp [yA] at c1
 refine go11 ?_
 cases c2 : yA Cm.gtr m 6
 case true =>
  simp [yA] at c2
  refine go11 ?_
  exact qN.of (fun _ => (jG hv (by omega)).symm) (by decide)
 simp [yA] at c2
 refine go11 ?_
 cases c3 : yA Cm.leq h.1 0
 case true =>
  simp [yA] at c3
  refine go11 ?_
  exact qN.of (fun _ => (jG hv (by omega)).symm) (by decide)
 simp [yA] at c3
 refine go11 ?_
 cases c4 : yA Cm.lss g 0
 case true =>
  simp [yA] at c4
  refine go11 ?_
  exact qN.of (fun _ => (jG hv (by omega)).symm) (by decide)
 simp [yA] at c4
 refine go11 ?_
 cases c5 : yA Cm.gtr g 1000000
 case true =>
  simp [yA] at c5
  refine go11 ?_
  exact qN.of (fun _ => (jG hv (by omega)).symm) (by decide)
 simp [yA] at c5
 refine go11 ?_
 cases c6 : yA Cm.lss n 0
 case true =>
  simp [yA] at c6
  refine go11 ?_
  exact qN.of (fun _ => (jG hv (by omega)).symm) (by decide)
 simp [yA] at c6
 refine go11 ?_
 cases c7 : yA Cm.gtr n 60
 case true =>
  simp [yA] at c7
  refine go11 ?_
  exact qN.of (fun _ => (jG hv (by omega)).symm) (by decide)
 simp [yA] at c7
 have hno : ¬ (m < 0 ∨ 6 < m ∨ h.1 ≤ 0 ∨ g < 0 ∨ 1000000 < g ∨ n < 0 ∨ 60 < n) := by omega
 refine go11 ?_
 cases c8 : yA Cm.neq (x.length : Int) (f.length : Int)
 case true =>
  simp [yA] at c8
  refine go11 ?_
  exact qN.of (fun _ => (known_fit hv hr hno (by omega)).symm) (by decide)
 simp [yA] at c8
 refine go11 ?_
 cases c9 : yA Cm.eql m 4
 case true =>
  simp [yA] at c9
  refine go11 ?_
  first | refine yE (jO hc hsys (by omega)) (fun u hu => ?_) | refine yB (jO hc hsys (by omega)) (fun u hu => ?_)
  obtain ⟨za, rfl, ka⟩ := hu
  cases za
  case false =>
   refine go11 ?_
   exact qN.of (fun _ => (known_aff hv hr hno (by omega) ⟨by omega, fun h => by cases ka.2 h⟩).symm) (by decide)
  refine go11 ?_
  have hk := known_ok (x := x) hv hr hno (by omega) (fun h => h.2 (ka.1 rfl))
  exact ⟨_, .c (.hf trivial), 0, rfl, fun _ => hk.1.symm, fun _ => hk.2⟩
 simp [yA] at c9
 refine go11 ?_
 cases c10 : yA Cm.eql m 5
 case true =>
  simp [yA] at c10
  refine go11 ?_
  first | refine yE (jO hc hsys (by omega)) (fun u hu => ?_) | refine yB (jO hc hsys (by omega)) (fun u hu => ?_)
  obtain ⟨za, rfl, ka⟩ := hu
  cases za
  case false =>
   refine go11 ?_
   exact qN.of (fun _ => (known_aff hv hr hno (by omega) ⟨by omega, fun h => by cases ka.2 h⟩).symm) (by decide)
  refine go11 ?_
  have hk := known_ok (x := x) hv hr hno (by omega) (fun h => h.2 (ka.1 rfl))
  exact ⟨_, .c (.hf trivial), 0, rfl, fun _ => hk.1.symm, fun _ => hk.2⟩
 simp [yA] at c10
 refine go11 ?_
 have hk := known_ok (x := x) hv hr hno (by omega) (by omega)
 exact ⟨_, .c (.hf trivial), 0, rfl, fun _ => hk.1.symm, fun _ => hk.2⟩
end Go.Proofs.YtokckcnfojjpjaaGreat

set_option linter.unusedVariables false
set_option linter.unusedSimpArgs false
namespace Go.Proofs.YtokckcnfojjpjaaGreat
open Go.RowKit
set_option maxRecDepth 20000
theorem bC {a b : Nat} {p q : Rat} (h1 : CpL a [p]) (h2 : CpL b [q]) : CpL (a + b + 1) [p + q] := by
 obtain ⟨D, g1, g2, g3⟩ := h1.append h2
 have c1 := g3 p (by simp)
 have c2 := g3 q (by simp)
 refine ⟨D, g1, Nat.le_trans g2 (Nat.pow_le_pow_right (by decide) (by omega)), fun r hr => ?_⟩
 simp at hr
 subst hr
 refine (c1.add c2).mono ?_
 rw [Nat.pow_succ]
 omega
theorem pJ {a b : Nat} {p q : Rat} (h1 : CpL a [p]) (h2 : CpL b [q]) : CpL (a + b) [p * q] := by
 obtain ⟨D, g1, g2, g3⟩ := h1
 obtain ⟨E, f1, f2, f3⟩ := h2
 refine ⟨D * E, Nat.mul_pos g1 f1, two_mul rfl g2 f2, fun r hr => ?_⟩
 simp at hr
 subst hr
 rw [Nat.pow_add]
 exact (g3 p (by simp)).mul (f3 q (by simp))
theorem cp_frac {a b n : Nat} (h0 : 0 < b) (h1 : a ≤ 2 ^ n) (h2 : b ≤ 2 ^ n) (s : Bool) : CpL n [(((bif s then -(a : Int) else (a : Int)) : Int) : Rat) / ((b : Int) : Rat)] := by
 refine ⟨b, h0, h2, fun r hr => ?_⟩
 simp at hr
 subst hr
 have hb : (b : Rat) ≠ 0 := by
  intro h
  have : b = 0 := by exact_mod_cast h
  omega
 refine ⟨bif s then -(a : Int) else (a : Int), ?_, ?_⟩
 ·rw [Rat.intCast_natCast, Rat.div_mul_cancel hb]
 ·refine Nat.le_trans (show _ ≤ a by cases s <;> simp) (Nat.le_trans h1 (Nat.le_mul_of_pos_right _ h0))
def xF (f : List Pl) (x : List Rat) (t : Rat) : List Rat := jH f (x ++ [t])
theorem tO {a b m : Nat} {f : List Pl} {x : List Rat} {t : Rat} (hf : SysOk m f) (hx : CpL a x) (ht : CpL b [t]) : CpL (7200 + 12 * (a + b)) (xF f x t) := field_cpl hf (hx.append ht)
theorem vU {f : List Pl} {x : List Rat} {t : Rat} : (xF f x t).length = f.length := by simp [xF, jH]
def vM : Rat := ((1 : Int) : Rat) / ((2 : Int) : Rat)
theorem half_cp : CpL 1 [vM] := cp_frac (a := 1) (b := 2) (n := 1) (by decide) (by decide) (by decide) false
theorem pV {z : Int} {n : Nat} (h : z.natAbs ≤ 2 ^ n) : CpL n [(z : Rat)] := by
 refine ⟨1, by decide, Nat.one_le_two_pow, fun r hr => ?_⟩
 simp at hr
 subst hr
 exact (Cap.int z).mono h
def eulerV (f : List Pl) (h t : Rat) (x : List Rat) : List Rat := xG x h (xF f x t)
def heunV (f : List Pl) (h t : Rat) (x : List Rat) : List Rat := xG x (h * vM) (xG (xF f x t) ((1 : Int) : Rat) (xF f (xG x h (xF f x t)) (t + h)))
def midV (f : List Pl) (h t : Rat) (x : List Rat) : List Rat := xG x h (xF f (xG x (h * vM) (xF f x t)) (t + h * vM))
def k1V (f : List Pl) (h t : Rat) (x : List Rat) : List Rat := xF f x t
def k2V (f : List Pl) (h t : Rat) (x : List Rat) : List Rat := xF f (xG x (h * vM) (k1V f h t x)) (t + h * vM)
def k3V (f : List Pl) (h t : Rat) (x : List Rat) : List Rat := xF f (xG x (h * vM) (k2V f h t x)) (t + h * vM)
def k4V (f : List Pl) (h t : Rat) (x : List Rat) : List Rat := xF f (xG x h (k3V f h t x)) (t + h)
def sumV (f : List Pl) (h t : Rat) (x : List Rat) : List Rat := xG (xG (xG (k1V f h t x) ((2 : Int) : Rat) (k2V f h t x)) ((2 : Int) : Rat) (k3V f h t x)) ((1 : Int) : Rat) (k4V f h t x)
def classicV (f : List Pl) (h t : Rat) (x : List Rat) : List Rat := xG x (h / ((6 : Int) : Rat)) (sumV f h t x)
def OneK (r : Option (List Rat)) (u : V) : Prop := (∃ y c, r = some y ∧ u = .tup [.c c, .c (.bool true)] ∧ Ls (elQ 4194304) c y) ∨ (r = none ∧ u = .tup [.c .nilSl, .c (.bool false)])
theorem OneK.fz {y : List Rat} {c : C} {H : Hp} (h : Ls (elQ 4194304) c y) : ∃ d, FzV H (.tup [.c c, .c (.bool true)]) d ∧ OneK (some y) d := ⟨_, .tup (.cons (.c (.hf h.hf)) (.cons (.c (.hf trivial)) .nil)), .inl ⟨y, c, rfl, rfl, h⟩⟩
structure qW (cf cx : C) (ch ct : List C) (f : List Pl) (x : List Rat) (h t : Rat) : Prop where
 hc : Ls elM cf f
 hf : SysOk (x.length + 1) f
 hl : f.length = x.length
 hh : IQ 4194304 ch h
 hx : Ls (elQ 4194304) cx x
 ht : IQ 4194304 ct t
 bx : CpL 120 x
 bt : CpL 90 [t]
 bh : CpL 45 [h]
section
variable {cf cx : C} {ch ct : List C} {f : List Pl} {x : List Rat} {h t : Rat}
theorem qW.x3 (hi : qW cf cx ch ct f x h t) : x.length ≤ 3 := by rw [← hi.hl]; exact hi.hf.len
theorem qW.hfv (hi : qW cf cx ch ct f x h t) : HFVs [.agg (cf :: ch), .c cx, .agg ct] := ⟨⟨hi.hc.hf, hi.hh.hf⟩, hi.hx.hf, hi.ht.hf, trivial⟩
end
theorem sI {m n : Nat} {f : List Pl} (h : SysOk m f) (e : m = n) : SysOk n f := by rwa [← e]
attribute [local irreducible] yA semH semC qLen qNil qIad qSlc qIdx yW yL xD appX appI slcX awpF yP xI xopF xR qval lval seqQ xL wJ wI xW cnd arith IntKind.wrap
section
variable {cf cx : C} {ch ct : List C} {f : List Pl} {x : List Rat} {h t : Rat}
theorem vV (hi : qW cf cx ch ct f x h t) {cy : C} {cs : List C} {y : List Rat} {s : Rat} {a b : Nat} (ly : Ls (elQ 4194304) cy y) (hy : y.length = x.length) (gs : IQ 4194304 cs s) (bY : CpL a y) (bS : CpL b [s]) (hn : 2446 + 24 * (a + b) < 134217728) : semC Tryz.prog n_step_system_rate [.agg (cf :: ch), .c cy, .agg cs] (LsK (elQ 4194304) (xF f y s)) :=
 step_rate hi.hc (sI hi.hf (by rw [hy])) hi.hh ly gs (by have := hi.x3; omega) (bY.append bS) hn
theorem wK {x3 : x.length ≤ 3} (hx : Ls (elQ 4194304) cx x) {cc : List C} {ck : C} {k : List Rat} {c : Rat} {a d e : Nat} (bx : CpL a x) (hc : IQ 4194304 cc c) (bc : CpL d [c]) (lk : Ls (elQ 4194304) ck k) (hk : k.length = x.length) (bk : CpL e k) (hn : (a + d + e + 1) + (a + d + e + 1) < 134217728) : semC Tryz.prog n_step_along [.c cx, .agg cc, .c ck] (LsK (elQ 4194304) (xG x c k)) :=
 step_along hx hc lk hk (by omega) (sC bx bc bk) hn
theorem pG {cs : List C} {q : Rat} {n : Nat} (h : IQ n cs q) (hn : n ≤ 4194304) : IQ 4194304 cs q := h.up hn
theorem step_euler (hi : qW cf cx ch ct f x h t) : semC Tryz.prog n_step_method_2 [.agg (cf :: ch), .c cx, .agg ct] (OneK (some (eulerV f h t x))) := by
 refine yD ok_step_method_2 rfl hi.hfv ?_
 have h3 := hi.x3
 obtain ⟨a0, a1, a2, a3, a4, a5, rfl⟩ := id hi.hh.six
 obtain ⟨b0, b1, b2, b3, b4, b5, rfl⟩ := id hi.ht.six
 have c1 : CpL 9720 (xF f x t) := (tO hi.hf hi.bx hi.bt).mono (by decide)
 have n1 : (xF f x t).length = x.length := by rw [vU, hi.hl]
 refine go11 ?_
 first | refine yE (vV hi hi.hx rfl hi.ht hi.bx hi.bt (by decide)) (fun u hu => ?_) | refine yB (vV hi hi.hx rfl hi.ht hi.bx hi.bt (by decide)) (fun u hu => ?_)
 obtain ⟨r1, rfl, l1⟩ := hu
 refine go11 ?_
 first | refine yE (wK (x3 := h3) hi.hx hi.bx hi.hh hi.bh l1 n1 c1 (by decide)) (fun u hu => ?_) | refine yB (wK (x3 := h3) hi.hx hi.bx hi.hh hi.bh l1 n1 c1 (by decide)) (fun u hu => ?_)
 obtain ⟨r2, rfl, l2⟩ := hu
 refine go11 ?_
 exact OneK.fz l2
theorem step_heun {hs : List C} (hi : qW cf cx ch ct f x h t) (hhs : IQ 1 hs vM) : semC Tryz.prog n_step_method_1 [.agg (cf :: ch), .c cx, .agg ct, .c (.ipt hs)] (OneK (some (heunV f h t x))) := by
 refine yD ok_step_method_1 rfl (show HFVs [.agg (cf :: ch), .c cx, .agg ct, .c (.ipt hs)] from ⟨⟨hi.hc.hf, hi.hh.hf⟩, hi.hx.hf, hi.ht.hf, hhs.hf, trivial⟩) ?_
 have h3 := hi.x3
 obtain ⟨a0, a1, a2, a3, a4, a5, rfl⟩ := id hi.hh.six
 obtain ⟨b0, b1, b2, b3, b4, b5, rfl⟩ := id hi.ht.six
 obtain ⟨d0, d1, d2, d3, d4, d5, rfl⟩ := id hhs.six
 have c1 : CpL 9720 (xF f x t) := (tO hi.hf hi.bx hi.bt).mono (by decide)
 have n1 : (xF f x t).length = x.length := by rw [vU, hi.hl]
 have c2 : CpL 10000 (xG x h (xF f x t)) := (sC hi.bx hi.bh c1).mono (by decide)
 have n2 : (xG x h (xF f x t)).length = x.length := wT n1
 have ct' : CpL 140 [t + h] := (bC hi.bt hi.bh).mono (by decide)
 have c3 : CpL 130000 (xF f (xG x h (xF f x t)) (t + h)) := (tO (sI hi.hf (show _ = (xG x h (xF f x t)).length + 1 by rw [n2])) c2 ct').mono (by decide)
 have n3 : (xF f (xG x h (xF f x t)) (t + h)).length = x.length := by rw [vU, hi.hl]
 have c4 : CpL 140000 (xG (xF f x t) ((1 : Int) : Rat) (xF f (xG x h (xF f x t)) (t + h))) := (sC c1 (pV (n := 1) (by decide)) c3).mono (by decide)
 have n4 : (xG (xF f x t) ((1 : Int) : Rat) (xF f (xG x h (xF f x t)) (t + h))).length = x.length := by rw [wT (by rw [n1, n3]), n1]
 refine go11 ?_
 first | refine yE (vV hi hi.hx rfl hi.ht hi.bx hi.bt (by decide)) (fun u hu => ?_) | refine yB (vV hi hi.hx rfl hi.ht hi.bx hi.bt (by decide)) (fun u hu => ?_)
 obtain ⟨r1, rfl, l1⟩ := hu
 refine go11 ?_
 first | refine yE (wK (x3 := h3) hi.hx hi.bx hi.hh hi.bh l1 n1 c1 (by decide)) (fun u hu => ?_) | refine yB (wK (x3 := h3) hi.hx hi.bx hi.hh hi.bh l1 n1 c1 (by decide)) (fun u hu => ?_)
 obtain ⟨r2, rfl, l2⟩ := hu
 refine go11 ?_
 first | refine yE (tL hi.ht hi.hh (by decide)) (fun u hu => ?_) | refine yB (tL hi.ht hi.hh (by decide)) (fun u hu => ?_)
 obtain ⟨r3, rfl, g3⟩ := hu
 have g3 := g3.tightS (ct'.bd (k := 4194304) (by decide) (by simp))
 refine go11 ?_
 first | refine yE (vV hi l2 n2 g3 c2 ct' (by decide)) (fun u hu => ?_) | refine yB (vV hi l2 n2 g3 c2 ct' (by decide)) (fun u hu => ?_)
 obtain ⟨r4, rfl, l4⟩ := hu
 refine go11 ?_
 first | refine yE (uC hi.hh hhs (by decide)) (fun u hu => ?_) | refine yB (uC hi.hh hhs (by decide)) (fun u hu => ?_)
 obtain ⟨r5, rfl, g5⟩ := hu
 have g5 := g5.tightS ((pJ hi.bh half_cp).bd (k := 4194304) (by decide) (by simp))
 refine go11 ?_
 first | refine yE (vG (g := 1) (by decide)) (fun u hu => ?_) | refine yB (vG (g := 1) (by decide)) (fun u hu => ?_)
 obtain ⟨r6, rfl, g6⟩ := hu
 refine go11 ?_
 first | refine yE (wK (x3 := by omega) l1 c1 (pG g6 (by decide)) (pV (n := 1) (by decide)) l4 (by rw [n3, n1]) c3 (by decide)) (fun u hu => ?_) | refine yB (wK (x3 := by omega) l1 c1 (pG g6 (by decide)) (pV (n := 1) (by decide)) l4 (by rw [n3, n1]) c3 (by decide)) (fun u hu => ?_)
 obtain ⟨r7, rfl, l7⟩ := hu
 refine go11 ?_
 first | refine yE (wK (x3 := h3) hi.hx hi.bx g5 (pJ hi.bh half_cp) l7 n4 c4 (by decide)) (fun u hu => ?_) | refine yB (wK (x3 := h3) hi.hx hi.bx g5 (pJ hi.bh half_cp) l7 n4 c4 (by decide)) (fun u hu => ?_)
 obtain ⟨r8, rfl, l8⟩ := hu
 refine go11 ?_
 exact OneK.fz l8
theorem step_mid {hs : List C} (hi : qW cf cx ch ct f x h t) (hhs : IQ 1 hs vM) : semC Tryz.prog n_step_method_3 [.agg (cf :: ch), .c cx, .agg ct, .c (.ipt hs)] (OneK (some (midV f h t x))) := by
 refine yD ok_step_method_3 rfl (show HFVs [.agg (cf :: ch), .c cx, .agg ct, .c (.ipt hs)] from ⟨⟨hi.hc.hf, hi.hh.hf⟩, hi.hx.hf, hi.ht.hf, hhs.hf, trivial⟩) ?_
 have h3 := hi.x3
 obtain ⟨a0, a1, a2, a3, a4, a5, rfl⟩ := id hi.hh.six
 obtain ⟨b0, b1, b2, b3, b4, b5, rfl⟩ := id hi.ht.six
 obtain ⟨d0, d1, d2, d3, d4, d5, rfl⟩ := id hhs.six
 have c1 : CpL 9720 (xF f x t) := (tO hi.hf hi.bx hi.bt).mono (by decide)
 have n1 : (xF f x t).length = x.length := by rw [vU, hi.hl]
 have bh2 := pJ hi.bh half_cp
 have c2 : CpL 10000 (xG x (h * vM) (xF f x t)) := (sC hi.bx bh2 c1).mono (by decide)
 have n2 : (xG x (h * vM) (xF f x t)).length = x.length := wT n1
 have ct' : CpL 140 [t + h * vM] := (bC hi.bt bh2).mono (by decide)
 have c3 : CpL 130000 (xF f (xG x (h * vM) (xF f x t)) (t + h * vM)) := (tO (sI hi.hf (show _ = (xG x (h * vM) (xF f x t)).length + 1 by rw [n2])) c2 ct').mono (by decide)
 have n3 : (xF f (xG x (h * vM) (xF f x t)) (t + h * vM)).length = x.length := by rw [vU, hi.hl]
 refine go11 ?_
 first | refine yE (uC hi.hh hhs (by decide)) (fun u hu => ?_) | refine yB (uC hi.hh hhs (by decide)) (fun u hu => ?_)
 obtain ⟨r5, rfl, g5⟩ := hu
 have g5 := g5.tightS (bh2.bd (k := 4194304) (by decide) (by simp))
 obtain ⟨e0, e1, e2, e3, e4, e5, rfl⟩ := id g5.six
 refine go11 ?_
 first | refine yE (vV hi hi.hx rfl hi.ht hi.bx hi.bt (by decide)) (fun u hu => ?_) | refine yB (vV hi hi.hx rfl hi.ht hi.bx hi.bt (by decide)) (fun u hu => ?_)
 obtain ⟨r1, rfl, l1⟩ := hu
 refine go11 ?_
 first | refine yE (wK (x3 := h3) hi.hx hi.bx g5 bh2 l1 n1 c1 (by decide)) (fun u hu => ?_) | refine yB (wK (x3 := h3) hi.hx hi.bx g5 bh2 l1 n1 c1 (by decide)) (fun u hu => ?_)
 obtain ⟨r2, rfl, l2⟩ := hu
 refine go11 ?_
 first | refine yE (tL hi.ht g5 (by decide)) (fun u hu => ?_) | refine yB (tL hi.ht g5 (by decide)) (fun u hu => ?_)
 obtain ⟨r3, rfl, g3⟩ := hu
 have g3 := g3.tightS (ct'.bd (k := 4194304) (by decide) (by simp))
 refine go11 ?_
 first | refine yE (vV hi l2 n2 g3 c2 ct' (by decide)) (fun u hu => ?_) | refine yB (vV hi l2 n2 g3 c2 ct' (by decide)) (fun u hu => ?_)
 obtain ⟨r4, rfl, l4⟩ := hu
 refine go11 ?_
 first | refine yE (wK (x3 := h3) hi.hx hi.bx hi.hh hi.bh l4 n3 c3 (by decide)) (fun u hu => ?_) | refine yB (wK (x3 := h3) hi.hx hi.bx hi.hh hi.bh l4 n3 c3 (by decide)) (fun u hu => ?_)
 obtain ⟨r8, rfl, l8⟩ := hu
 refine go11 ?_
 exact OneK.fz l8
theorem step_classic {hs : List C} (hi : qW cf cx ch ct f x h t) (hhs : IQ 1 hs vM) : semC Tryz.prog n_step_method_4 [.agg (cf :: ch), .c cx, .agg ct, .c (.ipt hs)] (OneK (some (classicV f h t x))) := by
 refine yD ok_step_method_4 rfl (show HFVs [.agg (cf :: ch), .c cx, .agg ct, .c (.ipt hs)] from ⟨⟨hi.hc.hf, hi.hh.hf⟩, hi.hx.hf, hi.ht.hf, hhs.hf, trivial⟩) ?_
 have h3 := hi.x3
 obtain ⟨a0, a1, a2, a3, a4, a5, rfl⟩ := id hi.hh.six
 obtain ⟨b0, b1, b2, b3, b4, b5, rfl⟩ := id hi.ht.six
 obtain ⟨d0, d1, d2, d3, d4, d5, rfl⟩ := id hhs.six
 have bh2 := pJ hi.bh half_cp
 have ct2 : CpL 140 [t + h * vM] := (bC hi.bt bh2).mono (by decide)
 have ct1 : CpL 140 [t + h] := (bC hi.bt hi.bh).mono (by decide)
 have c1 : CpL 9720 (k1V f h t x) := (tO hi.hf hi.bx hi.bt).mono (by decide)
 have n1 : (k1V f h t x).length = x.length := by rw [k1V, vU, hi.hl]
 have p1 : CpL 10000 (xG x (h * vM) (k1V f h t x)) := (sC hi.bx bh2 c1).mono (by decide)
 have m1 : (xG x (h * vM) (k1V f h t x)).length = x.length := wT n1
 have c2 : CpL 130000 (k2V f h t x) := (tO (sI hi.hf (show _ = (xG x (h * vM) (k1V f h t x)).length + 1 by rw [m1])) p1 ct2).mono (by decide)
 have n2 : (k2V f h t x).length = x.length := by rw [k2V, vU, hi.hl]
 have p2 : CpL 131000 (xG x (h * vM) (k2V f h t x)) := (sC hi.bx bh2 c2).mono (by decide)
 have m2 : (xG x (h * vM) (k2V f h t x)).length = x.length := wT n2
 have c3 : CpL 1600000 (k3V f h t x) := (tO (sI hi.hf (show _ = (xG x (h * vM) (k2V f h t x)).length + 1 by rw [m2])) p2 ct2).mono (by decide)
 have n3 : (k3V f h t x).length = x.length := by rw [k3V, vU, hi.hl]
 have p3 : CpL 1610000 (xG x h (k3V f h t x)) := (sC hi.bx hi.bh c3).mono (by decide)
 have m3 : (xG x h (k3V f h t x)).length = x.length := wT n3
 have c4 : CpL 19400000 (k4V f h t x) := (tO (sI hi.hf (show _ = (xG x h (k3V f h t x)).length + 1 by rw [m3])) p3 ct1).mono (by decide)
 have n4 : (k4V f h t x).length = x.length := by rw [k4V, vU, hi.hl]
 have s1 : CpL 140000 (xG (k1V f h t x) ((2 : Int) : Rat) (k2V f h t x)) := (sC c1 (pV (n := 1) (by decide)) c2).mono (by decide)
 have q1 : (xG (k1V f h t x) ((2 : Int) : Rat) (k2V f h t x)).length = x.length := by rw [wT (by rw [n1, n2]), n1]
 have s2 : CpL 1800000 (xG (xG (k1V f h t x) ((2 : Int) : Rat) (k2V f h t x)) ((2 : Int) : Rat) (k3V f h t x)) := (sC s1 (pV (n := 1) (by decide)) c3).mono (by decide)
 have q2 : (xG (xG (k1V f h t x) ((2 : Int) : Rat) (k2V f h t x)) ((2 : Int) : Rat) (k3V f h t x)).length = x.length := by rw [wT (by rw [q1, n3]), q1]
 have s3 : CpL 22000000 (sumV f h t x) := (sC s2 (pV (n := 1) (by decide)) c4).mono (by decide)
 have q3 : (sumV f h t x).length = x.length := by rw [sumV, wT (by rw [q2, n4]), q2]
 refine go11 ?_
 first | refine yE (uC hi.hh hhs (by decide)) (fun u hu => ?_) | refine yB (uC hi.hh hhs (by decide)) (fun u hu => ?_)
 obtain ⟨r5, rfl, g5⟩ := hu
 have g5 := g5.tightS (bh2.bd (k := 4194304) (by decide) (by simp))
 obtain ⟨e0, e1, e2, e3, e4, e5, rfl⟩ := id g5.six
 refine go11 ?_
 first | refine yE (vV hi hi.hx rfl hi.ht hi.bx hi.bt (by decide)) (fun u hu => ?_) | refine yB (vV hi hi.hx rfl hi.ht hi.bx hi.bt (by decide)) (fun u hu => ?_)
 obtain ⟨r1, rfl, l1⟩ := hu
 have l1 : Ls (elQ 4194304) r1 (k1V f h t x) := l1
 refine go11 ?_
 first | refine yE (wK (x3 := h3) hi.hx hi.bx g5 bh2 l1 n1 c1 (by decide)) (fun u hu => ?_) | refine yB (wK (x3 := h3) hi.hx hi.bx g5 bh2 l1 n1 c1 (by decide)) (fun u hu => ?_)
 obtain ⟨r2, rfl, l2⟩ := hu
 refine go11 ?_
 first | refine yE (tL hi.ht g5 (by decide)) (fun u hu => ?_) | refine yB (tL hi.ht g5 (by decide)) (fun u hu => ?_)
 obtain ⟨r3, rfl, g3⟩ := hu
 have g3 := g3.tightS (ct2.bd (k := 4194304) (by decide) (by simp))
 refine go11 ?_
 first | refine yE (vV hi l2 m1 g3 p1 ct2 (by decide)) (fun u hu => ?_) | refine yB (vV hi l2 m1 g3 p1 ct2 (by decide)) (fun u hu => ?_)
 obtain ⟨r4, rfl, l4⟩ := hu
 have l4 : Ls (elQ 4194304) r4 (k2V f h t x) := l4
 refine go11 ?_
 simp only [tN, tM, ratC, tY, tX, List.set_cons_zero, List.set_cons_succ, List.nil_append, List.cons_append, List.append_nil, List.replicate_succ, List.replicate_zero, List.length_cons, List.length_nil, splice, List.take_succ_cons, List.take_zero, List.drop_succ_cons, List.drop_zero, List.take_nil, List.drop_nil, Nat.zero_add, Nat.reduceAdd, Nat.reduceMul, Int.reduceToNat, wF, List.getElem?_cons_succ, List.getElem?_cons_zero]
 first | refine yE (wK (x3 := h3) hi.hx hi.bx g5 bh2 l4 n2 c2 (by decide)) (fun u hu => ?_) | refine yB (wK (x3 := h3) hi.hx hi.bx g5 bh2 l4 n2 c2 (by decide)) (fun u hu => ?_)
 obtain ⟨r6, rfl, l6⟩ := hu
 refine go11 ?_
 first | refine yE (tL hi.ht g5 (by decide)) (fun u hu => ?_) | refine yB (tL hi.ht g5 (by decide)) (fun u hu => ?_)
 obtain ⟨r7, rfl, g7⟩ := hu
 have g7 := g7.tightS (ct2.bd (k := 4194304) (by decide) (by simp))
 refine go11 ?_
 first | refine yE (vV hi l6 m2 g7 p2 ct2 (by decide)) (fun u hu => ?_) | refine yB (vV hi l6 m2 g7 p2 ct2 (by decide)) (fun u hu => ?_)
 obtain ⟨r8, rfl, l8⟩ := hu
 have l8 : Ls (elQ 4194304) r8 (k3V f h t x) := l8
 refine go11 ?_
 simp only [tN, tM, ratC, tY, tX, List.set_cons_zero, List.set_cons_succ, List.nil_append, List.cons_append, List.append_nil, List.replicate_succ, List.replicate_zero, List.length_cons, List.length_nil, splice, List.take_succ_cons, List.take_zero, List.drop_succ_cons, List.drop_zero, List.take_nil, List.drop_nil, Nat.zero_add, Nat.reduceAdd, Nat.reduceMul, Int.reduceToNat, wF, List.getElem?_cons_succ, List.getElem?_cons_zero]
 first | refine yE (wK (x3 := h3) hi.hx hi.bx hi.hh hi.bh l8 n3 c3 (by decide)) (fun u hu => ?_) | refine yB (wK (x3 := h3) hi.hx hi.bx hi.hh hi.bh l8 n3 c3 (by decide)) (fun u hu => ?_)
 obtain ⟨r9, rfl, l9⟩ := hu
 refine go11 ?_
 first | refine yE (tL hi.ht hi.hh (by decide)) (fun u hu => ?_) | refine yB (tL hi.ht hi.hh (by decide)) (fun u hu => ?_)
 obtain ⟨r10, rfl, g10⟩ := hu
 have g10 := g10.tightS (ct1.bd (k := 4194304) (by decide) (by simp))
 refine go11 ?_
 first | refine yE (vV hi l9 m3 g10 p3 ct1 (by decide)) (fun u hu => ?_) | refine yB (vV hi l9 m3 g10 p3 ct1 (by decide)) (fun u hu => ?_)
 obtain ⟨r11, rfl, l11⟩ := hu
 have l11 : Ls (elQ 4194304) r11 (k4V f h t x) := l11
 refine go11 ?_
 simp only [tN, tM, ratC, tY, tX, List.set_cons_zero, List.set_cons_succ, List.nil_append, List.cons_append, List.append_nil, List.replicate_succ, List.replicate_zero, List.length_cons, List.length_nil, splice, List.take_succ_cons, List.take_zero, List.drop_succ_cons, List.drop_zero, List.take_nil, List.drop_nil, Nat.zero_add, Nat.reduceAdd, Nat.reduceMul, Int.reduceToNat, wF, List.getElem?_cons_succ, List.getElem?_cons_zero]
 first | refine yE (vG (g := 2) (by decide)) (fun u hu => ?_) | refine yB (vG (g := 2) (by decide)) (fun u hu => ?_)
 obtain ⟨r12, rfl, g12⟩ := hu
 refine go11 ?_
 first | refine yE (wK (x3 := by omega) l1 c1 (pG g12 (by decide)) (pV (n := 1) (by decide)) l4 (by rw [n2, n1]) c2 (by decide)) (fun u hu => ?_) | refine yB (wK (x3 := by omega) l1 c1 (pG g12 (by decide)) (pV (n := 1) (by decide)) l4 (by rw [n2, n1]) c2 (by decide)) (fun u hu => ?_)
 obtain ⟨r13, rfl, l13⟩ := hu
 have l13 : Ls (elQ 4194304) r13 (xG (k1V f h t x) ((2 : Int) : Rat) (k2V f h t x)) := l13
 refine go11 ?_
 first | refine yE (vG (g := 2) (by decide)) (fun u hu => ?_) | refine yB (vG (g := 2) (by decide)) (fun u hu => ?_)
 obtain ⟨r14, rfl, g14⟩ := hu
 refine go11 ?_
 first | refine yE (wK (x3 := by omega) l13 s1 (pG g14 (by decide)) (pV (n := 1) (by decide)) l8 (by rw [q1, n3]) c3 (by decide)) (fun u hu => ?_) | refine yB (wK (x3 := by omega) l13 s1 (pG g14 (by decide)) (pV (n := 1) (by decide)) l8 (by rw [q1, n3]) c3 (by decide)) (fun u hu => ?_)
 obtain ⟨r15, rfl, l15⟩ := hu
 have l15 : Ls (elQ 4194304) r15 (xG (xG (k1V f h t x) ((2 : Int) : Rat) (k2V f h t x)) ((2 : Int) : Rat) (k3V f h t x)) := l15
 refine go11 ?_
 first | refine yE (vG (g := 1) (by decide)) (fun u hu => ?_) | refine yB (vG (g := 1) (by decide)) (fun u hu => ?_)
 obtain ⟨r16, rfl, g16⟩ := hu
 refine go11 ?_
 first | refine yE (wK (x3 := by omega) l15 s2 (pG g16 (by decide)) (pV (n := 1) (by decide)) l11 (by rw [q2, n4]) c4 (by decide)) (fun u hu => ?_) | refine yB (wK (x3 := by omega) l15 s2 (pG g16 (by decide)) (pV (n := 1) (by decide)) l11 (by rw [q2, n4]) c4 (by decide)) (fun u hu => ?_)
 obtain ⟨r17, rfl, l17⟩ := hu
 have l17 : Ls (elQ 4194304) r17 (sumV f h t x) := l17
 refine go11 ?_
 first | refine yE (vG (g := 6) (by decide)) (fun u hu => ?_) | refine yB (vG (g := 6) (by decide)) (fun u hu => ?_)
 obtain ⟨r18, rfl, g18⟩ := hu
 refine go11 ?_
 first | refine yE (q_Div2 hi.hh g18 (by decide) (by decide)) (fun u hu => ?_) | refine yB (q_Div2 hi.hh g18 (by decide) (by decide)) (fun u hu => ?_)
 obtain ⟨r19, rfl, g19⟩ := hu
 have b19 : CpL 49 [h / ((6 : Int) : Rat)] := by
  have := pJ hi.bh (cp_frac (a := 1) (b := 6) (n := 3) (by decide) (by decide) (by decide) false)
  have e : h * ((((bif false then -((1 : Nat) : Int) else ((1 : Nat) : Int)) : Int) : Rat) / (((6 : Nat) : Int) : Rat)) = h / ((6 : Int) : Rat) := by
   simp only [cond_false]
   grind
  rw [e] at this
  exact this.mono (by decide)
 have g19 := g19.tightS (b19.bd (k := 4194304) (by decide) (by simp))
 refine go11 ?_
 first | refine yE (wK (x3 := h3) hi.hx hi.bx g19 b19 l17 q3 s3 (by decide)) (fun u hu => ?_) | refine yB (wK (x3 := h3) hi.hx hi.bx g19 b19 l17 q3 s3 (by decide)) (fun u hu => ?_)
 obtain ⟨r20, rfl, l20⟩ := hu
 refine go11 ?_
 exact OneK.fz l20
end
end Go.Proofs.YtokckcnfojjpjaaGreat

set_option linter.unusedVariables false
set_option linter.unusedSimpArgs false
namespace Go.Proofs.YtokckcnfojjpjaaGreat
open Go.RowKit
set_option maxRecDepth 20000
abbrev Mx := Nat → Nat → Rat
def qG (M : Mx) (k p : Nat) : Mx := fun i => if i = k then M p else if i = p then M k else M i
noncomputable def jZ (M : Mx) (k : Nat) : Mx := fun i j => bif dec (i = k ∨ M i k = 0 ∨ j < k) then M i j else M i j - M i k / M k k * M k j
def gZ (M : Mx) (n k p : Nat) : Prop := k ≤ p ∧ p < n ∧ M p k ≠ 0 ∧ ∀ i, k ≤ i → i < p → M i k = 0
noncomputable def gC (n k : Nat) (M : Mx) : Option Mx := bif dec (∃ p, gZ M n k p) then some (jZ (qG M k (Classical.epsilon fun p => gZ M n k p)) k) else none
noncomputable def tT (n : Nat) (M : Mx) : Nat → Option Mx
 | 0 => some M
 | k + 1 => (tT n M k).bind (gC n k)
noncomputable def gD (n : Nat) (M : Mx) : Option (List Rat) := (tT n M n).map fun R => (List.range n).map fun i => R i n / R i i
def qF (n k : Nat) : List Rat := (List.replicate n (0 : Rat)).set k 1
noncomputable def impM (f : List Pl) (x : List Rat) (a t : Rat) : Mx := fun i j =>
 if j < x.length then (if i = j then -(a * ((xF f (qF x.length j) t).getD i 0 - (xF f (List.replicate x.length 0) t).getD i 0)) + 1 else -(a * ((xF f (qF x.length j) t).getD i 0 - (xF f (List.replicate x.length 0) t).getD i 0)))
 else x.getD i 0 + a * (xF f (List.replicate x.length 0) t).getD i 0
noncomputable def sX (f : List Pl) (x : List Rat) (a t : Rat) : Option (List Rat) := gD x.length (impM f x a t)
noncomputable def gM (f : List Pl) (h t : Rat) (x : List Rat) : Option (List Rat) := sX f (xG x (h * vM) (xF f x t)) (h * vM) (t + h)
noncomputable def tE (m : Int) (f : List Pl) (h t : Rat) (x : List Rat) : Option (List Rat) :=
 bif dec (m = 0) then some (eulerV f h t x) else bif dec (m = 1 ∨ m = 6) then some (heunV f h t x) else bif dec (m = 2) then some (midV f h t x) else
  bif dec (m = 3) then some (classicV f h t x) else bif dec (m = 4) then sX f x h (t + h) else gM f h t x
def DoK (m : Int) (u : V) : Prop := ∃ g caps, u = .c (.fn g caps) ∧ HFL caps ∧ ∀ {cf cx : C} {ch ct : List C} {f : List Pl} {x : List Rat} {h t : Rat}, qW cf cx ch ct f x h t → (m = 4 ∨ m = 5 → AffS f) → semC Tryz.prog g ([.agg (cf :: ch), .c cx, .agg ct] ++ caps.map .c) (OneK (tE m f h t x))
def ImpOk (m : Int) : Prop := ∀ {cf cx : C} {ch ct hs : List C} {f : List Pl} {x : List Rat} {h t : Rat}, qW cf cx ch ct f x h t → AffS f → IQ 1 hs vM → (m = 4 → semC Tryz.prog n_step_method_5 [.agg (cf :: ch), .c cx, .agg ct] (OneK (sX f x h (t + h)))) ∧ (m = 5 → semC Tryz.prog n_step_method_6 [.agg (cf :: ch), .c cx, .agg ct, .c (.ipt hs)] (OneK (gM f h t x)))
theorem DoK.fn {m : Int} {H : Hp} {g : FuncId} (h : ∀ {cf cx : C} {ch ct : List C} {f : List Pl} {x : List Rat} {h t : Rat}, qW cf cx ch ct f x h t → (m = 4 ∨ m = 5 → AffS f) → semC Tryz.prog g [.agg (cf :: ch), .c cx, .agg ct] (OneK (tE m f h t x))) : ∃ d, FzV H (.c (.fn g [])) d ∧ DoK m d := ⟨_, .c (.fn .nil), g, [], rfl, trivial, h⟩
theorem DoK.fnP {m : Int} {H : Hp} {g : FuncId} {b : Nat} {hs : List C} {el : TypeId} (hb : H[b]? = some (.live ⟨hs, el, .rw⟩)) (hh : IQ 1 hs vM) (h : ∀ {cf cx : C} {ch ct : List C} {f : List Pl} {x : List Rat} {h t : Rat}, qW cf cx ch ct f x h t → (m = 4 ∨ m = 5 → AffS f) → semC Tryz.prog g [.agg (cf :: ch), .c cx, .agg ct, .c (.ipt hs)] (OneK (tE m f h t x))) : ∃ d, FzV H (.c (.fn g [.ptr b 0])) d ∧ DoK m d :=
 ⟨_, .c (.fn (.cons (.ptr hb (by simp) (by simp) (.hf hh.hf)) .nil)), g, [.ipt hs], rfl, ⟨hh.hf, trivial⟩, h⟩
theorem one_0 {f : List Pl} {h t : Rat} {x : List Rat} : tE 0 f h t x = some (eulerV f h t x) := by simp [tE, dec]
theorem one_1 {f : List Pl} {h t : Rat} {x : List Rat} : tE 1 f h t x = some (heunV f h t x) := by simp [tE, dec]
theorem one_6 {f : List Pl} {h t : Rat} {x : List Rat} : tE 6 f h t x = some (heunV f h t x) := by simp [tE, dec]
theorem one_2 {f : List Pl} {h t : Rat} {x : List Rat} : tE 2 f h t x = some (midV f h t x) := by simp [tE, dec]
theorem one_3 {f : List Pl} {h t : Rat} {x : List Rat} : tE 3 f h t x = some (classicV f h t x) := by simp [tE, dec]
theorem one_4 {f : List Pl} {h t : Rat} {x : List Rat} : tE 4 f h t x = sX f x h (t + h) := by simp [tE, dec]
theorem one_5 {f : List Pl} {h t : Rat} {x : List Rat} : tE 5 f h t x = gM f h t x := by simp [tE, dec]
attribute [local irreducible] yA semH semC qLen qNil qIad qSlc qIdx yW yL xD appX appI slcX awpF yP xI xopF xR qval lval seqQ xL wJ wI xW cnd arith IntKind.wrap
theorem step_method {m : Int} (h0 : 0 ≤ m) (h6 : m ≤ 6) (hi : ImpOk m) : semC Tryz.prog n_step_method [i64 m] (DoK m) := by
 refine yD ok_step_method rfl (show HFVs [i64 m] from ⟨trivial, trivial⟩) ?_
 have hm : m = 0 ∨ m = 1 ∨ m = 2 ∨ m = 3 ∨ m = 4 ∨ m = 5 ∨ m = 6 := by omega
 refine go11 ?_
 first | refine yE (tZ (a := 1) (b := 2) (by decide) (by decide) (by decide)) (fun u hu => ?_) | refine yB (tZ (a := 1) (b := 2) (by decide) (by decide) (by decide)) (fun u hu => ?_)
 obtain ⟨hs, rfl, g1⟩ := hu
 obtain ⟨a0, a1, a2, a3, a4, a5, rfl⟩ := id g1.six
 have g1 : IQ 1 [a0, a1, a2, a3, a4, a5] vM := g1
 rcases hm with rfl | rfl | rfl | rfl | rfl | rfl | rfl
 case inl =>
  refine go11 ?_
  exact DoK.fn (fun hj _ => by rw [one_0]; exact step_euler hj)
 case inr.inl =>
  refine go11 ?_
  exact DoK.fnP (by rfl) g1 (fun hj _ => by rw [one_1]; exact step_heun hj g1)
 case inr.inr.inl =>
  refine go11 ?_
  exact DoK.fnP (by rfl) g1 (fun hj _ => by rw [one_2]; exact step_mid hj g1)
 case inr.inr.inr.inl =>
  refine go11 ?_
  exact DoK.fnP (by rfl) g1 (fun hj _ => by rw [one_3]; exact step_classic hj g1)
 case inr.inr.inr.inr.inl =>
  refine go11 ?_
  exact DoK.fn (fun hj ha => by rw [one_4]; exact (hi hj (ha (.inl rfl)) g1).1 rfl)
 case inr.inr.inr.inr.inr.inl =>
  refine go11 ?_
  exact DoK.fnP (by rfl) g1 (fun hj ha => by rw [one_5]; exact (hi hj (ha (.inr rfl)) g1).2 rfl)
 case inr.inr.inr.inr.inr.inr =>
  refine go11 ?_
  exact DoK.fnP (by rfl) g1 (fun hj _ => by rw [one_6]; exact step_heun hj g1)
end Go.Proofs.YtokckcnfojjpjaaGreat

set_option linter.unusedVariables false
set_option linter.unusedSimpArgs false
namespace Go.Proofs.YtokckcnfojjpjaaGreat
open Go.RowKit
set_option maxRecDepth 20000
def rowQ (bx : Nat → Nat) (co : Nat → Option Nat) (w i : Nat) : C := .sl (bx i) 0 w (co i) 6
def updQ (A : Mx) (i j : Nat) (a : Rat) : Mx := fun i' j' => if i' = i ∧ j' = j then a else A i' j'
structure Mt (K o : Nat) (bx : Nat → Nat) (co : Nat → Option Nat) (ds : Nat → List C) (L : Nat) (H : Hp) (m w : Nat) (M : Mx) : Prop where
 T : H[o]? = some (.live ⟨(List.range m).map (rowQ bx co w), qM, .rw⟩)
 oL : o < L
 pos : ∀ i, i < m → bx i ≠ o ∧ bx i < L
 row : ∀ i, i < m → H[bx i]? = some (.live ⟨ds i, yZ, .rw⟩)
 len : ∀ i, i < m → (ds i).length = w * 6
 at_ : ∀ i j, i < m → j < w → IQ K (((ds i).drop (j * 6)).take 6) (M i j)
 inj : ∀ i k, i < m → k < m → bx i = bx k → i = k
section
variable {K o : Nat} {bx : Nat → Nat} {co : Nat → Option Nat} {ds : Nat → List C} {L : Nat} {H : Hp} {m w : Nat} {M : Mx}
theorem Mt.congr {M' : Mx} (h : Mt K o bx co ds L H m w M) (hv : ∀ i j, i < m → j < w → M i j = M' i j) : Mt K o bx co ds L H m w M' :=
 ⟨h.T, h.oL, h.pos, h.row, h.len, fun i j hi hj => by rw [← hv i j hi hj]; exact h.at_ i j hi hj, h.inj⟩
theorem Mt.grow {X : Hp} (h : Mt K o bx co ds L H m w M) : Mt K o bx co ds L (H ++ X) m w M :=
 ⟨by rw [List.getElem?_append_left (lt_of_getElem? h.T)]; exact h.T, h.oL, h.pos, fun i hi => by rw [List.getElem?_append_left (lt_of_getElem? (h.row i hi))]; exact h.row i hi, h.len, h.at_, h.inj⟩
theorem Mt.other {p : Nat} {s : Slot} (h : Mt K o bx co ds L H m w M) (hp : L ≤ p) : Mt K o bx co ds L (H.set p s) m w M :=
 ⟨by rw [List.getElem?_set_ne (by have := h.oL; omega)]; exact h.T, h.oL, h.pos, fun i hi => by rw [List.getElem?_set_ne (by have := h.pos i hi; omega)]; exact h.row i hi, h.len, h.at_, h.inj⟩
theorem splice_otherQ {cells cs : List C} {i j : Nat} (h : j * 6 + 6 ≤ cells.length) (hl : cs.length = 6) (hij : i ≠ j) : ((splice cells (j * 6) cs).drop (i * 6)).take 6 = (cells.drop (i * 6)).take 6 := by
 unfold splice
 apply List.ext_getElem?
 intro n
 simp only [List.getElem?_take, List.getElem?_drop]
 split
 ·rename_i hn
  rcases Nat.lt_or_ge i j with h1 | h1
  ·rw [List.append_assoc, List.getElem?_append_left (by simp; omega), List.getElem?_take, if_pos (by omega)]
  ·rw [List.getElem?_append_right (by simp; omega), List.getElem?_drop]
   congr 1
   simp
   omega
 ·rfl
theorem Mt.put {i j : Nat} {a : Rat} {cs : List C} (h : Mt K o bx co ds L H m w M) (hi : i < m) (hj : j < w) (hc : IQ K cs a) :
  Mt K o bx co (fun i' => if i' = i then splice (ds i) (j * 6) cs else ds i') L (H.set (bx i) (.live ⟨splice (ds i) (j * 6) cs, yZ, .rw⟩)) m w (updQ M i j a) := by
 have hlt := lt_of_getElem? (h.row i hi)
 have hcl : cs.length = 6 := (elQ K).len (show (elQ K).p cs a from hc)
 have hle : j * 6 + 6 ≤ (ds i).length := by
  rw [h.len i hi]
  omega
 refine ⟨?_, h.oL, h.pos, fun i' hi' => ?_, fun i' hi' => ?_, fun i' j' hi' hj' => ?_, h.inj⟩
 ·rw [List.getElem?_set_ne (h.pos i hi).1]
  exact h.T
 ·by_cases e : i' = i
  ·subst e
   rw [List.getElem?_set_self hlt, if_pos rfl]
  ·rw [List.getElem?_set_ne (fun x => e (h.inj i' i hi' hi x.symm)), if_neg e]
   exact h.row i' hi'
 ·by_cases e : i' = i
  ·subst e
   rw [if_pos rfl, jD (by rw [hcl]; exact hle)]
   exact h.len i' hi'
  ·rw [if_neg e]
   exact h.len i' hi'
 ·unfold updQ
  by_cases e : i' = i
  ·subst e
   rw [if_pos rfl]
   by_cases e2 : j' = j
   ·subst e2
    rw [if_pos ⟨rfl, rfl⟩, get_splice (by omega) hcl]
    exact hc
   ·rw [if_neg (fun x => e2 x.2), splice_otherQ hle hcl e2]
    exact h.at_ i' j' hi' hj'
  ·rw [if_neg e, if_neg (fun x => e x.1)]
   exact h.at_ i' j' hi' hj'
def sigQ (r k i : Nat) : Nat := if i = r then k else if i = k then r else i
theorem sigQ_lt {r k i m : Nat} (hr : r < m) (hk : k < m) (hi : i < m) : sigQ r k i < m := by
 unfold sigQ
 split
 ·exact hk
 ·split
  ·exact hr
  ·exact hi
theorem sigQ_inj {r k i l : Nat} (h : sigQ r k i = sigQ r k l) : i = l := by
 unfold sigQ at h
 split at h <;> split at h <;> (try split at h) <;> (try split at h) <;> omega
def gN {α : Type} (f : Nat → α) (r k : Nat) : Nat → α := fun i => if i = r then f k else if i = k then f r else f i
theorem swapQ_sig {α : Type} (f : Nat → α) (r k i : Nat) : gN f r k i = f (sigQ r k i) := by
 unfold gN sigQ
 split
 ·rfl
 ·split <;> rfl
theorem Mt.swap {r k : Nat} (h : Mt K o bx co ds L H m w M) (hr : r < m) (hk : k < m) :
  Mt K o (gN bx r k) (gN co r k) (gN ds r k) L (H.set o (.live ⟨splice (splice ((List.range m).map (rowQ bx co w)) r [rowQ bx co w k]) k [rowQ bx co w r], qM, .rw⟩)) m w (qG M r k) := by
 have hlt := lt_of_getElem? h.T
 have sw : ∀ {α : Type} (f : Nat → α) (p : α → Prop) (i : Nat), i < m → (∀ i, i < m → p (f i)) → p (gN f r k i) := by
  intro α f p i hi hp
  unfold gN
  split
  ·exact hp k hk
  ·split
   ·exact hp r hr
   ·exact hp i hi
 have hpos : ∀ i, i < m → gN bx r k i ≠ o ∧ gN bx r k i < L := fun i hi => sw bx (fun b => b ≠ o ∧ b < L) i hi h.pos
 refine ⟨?_, h.oL, hpos, fun i hi => ?_, fun i hi => sw ds (fun d => d.length = w * 6) i hi h.len, fun i j hi hj => ?_, fun i l hi hl he => ?_⟩
 ·rw [List.getElem?_set_self hlt]
  congr 3
  have e1 : ∀ (cells : List C) (i : Nat) (c : C), i < cells.length → splice cells i [c] = cells.set i c := by
   intro cells i c hi
   unfold splice
   rw [List.set_eq_take_append_cons_drop, if_pos hi]
   simp
  rw [e1 _ r _ (by simp; omega), e1 _ k _ (by simp; omega)]
  apply List.ext_getElem
  ·simp
  ·intro i h1 h2
   simp only [List.getElem_map, List.getElem_range, List.getElem_set]
   unfold rowQ gN
   by_cases e : k = i
   ·subst e
    by_cases e2 : k = r
    ·subst e2
     simp
    ·simp [e2]
   ·by_cases e2 : r = i
    ·subst e2
     simp [e]
    ·simp [e, e2, Ne.symm e, Ne.symm e2, show ¬ i = r from fun x => e2 x.symm, show ¬ i = k from fun x => e x.symm]
 ·rw [List.getElem?_set_ne (fun x => (hpos i hi).1 x.symm)]
  unfold gN
  split
  ·exact h.row k hk
  ·split
   ·exact h.row r hr
   ·exact h.row i hi
 ·unfold gN qG
  by_cases c1 : i = r
  ·rw [if_pos c1, if_pos c1]
   exact h.at_ k j hk hj
  ·rw [if_neg c1, if_neg c1]
   by_cases c2 : i = k
   ·rw [if_pos c2, if_pos c2]
    exact h.at_ r j hr hj
   ·rw [if_neg c2, if_neg c2]
    exact h.at_ i j hi hj
 ·rw [swapQ_sig, swapQ_sig] at he
  exact sigQ_inj (h.inj _ _ (sigQ_lt hr hk hi) (sigQ_lt hr hk hl) he)
theorem Mt.ldT {off i : Nat} {Q : V → Prop} (h : Mt K o bx co ds L H m w M) (hi : i < m) (ho : off = i) (k : Q (.c (rowQ bx co w i))) : yW H[o]? false 1 off Q := by
 subst ho
 refine yN h.T ?_ k
 simp [hi]
theorem Mt.ldE {off i j : Nat} {Q : V → Prop} (h : Mt K o bx co ds L H m w M) (hi : i < m) (hj : j < w) (ho : off = j * 6) (k : ∀ cs, IQ K cs (M i j) → Q (.agg cs)) : yW H[bx i]? true 6 off Q := by
 subst ho
 have hl := h.len i hi
 refine yI (h.row i hi) (Nat.ble_eq_true_of_le (by simp only; omega)) (k _ (h.at_ i j hi hj))
theorem Mt.st {off i j : Nat} {cs : List C} {a : Rat} {ds' : Option (List C)} {Q : Nat → Slot → Prop} (h : Mt K o bx co ds L H m w M) (hi : i < m) (hj : j < w) (ho : off = j * 6) (hd : ds' = some cs) (hc : IQ K cs a) (k : Q (bx i) (.live ⟨splice (ds i) (j * 6) cs, yZ, .rw⟩)) : xD H[bx i]? (bx i) 6 off ds' Q := by
 subst ho
 have hl := h.len i hi
 have hcl : cs.length = 6 := (elQ K).len (show (elQ K).p cs a from hc)
 exact yS (h.row i hi) hd (by rw [hcl]; rfl) (by omega) k
end
theorem piv_uniq {M : Mx} {n k p q : Nat} (h1 : gZ M n k p) (h2 : gZ M n k q) : p = q := by
 rcases Nat.lt_trichotomy p q with h | h | h
 ·exact absurd (h2.2.2.2 p h1.1 h) h1.2.2.1
 ·exact h
 ·exact absurd (h1.2.2.2 q h2.1 h) h2.2.2.1
theorem stage_some {M : Mx} {n k p : Nat} (h : gZ M n k p) : gC n k M = some (jZ (qG M k p) k) := by
 unfold gC
 rw [yH.2 ⟨p, h⟩]
 have := Classical.epsilon_spec (p := fun p => gZ M n k p) ⟨p, h⟩
 rw [piv_uniq this h]
 rfl
theorem stage_none {M : Mx} {n k : Nat} (h : ∀ i, k ≤ i → i < n → M i k = 0) : gC n k M = none := by
 unfold gC
 rw [yM.2 (fun ⟨p, h1, h2, h3, _⟩ => h3 (h p h1 h2))]
 rfl
theorem gauss_none {n : Nat} {M : Mx} {k l : Nat} (h : tT n M k = none) (hl : k ≤ l) : tT n M l = none := by
 induction l with
 | zero =>
  have : k = 0 := by omega
  subst this
  exact h
 | succ l ih =>
  rcases Nat.lt_or_ge k (l + 1) with h1 | h1
  ·simp only [tT, ih (by omega), Option.bind_none]
  ·have : k = l + 1 := by omega
   subst this
   exact h
theorem elim_row {M : Mx} {k j : Nat} : jZ M k k j = M k j := by
 unfold jZ
 rw [yH.2 (.inl rfl)]
 rfl
theorem elim_zero {M : Mx} {k i j : Nat} (h : M i k = 0) : jZ M k i j = M i j := by
 unfold jZ
 rw [yH.2 (.inr (.inl h))]
 rfl
theorem elim_left {M : Mx} {k i j : Nat} (h : j < k) : jZ M k i j = M i j := by
 unfold jZ
 rw [yH.2 (.inr (.inr h))]
 rfl
theorem elim_else {M : Mx} {k i j : Nat} (h1 : i ≠ k) (h2 : M i k ≠ 0) (h3 : k ≤ j) : jZ M k i j = M i j - M i k / M k k * M k j := by
 unfold jZ
 rw [yM.2 (by rintro (h | h | h); exact h1 h; exact h2 h; omega)]
 rfl
def GB (K n : Nat) (M : Mx) : Prop := ∀ k R, k ≤ n → tT n M k = some R → ∀ i j, i < n → j ≤ n → Bd K (rp (R i j))
end Go.Proofs.YtokckcnfojjpjaaGreat

set_option linter.unusedVariables false
set_option linter.unusedSimpArgs false
namespace Go.Proofs.YtokckcnfojjpjaaGreat
open Go.RowKit
set_option maxRecDepth 20000
theorem bI {P : Program} {e : Env} {H : Hp} {K : V → Hp → Prop} {el : TypeId} {zero : List C} (k : K (.c (.ptr H.length 0)) (H ++ [.live ⟨zero, el, .rw⟩])) : xR P e (H ++ List.replicate (0 + 1) .unb) H.length (.alloc el zero) K := by
 have e1 : H ++ List.replicate (0 + 1) .unb = H ++ [.unb] := rfl
 rw [e1]
 refine uA (yJ _ _) ?_
 rw [bM]
 exact k
theorem go13 {A B : Prop} (k : B) (h : Held B → A := by
 intro hgo
 repeat (first | (refine g_o ?_; first | (refine o_some ?_; try (first | (refine x_q (by rfl) ?_; try (first | refine q_mv (by rfl) ?_ | refine wO (by rfl) ?_ | (refine uO ?_; try (first | refine uD (by rfl) (by assumption) ?_ | refine vA (by rfl) (by assumption) ?_ | refine vB (by rfl) ?_ | refine xY (by rfl) ?_ | refine xX (by rfl) ?_)) | (refine uQ ?_; try (first | refine uE (by rfl) (by rfl) (by assumption) (by omega) (by omega) ?_ | refine wS (by rfl) (by rfl) (by assumption) (by omega) (by omega) ?_ | refine wW (by rfl) (by rfl) (by decide) (by decide) ?_ | refine yG (by rfl) (by rfl) (by decide) (by decide) ?_ | refine wM (by rfl) (by rfl) (by decide) (by decide) ?_ | refine yG (by rfl) (by rfl) (by omega) (by omega) ?_)) | refine q_cm (by rfl) (by rfl) ?_ | refine q_ar (by rfl) (by rfl) (by rfl) ?_ | refine vJ (by rfl) ?_ | (refine uU ?_; try (first | refine wG (by rfl) ?_ | refine wH (by rfl) ?_ | refine vC (by rfl) ?_)) | refine uT (by rfl) (by rfl) ?_ | refine wN (by rfl) ?_ | refine wP (by rfl) ?_ | refine uK (by rfl) (by rfl) (by first | decide | omega) ?_ | refine uJ (by rfl) (by rfl) (by first | decide | omega) ?_ | refine uV (by rfl) (by rfl) ?_ | refine uW (by rfl) (by rfl) (by rfl) ?_ | refine uM (by rfl) ?_ | refine uL (by rfl) ?_ | refine xZ (by rfl) (by rfl) ?_ | refine wA (by rfl) (by rfl) ?_ | refine uI ?_ | refine uP ?_ | refine uS (by rfl) (by rfl) ?_ | refine vI (by rfl) (by rfl) ?_ | refine wC (by rfl) ?_ | refine q_mx (by rfl) (by rfl) ?_ | refine q_mn (by rfl) (by rfl) ?_ | refine uN (by rfl) (by rfl) (by rfl) ?_ | refine uR (by rfl) ?_ | refine vK (by rfl) ?_ | refine vL (by rfl) ?_ | refine wB (by rfl) ?_ | refine wQ (by rfl) (by rfl) ?_ | refine wR (by rfl) (by rfl) ?_)) | (refine gB ?_; try (first | (refine uX (by rfl) ?_; try (first | refine yN (by rfl) (by rfl) ?_ | refine yI (by rfl) (by rfl) ?_ | refine yN (yJ _ _) (by rfl) ?_ | refine yI (yJ _ _) (by rfl) ?_ | refine yN (xQ _ _ _ _) (by rfl) ?_ | refine yI (xQ _ _ _ _) (by rfl) ?_ | refine yN (xP _ _ _) (by rfl) ?_ | refine yI (xP _ _ _) (by rfl) ?_)) | (refine uY (by rfl) ?_; try (first | refine tC (by assumption) (by omega) (by omega) (fun _ _ => ?_) | refine vS (by omega) (by omega) ?_ | refine xN (Nat.le_of_ble_eq_true (by rfl)) ?_ | refine yS (by rfl) (by rfl) (by rfl) (by omega) ?_)))) | refine uZ (by rfl) (by rfl) (by rfl) (by rfl) (Nat.le_of_ble_eq_true (by rfl)) ?_ | (refine qO (by rfl) (by rfl) ?_; try (first | refine yS (by rfl) (by rfl) (by rfl) (Nat.le_of_ble_eq_true (by rfl)) ?_ | refine yS (by rfl) (by rfl) (by rfl) (by omega) ?_)) | refine pQ (by rfl) (by rfl) ?_ | refine x_box (by rfl) (by rfl) ?_ | refine pE ?_ | refine x_frzSl (by rfl) ?_ | refine bJ ?_ | refine gA ?_ | refine pC ?_ | refine pD (by rfl) (by rfl) (by rfl) (by rfl) ?_ | refine sT (by rfl) (by rfl) (by rfl) ?_)) | (refine o_nil ?_; try (first | refine s_n ?_ | refine s_r ?_ | refine s_e ?_ | refine k_n ?_ | refine k_r ?_ | refine k_e (by rfl) ?_ | refine k_o (by rfl) ?_ | refine l_r ?_ | refine l_e ?_ | refine b_r ?_ | refine b_n ?_)) | refine o_guard (by rfl) ?_ | refine bO (by rfl) ?_ | refine o_none ?_ | refine bP (by rfl) ?_) | (refine g_f ?_; first | refine f_seq ?_ | refine f_reg ?_ | (refine f_cond (by rfl) ?_; try (first | refine c_t (by rfl) ?_ | refine c_f (by rfl) ?_)) | refine f_block ?_ | refine f_skip ?_ | refine f_ret ?_ | refine f_exit ?_ | refine f_regD0 ?_ | refine f_regD ?_) | (refine g_s ?_; first | refine s_n ?_ | refine s_r ?_ | refine s_e ?_) | (refine g_d ?_; first | refine d_late (T := none) (by rfl) (by rfl) (by rfl) (by rfl) ?_ | (refine pX (T := none) (by rfl) (by rfl) ?_; try (first | (refine xd_q (by rfl) ?_; try (first | refine q_mv (by rfl) ?_ | refine wO (by rfl) ?_ | (refine uO ?_; try (first | refine uD (by rfl) (by assumption) ?_ | refine vA (by rfl) (by assumption) ?_ | refine vB (by rfl) ?_ | refine xY (by rfl) ?_ | refine xX (by rfl) ?_)) | (refine uQ ?_; try (first | refine uE (by rfl) (by rfl) (by assumption) (by omega) (by omega) ?_ | refine wS (by rfl) (by rfl) (by assumption) (by omega) (by omega) ?_ | refine wW (by rfl) (by rfl) (by decide) (by decide) ?_ | refine yG (by rfl) (by rfl) (by decide) (by decide) ?_ | refine wM (by rfl) (by rfl) (by decide) (by decide) ?_ | refine yG (by rfl) (by rfl) (by omega) (by omega) ?_)) | refine q_cm (by rfl) (by rfl) ?_ | refine q_ar (by rfl) (by rfl) (by rfl) ?_ | refine vJ (by rfl) ?_ | (refine uU ?_; try (first | refine wG (by rfl) ?_ | refine wH (by rfl) ?_ | refine vC (by rfl) ?_)) | refine uT (by rfl) (by rfl) ?_ | refine wN (by rfl) ?_ | refine wP (by rfl) ?_ | refine uK (by rfl) (by rfl) (by first | decide | omega) ?_ | refine uJ (by rfl) (by rfl) (by first | decide | omega) ?_ | refine uV (by rfl) (by rfl) ?_ | refine uW (by rfl) (by rfl) (by rfl) ?_ | refine uM (by rfl) ?_ | refine uL (by rfl) ?_ | refine xZ (by rfl) (by rfl) ?_ | refine wA (by rfl) (by rfl) ?_ | refine uI ?_ | refine uP ?_ | refine uS (by rfl) (by rfl) ?_ | refine vI (by rfl) (by rfl) ?_ | refine wC (by rfl) ?_ | refine q_mx (by rfl) (by rfl) ?_ | refine q_mn (by rfl) (by rfl) ?_ | refine uN (by rfl) (by rfl) (by rfl) ?_ | refine uR (by rfl) ?_ | refine vK (by rfl) ?_ | refine vL (by rfl) ?_ | refine wB (by rfl) ?_ | refine wQ (by rfl) (by rfl) ?_ | refine wR (by rfl) (by rfl) ?_)) | (refine tV ?_; try (first | (refine uX (by rfl) ?_; try (first | refine yN (by rfl) (by rfl) ?_ | refine yI (by rfl) (by rfl) ?_ | refine yN (yJ _ _) (by rfl) ?_ | refine yI (yJ _ _) (by rfl) ?_ | refine yN (xQ _ _ _ _) (by rfl) ?_ | refine yI (xQ _ _ _ _) (by rfl) ?_ | refine yN (xP _ _ _) (by rfl) ?_ | refine yI (xP _ _ _) (by rfl) ?_)) | (refine uY (by rfl) ?_; try (first | refine tC (by assumption) (by omega) (by omega) (fun _ _ => ?_) | refine vS (by omega) (by omega) ?_ | refine xN (Nat.le_of_ble_eq_true (by rfl)) ?_ | refine yS (by rfl) (by rfl) (by rfl) (by omega) ?_)))) | refine wX (by rfl) (by rfl) (by rfl) (by rfl) (Nat.le_of_ble_eq_true (by rfl)) ?_ | (refine vZ (by rfl) (by rfl) ?_; try (first | refine yS (by rfl) (by rfl) (by rfl) (Nat.le_of_ble_eq_true (by rfl)) ?_ | refine yS (by rfl) (by rfl) (by rfl) (by omega) ?_)) | refine tW (by rfl) (by rfl) ?_ | refine sY (by rfl) (by rfl) (by rfl) ?_ | refine bI ?_ | refine uA (by rfl) ?_ | refine pP (by rfl) ?_)) | (refine pX (by rfl) (by rfl) ?_; try (first | (refine xd_q (by rfl) ?_; try (first | refine q_mv (by rfl) ?_ | refine wO (by rfl) ?_ | (refine uO ?_; try (first | refine uD (by rfl) (by assumption) ?_ | refine vA (by rfl) (by assumption) ?_ | refine vB (by rfl) ?_ | refine xY (by rfl) ?_ | refine xX (by rfl) ?_)) | (refine uQ ?_; try (first | refine uE (by rfl) (by rfl) (by assumption) (by omega) (by omega) ?_ | refine wS (by rfl) (by rfl) (by assumption) (by omega) (by omega) ?_ | refine wW (by rfl) (by rfl) (by decide) (by decide) ?_ | refine yG (by rfl) (by rfl) (by decide) (by decide) ?_ | refine wM (by rfl) (by rfl) (by decide) (by decide) ?_ | refine yG (by rfl) (by rfl) (by omega) (by omega) ?_)) | refine q_cm (by rfl) (by rfl) ?_ | refine q_ar (by rfl) (by rfl) (by rfl) ?_ | refine vJ (by rfl) ?_ | (refine uU ?_; try (first | refine wG (by rfl) ?_ | refine wH (by rfl) ?_ | refine vC (by rfl) ?_)) | refine uT (by rfl) (by rfl) ?_ | refine wN (by rfl) ?_ | refine wP (by rfl) ?_ | refine uK (by rfl) (by rfl) (by first | decide | omega) ?_ | refine uJ (by rfl) (by rfl) (by first | decide | omega) ?_ | refine uV (by rfl) (by rfl) ?_ | refine uW (by rfl) (by rfl) (by rfl) ?_ | refine uM (by rfl) ?_ | refine uL (by rfl) ?_ | refine xZ (by rfl) (by rfl) ?_ | refine wA (by rfl) (by rfl) ?_ | refine uI ?_ | refine uP ?_ | refine uS (by rfl) (by rfl) ?_ | refine vI (by rfl) (by rfl) ?_ | refine wC (by rfl) ?_ | refine q_mx (by rfl) (by rfl) ?_ | refine q_mn (by rfl) (by rfl) ?_ | refine uN (by rfl) (by rfl) (by rfl) ?_ | refine uR (by rfl) ?_ | refine vK (by rfl) ?_ | refine vL (by rfl) ?_ | refine wB (by rfl) ?_ | refine wQ (by rfl) (by rfl) ?_ | refine wR (by rfl) (by rfl) ?_)) | (refine tV ?_; try (first | (refine uX (by rfl) ?_; try (first | refine yN (by rfl) (by rfl) ?_ | refine yI (by rfl) (by rfl) ?_ | refine yN (yJ _ _) (by rfl) ?_ | refine yI (yJ _ _) (by rfl) ?_ | refine yN (xQ _ _ _ _) (by rfl) ?_ | refine yI (xQ _ _ _ _) (by rfl) ?_ | refine yN (xP _ _ _) (by rfl) ?_ | refine yI (xP _ _ _) (by rfl) ?_)) | (refine uY (by rfl) ?_; try (first | refine tC (by assumption) (by omega) (by omega) (fun _ _ => ?_) | refine vS (by omega) (by omega) ?_ | refine xN (Nat.le_of_ble_eq_true (by rfl)) ?_ | refine yS (by rfl) (by rfl) (by rfl) (by omega) ?_)))) | refine wX (by rfl) (by rfl) (by rfl) (by rfl) (Nat.le_of_ble_eq_true (by rfl)) ?_ | (refine vZ (by rfl) (by rfl) ?_; try (first | refine yS (by rfl) (by rfl) (by rfl) (Nat.le_of_ble_eq_true (by rfl)) ?_ | refine yS (by rfl) (by rfl) (by rfl) (by omega) ?_)) | refine tW (by rfl) (by rfl) ?_ | refine sY (by rfl) (by rfl) (by rfl) ?_ | refine bI ?_ | refine uA (by rfl) ?_ | refine pP (by rfl) ?_)) | (refine d_nil ?_; try (first | refine s_n ?_ | refine s_r ?_ | refine s_e ?_ | refine k_n ?_ | refine k_r ?_ | refine k_e (by rfl) ?_ | refine k_o (by rfl) ?_ | refine l_r ?_ | refine l_e ?_ | refine b_r ?_ | refine b_n ?_)) | refine d_none (by rfl) (by rfl) ?_ | refine d_guard (by rfl) (by rfl) (by rfl) ?_) | (refine g_x ?_; first | (refine x_q (by rfl) ?_; try (first | refine q_mv (by rfl) ?_ | refine wO (by rfl) ?_ | (refine uO ?_; try (first | refine uD (by rfl) (by assumption) ?_ | refine vA (by rfl) (by assumption) ?_ | refine vB (by rfl) ?_ | refine xY (by rfl) ?_ | refine xX (by rfl) ?_)) | (refine uQ ?_; try (first | refine uE (by rfl) (by rfl) (by assumption) (by omega) (by omega) ?_ | refine wS (by rfl) (by rfl) (by assumption) (by omega) (by omega) ?_ | refine wW (by rfl) (by rfl) (by decide) (by decide) ?_ | refine yG (by rfl) (by rfl) (by decide) (by decide) ?_ | refine wM (by rfl) (by rfl) (by decide) (by decide) ?_ | refine yG (by rfl) (by rfl) (by omega) (by omega) ?_)) | refine q_cm (by rfl) (by rfl) ?_ | refine q_ar (by rfl) (by rfl) (by rfl) ?_ | refine vJ (by rfl) ?_ | (refine uU ?_; try (first | refine wG (by rfl) ?_ | refine wH (by rfl) ?_ | refine vC (by rfl) ?_)) | refine uT (by rfl) (by rfl) ?_ | refine wN (by rfl) ?_ | refine wP (by rfl) ?_ | refine uK (by rfl) (by rfl) (by first | decide | omega) ?_ | refine uJ (by rfl) (by rfl) (by first | decide | omega) ?_ | refine uV (by rfl) (by rfl) ?_ | refine uW (by rfl) (by rfl) (by rfl) ?_ | refine uM (by rfl) ?_ | refine uL (by rfl) ?_ | refine xZ (by rfl) (by rfl) ?_ | refine wA (by rfl) (by rfl) ?_ | refine uI ?_ | refine uP ?_ | refine uS (by rfl) (by rfl) ?_ | refine vI (by rfl) (by rfl) ?_ | refine wC (by rfl) ?_ | refine q_mx (by rfl) (by rfl) ?_ | refine q_mn (by rfl) (by rfl) ?_ | refine uN (by rfl) (by rfl) (by rfl) ?_ | refine uR (by rfl) ?_ | refine vK (by rfl) ?_ | refine vL (by rfl) ?_ | refine wB (by rfl) ?_ | refine wQ (by rfl) (by rfl) ?_ | refine wR (by rfl) (by rfl) ?_)) | (refine gB ?_; try (first | (refine uX (by rfl) ?_; try (first | refine yN (by rfl) (by rfl) ?_ | refine yI (by rfl) (by rfl) ?_ | refine yN (yJ _ _) (by rfl) ?_ | refine yI (yJ _ _) (by rfl) ?_ | refine yN (xQ _ _ _ _) (by rfl) ?_ | refine yI (xQ _ _ _ _) (by rfl) ?_ | refine yN (xP _ _ _) (by rfl) ?_ | refine yI (xP _ _ _) (by rfl) ?_)) | (refine uY (by rfl) ?_; try (first | refine tC (by assumption) (by omega) (by omega) (fun _ _ => ?_) | refine vS (by omega) (by omega) ?_ | refine xN (Nat.le_of_ble_eq_true (by rfl)) ?_ | refine yS (by rfl) (by rfl) (by rfl) (by omega) ?_)))) | refine uZ (by rfl) (by rfl) (by rfl) (by rfl) (Nat.le_of_ble_eq_true (by rfl)) ?_ | (refine qO (by rfl) (by rfl) ?_; try (first | refine yS (by rfl) (by rfl) (by rfl) (Nat.le_of_ble_eq_true (by rfl)) ?_ | refine yS (by rfl) (by rfl) (by rfl) (by omega) ?_)) | refine pQ (by rfl) (by rfl) ?_ | refine x_box (by rfl) (by rfl) ?_ | refine pE ?_ | refine x_frzSl (by rfl) ?_ | refine bJ ?_ | refine gA ?_ | refine pC ?_ | refine pD (by rfl) (by rfl) (by rfl) (by rfl) ?_ | refine sT (by rfl) (by rfl) (by rfl) ?_) | (refine g_q ?_; first | refine q_mv (by rfl) ?_ | refine wO (by rfl) ?_ | (refine uO ?_; try (first | refine uD (by rfl) (by assumption) ?_ | refine vA (by rfl) (by assumption) ?_ | refine vB (by rfl) ?_ | refine xY (by rfl) ?_ | refine xX (by rfl) ?_)) | (refine uQ ?_; try (first | refine uE (by rfl) (by rfl) (by assumption) (by omega) (by omega) ?_ | refine wS (by rfl) (by rfl) (by assumption) (by omega) (by omega) ?_ | refine wW (by rfl) (by rfl) (by decide) (by decide) ?_ | refine yG (by rfl) (by rfl) (by decide) (by decide) ?_ | refine wM (by rfl) (by rfl) (by decide) (by decide) ?_ | refine yG (by rfl) (by rfl) (by omega) (by omega) ?_)) | refine q_cm (by rfl) (by rfl) ?_ | refine q_ar (by rfl) (by rfl) (by rfl) ?_ | refine vJ (by rfl) ?_ | (refine uU ?_; try (first | refine wG (by rfl) ?_ | refine wH (by rfl) ?_ | refine vC (by rfl) ?_)) | refine uT (by rfl) (by rfl) ?_ | refine wN (by rfl) ?_ | refine wP (by rfl) ?_ | refine uK (by rfl) (by rfl) (by first | decide | omega) ?_ | refine uJ (by rfl) (by rfl) (by first | decide | omega) ?_ | refine uV (by rfl) (by rfl) ?_ | refine uW (by rfl) (by rfl) (by rfl) ?_ | refine uM (by rfl) ?_ | refine uL (by rfl) ?_ | refine xZ (by rfl) (by rfl) ?_ | refine wA (by rfl) (by rfl) ?_ | refine uI ?_ | refine uP ?_ | refine uS (by rfl) (by rfl) ?_ | refine vI (by rfl) (by rfl) ?_ | refine wC (by rfl) ?_ | refine q_mx (by rfl) (by rfl) ?_ | refine q_mn (by rfl) (by rfl) ?_ | refine uN (by rfl) (by rfl) (by rfl) ?_ | refine uR (by rfl) ?_ | refine vK (by rfl) ?_ | refine vL (by rfl) ?_ | refine wB (by rfl) ?_ | refine wQ (by rfl) (by rfl) ?_ | refine wR (by rfl) (by rfl) ?_) | (refine g_c ?_; first | refine c_t (by rfl) ?_ | refine c_f (by rfl) ?_) | (refine g_k ?_; first | refine k_n ?_ | refine k_r ?_ | refine k_e (by rfl) ?_ | refine k_o (by rfl) ?_) | (refine g_lo ?_; first | refine l_r ?_ | refine l_e ?_) | (refine g_xd ?_; first | (refine xd_q (by rfl) ?_; try (first | refine q_mv (by rfl) ?_ | refine wO (by rfl) ?_ | (refine uO ?_; try (first | refine uD (by rfl) (by assumption) ?_ | refine vA (by rfl) (by assumption) ?_ | refine vB (by rfl) ?_ | refine xY (by rfl) ?_ | refine xX (by rfl) ?_)) | (refine uQ ?_; try (first | refine uE (by rfl) (by rfl) (by assumption) (by omega) (by omega) ?_ | refine wS (by rfl) (by rfl) (by assumption) (by omega) (by omega) ?_ | refine wW (by rfl) (by rfl) (by decide) (by decide) ?_ | refine yG (by rfl) (by rfl) (by decide) (by decide) ?_ | refine wM (by rfl) (by rfl) (by decide) (by decide) ?_ | refine yG (by rfl) (by rfl) (by omega) (by omega) ?_)) | refine q_cm (by rfl) (by rfl) ?_ | refine q_ar (by rfl) (by rfl) (by rfl) ?_ | refine vJ (by rfl) ?_ | (refine uU ?_; try (first | refine wG (by rfl) ?_ | refine wH (by rfl) ?_ | refine vC (by rfl) ?_)) | refine uT (by rfl) (by rfl) ?_ | refine wN (by rfl) ?_ | refine wP (by rfl) ?_ | refine uK (by rfl) (by rfl) (by first | decide | omega) ?_ | refine uJ (by rfl) (by rfl) (by first | decide | omega) ?_ | refine uV (by rfl) (by rfl) ?_ | refine uW (by rfl) (by rfl) (by rfl) ?_ | refine uM (by rfl) ?_ | refine uL (by rfl) ?_ | refine xZ (by rfl) (by rfl) ?_ | refine wA (by rfl) (by rfl) ?_ | refine uI ?_ | refine uP ?_ | refine uS (by rfl) (by rfl) ?_ | refine vI (by rfl) (by rfl) ?_ | refine wC (by rfl) ?_ | refine q_mx (by rfl) (by rfl) ?_ | refine q_mn (by rfl) (by rfl) ?_ | refine uN (by rfl) (by rfl) (by rfl) ?_ | refine uR (by rfl) ?_ | refine vK (by rfl) ?_ | refine vL (by rfl) ?_ | refine wB (by rfl) ?_ | refine wQ (by rfl) (by rfl) ?_ | refine wR (by rfl) (by rfl) ?_)) | (refine tV ?_; try (first | (refine uX (by rfl) ?_; try (first | refine yN (by rfl) (by rfl) ?_ | refine yI (by rfl) (by rfl) ?_ | refine yN (yJ _ _) (by rfl) ?_ | refine yI (yJ _ _) (by rfl) ?_ | refine yN (xQ _ _ _ _) (by rfl) ?_ | refine yI (xQ _ _ _ _) (by rfl) ?_ | refine yN (xP _ _ _) (by rfl) ?_ | refine yI (xP _ _ _) (by rfl) ?_)) | (refine uY (by rfl) ?_; try (first | refine tC (by assumption) (by omega) (by omega) (fun _ _ => ?_) | refine vS (by omega) (by omega) ?_ | refine xN (Nat.le_of_ble_eq_true (by rfl)) ?_ | refine yS (by rfl) (by rfl) (by rfl) (by omega) ?_)))) | refine wX (by rfl) (by rfl) (by rfl) (by rfl) (Nat.le_of_ble_eq_true (by rfl)) ?_ | (refine vZ (by rfl) (by rfl) ?_; try (first | refine yS (by rfl) (by rfl) (by rfl) (Nat.le_of_ble_eq_true (by rfl)) ?_ | refine yS (by rfl) (by rfl) (by rfl) (by omega) ?_)) | refine tW (by rfl) (by rfl) ?_ | refine sY (by rfl) (by rfl) (by rfl) ?_ | refine bI ?_ | refine uA (by rfl) ?_ | refine pP (by rfl) ?_) | (refine g_l ?_; first | (refine uX (by rfl) ?_; try (first | refine yN (by rfl) (by rfl) ?_ | refine yI (by rfl) (by rfl) ?_ | refine yN (yJ _ _) (by rfl) ?_ | refine yI (yJ _ _) (by rfl) ?_ | refine yN (xQ _ _ _ _) (by rfl) ?_ | refine yI (xQ _ _ _ _) (by rfl) ?_ | refine yN (xP _ _ _) (by rfl) ?_ | refine yI (xP _ _ _) (by rfl) ?_)) | (refine uY (by rfl) ?_; try (first | refine tC (by assumption) (by omega) (by omega) (fun _ _ => ?_) | refine vS (by omega) (by omega) ?_ | refine xN (Nat.le_of_ble_eq_true (by rfl)) ?_ | refine yS (by rfl) (by rfl) (by rfl) (by omega) ?_))) | (refine g_len ?_; first | refine uD (by rfl) (by assumption) ?_ | refine vA (by rfl) (by assumption) ?_ | refine vB (by rfl) ?_ | refine xY (by rfl) ?_ | refine xX (by rfl) ?_) | (refine g_nil ?_; first | refine wG (by rfl) ?_ | refine wH (by rfl) ?_ | refine vC (by rfl) ?_) | (refine g_iad ?_; first | refine uE (by rfl) (by rfl) (by assumption) (by omega) (by omega) ?_ | refine wS (by rfl) (by rfl) (by assumption) (by omega) (by omega) ?_ | refine wW (by rfl) (by rfl) (by decide) (by decide) ?_ | refine yG (by rfl) (by rfl) (by decide) (by decide) ?_ | refine wM (by rfl) (by rfl) (by decide) (by decide) ?_ | refine yG (by rfl) (by rfl) (by omega) (by omega) ?_) | (refine g_box ?_; first | refine yN (by rfl) (by rfl) ?_ | refine yI (by rfl) (by rfl) ?_ | refine yN (yJ _ _) (by rfl) ?_ | refine yI (yJ _ _) (by rfl) ?_ | refine yN (xQ _ _ _ _) (by rfl) ?_ | refine yI (xQ _ _ _ _) (by rfl) ?_ | refine yN (xP _ _ _) (by rfl) ?_ | refine yI (xP _ _ _) (by rfl) ?_) | (refine g_cells ?_; first | refine tC (by assumption) (by omega) (by omega) (fun _ _ => ?_) | refine vS (by omega) (by omega) ?_ | refine xN (Nat.le_of_ble_eq_true (by rfl)) ?_) | (refine g_st ?_; first | refine yS (by rfl) (by rfl) (by rfl) (Nat.le_of_ble_eq_true (by rfl)) ?_) | (refine g_b ?_; first | refine b_r ?_ | refine b_n ?_) | (refine g_r ?_; first | refine r_tmp (by rfl) ?_ | refine r_cell ?_ | refine r_nil ?_))
 exact hgo.out) : A := h ⟨k⟩
def elL (k : Nat) : El (List Rat) := ⟨fun cs l => ∃ c, cs = [c] ∧ Ls (elQ k) c l, 1, fun h => by obtain ⟨c, rfl, _⟩ := h; rfl, fun h => by obtain ⟨c, rfl, h⟩ := h; exact ⟨h.hf, trivial⟩⟩
noncomputable def bR (m : Int) (f : List Pl) (h a : Rat) (i : Nat) (last prev : List Rat) : Option (List Rat) :=
 bif dec (m = 6 ∧ 0 < i) then some (xG (xG last (h * (((3 : Int) : Rat) / ((2 : Int) : Rat))) (xF f last a)) (h * (((-1 : Int) : Rat) / ((2 : Int) : Rat))) (xF f prev (a - h))) else tE m f h a last
noncomputable def sR (m : Int) (f : List Pl) (h t : Rat) (g : Int) (i : Nat) (out : List (List Rat)) : Except Int (List (List Rat)) :=
 match bR m f h (t + h * ((i : Int) : Rat)) i (out.getD i []) (out.getD (i - 1) []) with
 | none => .error 4
 | some y => bif dec (gE (y.map (rdV g))) then .ok (out ++ [y.map (rdV g)]) else .error 3
noncomputable def runV (m : Int) (f : List Pl) (h t : Rat) (g : Int) (x : List Rat) : Nat → Except Int (List (List Rat))
 | 0 => .ok [x]
 | i + 1 => match runV m f h t g x i with
  | .error e => .error e
  | .ok out => sR m f h t g i out
theorem run_err {m : Int} {f : List Pl} {h t : Rat} {g : Int} {x : List Rat} {i n : Nat} {e : Int} (h1 : runV m f h t g x i = .error e) (hn : i ≤ n) : runV m f h t g x n = .error e := by
 induction n with
 | zero =>
  have : i = 0 := by omega
  subst this
  exact h1
 | succ n ih =>
  rcases Nat.lt_or_ge i (n + 1) with h | h
  ·simp only [runV, ih (by omega)]
  ·have : i = n + 1 := by omega
   subst this
   exact h1
def RunK (r : Except Int (List (List Rat))) (u : V) : Prop := (∃ e, r = .error e ∧ e ≠ 0 ∧ u = .tup [.c .nilSl, i64 e]) ∨ (∃ out c, r = .ok out ∧ u = .tup [.c c, i64 0] ∧ Ls (elL 2) c out)
def Told (f : List Pl) (l : List Rat) : Prop := l.length = f.length ∧ gE l
theorem told_cpl {f : List Pl} {l : List Rat} (hf : f.length ≤ 3) (h : Told f l) : CpL 120 l := by
 have h1 : pB (l.map rp) := fun p hp => by
  obtain ⟨q, hq, rfl⟩ := List.mem_map.1 hp
  exact fit_ratS (h.2 q hq)
 have h2 := CpL.rats h1
 have h3 : (l.map rp).map rt = l := by
  rw [List.map_map]
  conv => rhs; rw [← List.map_id l]
  exact List.map_congr_left fun q _ => rt_rp q
 rw [h3, List.length_map] at h2
 exact h2.mono (by have := h.1; omega)
theorem cp_neg {a : Nat} {p : Rat} (h : CpL a [p]) : CpL a [-p] := by
 obtain ⟨D, g1, g2, g3⟩ := h
 refine ⟨D, g1, g2, fun r hr => ?_⟩
 simp at hr
 subst hr
 exact (g3 p (by simp)).neg
theorem cp_sub {a b : Nat} {p q : Rat} (h1 : CpL a [p]) (h2 : CpL b [q]) : CpL (a + b + 1) [p - q] := by
 rw [Rat.sub_eq_add_neg]
 exact bC h1 (cp_neg h2)
theorem c32 : CpL 2 [((3 : Int) : Rat) / ((2 : Int) : Rat)] := cp_frac (a := 3) (b := 2) (n := 2) (by decide) (by decide) (by decide) false
theorem c12 : CpL 2 [((-1 : Int) : Rat) / ((2 : Int) : Rat)] := cp_frac (a := 1) (b := 2) (n := 2) (by decide) (by decide) (by decide) true
theorem ld_L {k : Nat} {c : C} {l : List (List Rat)} {n i : Nat} {K : V → Prop} (hc : Ls (elL k) c l) (hi : i < l.length) (hn : n = i) (h : ∀ d, Ls (elQ k) d l[i] → K (.c d)) : yL (c.ds.drop (n * 1)) false 1 K := by
 subst hn
 obtain ⟨cs, r, ⟨d, rfl, h1⟩, h2⟩ := hc.els.get hi
 have h2 : c.ds.drop (n * 1) = [d] ++ r := h2
 rw [h2]
 exact h d h1
theorem Out.isSl {α : Type} {E : El α} {el : TypeId} {m : Nat} {H : Hp} {c : C} {l : List α} (h : Out E el m H c l) (h0 : 0 < l.length) : ∃ b co, c = .sl b 0 l.length co E.s := by
 cases h with
 | nil => simp at h0
 | @sl b n co cells ds _ hm hb hn hc hE =>
  subst hn
  exact ⟨b, co, rfl⟩
theorem Out.extS {α : Type} {E : El α} {el : TypeId} {m : Nat} {H S : Hp} {c : C} {l : List α} (h : Out E el m H c l) : Out E el m (H ++ S) c l := by
 cases h with
 | nil => exact .nil
 | sl hm hb hn hc h => exact .sl hm (by rw [List.getElem?_append_left (lt_of_getElem? hb)]; exact hb) hn hc h
theorem ld_outL {k : Nat} {el : TypeId} {m n i b off : Nat} {co : Option Nat} {H : Hp} {l : List (List Rat)} {K : V → Prop} (ho : Out (elL k) el m H (.sl b off n co 1) l) (hi : i < l.length) {o : Nat} (hof : o = off + i * 1) (h : ∀ d, Ls (elQ k) d l[i] → K (.c d)) : yW H[b]? false 1 o K := by
 subst hof
 cases ho with
 | @sl _ _ _ cells ds _ hm hb hn hc hE =>
  obtain ⟨cs, r, ⟨d, rfl, h1⟩, h2⟩ := hE.get hi
  refine yN (c := d) hb ?_ (h d h1)
  simp only
  have e : ds[i * 1]? = some d := by
   have := congrArg (·[0]?) h2
   simpa [List.getElem?_drop, elL] using this
  rw [← hc, List.getElem?_take] at e
  split at e
  ·simpa using e
  ·cases e
theorem x_callG {P : Program} {e : Env} {H : Hp} {K : V → Hp → Prop} {f : AO} {args : List AO} {g : FuncId} {us : List V} {cs : List C} (h : f.ev e = some (.c (.fn g cs))) (h2 : evs e args = some us) (k : semH P g (us ++ cs.map .c) H K) : xopF P e H (.call f args) K := by
 cases cs with
 | nil =>
  rw [List.map_nil, List.append_nil] at k
  exact pQ h h2 k
 | cons c cs => exact x_callc h h2 k
theorem mStep_len {m : Int} {f : List Pl} {h t : Rat} {x y : List Rat} (hl : f.length = x.length) (hy : tE m f h t x = some y) : y.length = x.length := by
 have r : ∀ z s, (xF f z s).length = x.length := fun z s => by rw [vU, hl]
 have sol : ∀ {n : Nat} {M : Mx} {z : List Rat}, gD n M = some z → z.length = n := by
  intro n M z hz
  unfold gD at hz
  cases hg : tT n M n with
  | none => rw [hg] at hz; cases hz
  | some R =>
   rw [hg] at hz
   simp at hz
   subst hz
   simp
 unfold tE at hy
 cases h0 : dec (m = 0) <;> rw [h0] at hy
 case true =>
  cases hy
  exact wT (r _ _)
 cases h1 : dec (m = 1 ∨ m = 6) <;> rw [h1] at hy
 case true =>
  cases hy
  refine wT ?_
  rw [wT] <;> simp [r]
 cases h2 : dec (m = 2) <;> rw [h2] at hy
 case true =>
  cases hy
  exact wT (r _ _)
 cases h3 : dec (m = 3) <;> rw [h3] at hy
 case true =>
  cases hy
  refine wT ?_
  have k1 : (k1V f h t x).length = x.length := r _ _
  have k2 : (k2V f h t x).length = x.length := r _ _
  have k3 : (k3V f h t x).length = x.length := r _ _
  have k4 : (k4V f h t x).length = x.length := r _ _
  have q1 : (xG (k1V f h t x) ((2 : Int) : Rat) (k2V f h t x)).length = x.length := by rw [wT (by rw [k1, k2]), k1]
  have q2 : (xG (xG (k1V f h t x) ((2 : Int) : Rat) (k2V f h t x)) ((2 : Int) : Rat) (k3V f h t x)).length = x.length := by rw [wT (by rw [q1, k3]), q1]
  rw [sumV, wT (by rw [q2, k4]), q2]
 cases h4 : dec (m = 4) <;> rw [h4] at hy
 case true => exact sol hy
 have := sol hy
 rw [this]
 exact wT (r _ _)
attribute [local irreducible] yA semH semC qLen qNil qIad qSlc qIdx yW yL xD appX appI slcX awpF yP xI xopF xR qval lval seqQ xL wJ wI xW cnd arith IntKind.wrap
theorem step_run {cf cx : C} {ch ct : List C} {f : List Pl} {x : List Rat} {h t : Rat} {m g : Int} {n : Nat} (hc : Ls elM cf f) (hf : SysOk (f.length + 1) f) (hx : Ls (elQ 2) cx x) (hT : Told f x) (hh : IQ 8 ch h) (bh : CpL 42 [h]) (ht : IQ 8 ct t) (bt : CpL 40 [t]) (m0 : 0 ≤ m) (m6 : m ≤ 6) (hg : g < 4294967296) (hn : n ≤ 60) (hi : ImpOk m) (ha : m = 4 ∨ m = 5 → AffS f) :
  semC Tryz.prog n_step_run [i64 m, .agg (cf :: ch), .agg ct, .c cx, i64 g, i64 n] (RunK (runV m f h t g x n)) := by
 refine yD ok_step_run rfl (show HFVs [i64 m, .agg (cf :: ch), .agg ct, .c cx, i64 g, i64 n] from ⟨trivial, ⟨hc.hf, hh.hf⟩, ht.hf, hx.hf, trivial, trivial, trivial⟩) ?_
 have hf3 := hf.len
 obtain ⟨a0, a1, a2, a3, a4, a5, rfl⟩ := id hh.six
 obtain ⟨b0, b1, b2, b3, b4, b5, rfl⟩ := id ht.six
 refine go5 ?_
 first | refine yE (step_method m0 m6 hi) (fun u hu => ?_) | refine yB (step_method m0 m6 hi) (fun u hu => ?_)
 obtain ⟨gf, caps, rfl, hcap, hdo⟩ := hu
 refine go5 ?_
 simp only [tN, tM, ratC, tY, tX, List.set_cons_zero, List.set_cons_succ, List.nil_append, List.cons_append, List.append_nil, List.replicate_succ, List.replicate_zero, List.length_cons, List.length_nil, splice, List.take_succ_cons, List.take_zero, List.drop_succ_cons, List.drop_zero, List.take_nil, List.drop_nil, Nat.zero_add, Nat.reduceAdd, Nat.reduceMul, Int.reduceToNat, wF, List.getElem?_cons_succ, List.getElem?_cons_zero]
 obtain ⟨F, hF⟩ : ∃ F : Hp, F = [.live ⟨[cf, a0, a1, a2, a3, a4, a5], vO, .rw⟩, .live ⟨[b0, b1, b2, b3, b4, b5], yZ, .rw⟩] := ⟨_, rfl⟩
 refine yT (fun w vs H => ∃ (i : Nat) (o : C) (R : Hp) (out : List (List Rat)), vs = [i64 m, i64 g, .c (.ptr 0 0), .c (.ptr 1 0), .c o, .c (.fn gf caps), i64 n, i64 i] ∧ H = [.live ⟨[cf, a0, a1, a2, a3, a4, a5], vO, .rw⟩, .live ⟨[b0, b1, b2, b3, b4, b5], yZ, .rw⟩] ++ R ∧ w = n - i ∧ i ≤ n ∧ runV m f h t g x i = .ok out ∧ out.length = i + 1 ∧ (∀ l ∈ out, Told f l) ∧ Out (elL 2) qM 2 H o out) (by rfl) ⟨0, _, [.live ⟨[cx], qM, .rw⟩], [x], rfl, rfl, rfl, by omega, rfl, rfl, by simpa using hT, .sl (cells := [cx]) (ds := [cx]) (by decide) rfl rfl rfl (.one ⟨cx, rfl, hx⟩)⟩ ?_
 rintro w vs H ⟨i, o, R, out, rfl, rfl, rfl, i1, i2, i3, i4, i5⟩
 obtain ⟨b, co, rfl⟩ := i5.isSl (by omega)
 refine go13 ?_
 cases hi : yA Cm.lss (i : Int) (n : Int)
 case false =>
  simp [yA] at hi
  have ei : i = n := by omega
  subst ei
  refine go13 ?_
  obtain ⟨d, f1, l1⟩ := i5.fz (p := (· ≠ .bor)) (by simp)
  exact ⟨_, .tup (.cons (.c f1) (.cons (.c (.hf trivial)) .nil)), .inr ⟨out, d, i2, rfl, l1⟩⟩
 simp [yA] at hi
 have hlast := i4 _ (List.getElem_mem (show i < out.length by omega))
 have hgl : out.getD i [] = out[i]'(by omega) := by simp [List.getD, i3]
 refine go13 ?_
 first | refine yE (vG (g := (i : Int)) (by omega)) (fun u hu => ?_) | refine yB (vG (g := (i : Int)) (by omega)) (fun u hu => ?_)
 obtain ⟨r1, rfl, g1⟩ := hu
 refine go13 ?_
 first | refine yE (uC hh g1 (by decide)) (fun u hu => ?_) | refine yB (uC hh g1 (by decide)) (fun u hu => ?_)
 obtain ⟨r2, rfl, g2⟩ := hu
 refine go13 ?_
 first | refine yE (tL ht g2 (by decide)) (fun u hu => ?_) | refine yB (tL ht g2 (by decide)) (fun u hu => ?_)
 obtain ⟨r3, rfl, g3⟩ := hu
 have bi : CpL 6 [((i : Int) : Rat)] := pV (by omega)
 have ba : CpL 90 [t + h * ((i : Int) : Rat)] := (bC bt (pJ bh bi)).mono (by decide)
 obtain ⟨c0, c1, c2, c3, c4, c5, rfl⟩ := id g3.six
 refine go13 ?_
 refine ld_outL i5.extS (i := i) (by omega) (by omega) (fun cl hcl => ?_)
 have bl := told_cpl hf3 hlast
 have g3 := g3.up (show _ ≤ 4194304 by decide)
 have hin : qW cf cl [a0, a1, a2, a3, a4, a5] [c0, c1, c2, c3, c4, c5] f (out[i]'(by omega)) h (t + h * ((i : Int) : Rat)) := ⟨hc, sI hf (by rw [hlast.1]), hlast.1.symm, hh.up (by decide), hcl.up (by decide), g3, bl, ba, bh.mono (by decide)⟩
 refine go13 ?_
 cases c6 : yA Cm.eql m 6
 case false =>
  simp [yA] at c6
  have hnx : bR m f h (t + h * ((i : Int) : Rat)) i (out.getD i []) (out.getD (i - 1) []) = tE m f h (t + h * ((i : Int) : Rat)) (out[i]'(by omega)) := by
   unfold bR
   rw [yM.2 (by omega), hgl]
   rfl
  refine go13 ?_
  refine x_callG (by rfl) (by rfl) (yB (hdo hin ha) (fun u hu => ?_))
  rcases hu with ⟨y, cy, hy, rfl, ly⟩ | ⟨hy, rfl⟩
  case inr =>
   have he : runV m f h t g x (i + 1) = .error 4 := by
    simp only [runV, i2, sR, hnx, hy]
   refine go13 ?_
   exact ⟨_, .tup (.cons (.c (.hf trivial)) (.cons (.c (.hf trivial)) .nil)), .inl ⟨4, run_err he (by omega), by decide, rfl⟩⟩
  have hny : y.length = f.length := by rw [mStep_len hin.hl hy, hlast.1]
  rw [hy] at hnx
  refine go13 ?_
  first | refine yE (qP ly (by omega) hg) (fun u hu => ?_) | refine yB (qP ly (by omega) hg) (fun u hu => ?_)
  rcases hu with ⟨hfit, cz, rfl, lz⟩ | ⟨hfit, rfl⟩
  case inr =>
   have he : runV m f h t g x (i + 1) = .error 3 := by
    simp only [runV, i2, sR, hnx]
    rw [yM.2 hfit]
    rfl
   refine go13 ?_
   exact ⟨_, .tup (.cons (.c (.hf trivial)) (.cons (.c (.hf trivial)) .nil)), .inl ⟨3, run_err he (by omega), by decide, rfl⟩⟩
  have hr : runV m f h t g x (i + 1) = .ok (out ++ [y.map (rdV g)]) := by
   simp only [runV, i2, sR, hnx]
   rw [yH.2 hfit]
   rfl
  refine go13 ?_
  refine app_imm (bytes := 24) (E := elL 2) (F := [.live ⟨[cf, a0, a1, a2, a3, a4, a5], vO, .rw⟩, .live ⟨[b0, b1, b2, b3, b4, b5], yZ, .rw⟩]) (a := y.map (rdV g)) (List.append_assoc _ _ _) (by rw [← List.append_assoc]; exact i5.extS) (by rfl) (by rfl) rfl ⟨cz, rfl, lz⟩ (by omega) (fun R2 o2 q2 => ?_)
  refine go13 ?_
  rw [xV i (by omega)]
  refine l_n (by rfl) (n' := n - (i + 1)) (by omega) ⟨i + 1, _, _, _, rfl, rfl, rfl, by omega, hr, by simp; omega, fun l hl => ?_, q2⟩
  rcases List.mem_append.1 hl with hl | hl
  ·exact i4 l hl
  ·simp only [List.mem_singleton] at hl
   subst hl
   exact ⟨by rw [List.length_map, hny], hfit⟩
 simp [yA] at c6
 refine go13 ?_
 cases c7 : yA Cm.gtr (i : Int) 0
 case false =>
  simp [yA] at c7
  have hnx : bR m f h (t + h * ((i : Int) : Rat)) i (out.getD i []) (out.getD (i - 1) []) = tE m f h (t + h * ((i : Int) : Rat)) (out[i]'(by omega)) := by
   unfold bR
   rw [yM.2 (by omega), hgl]
   rfl
  refine go13 ?_
  refine x_callG (by rfl) (by rfl) (yB (hdo hin ha) (fun u hu => ?_))
  rcases hu with ⟨y, cy, hy, rfl, ly⟩ | ⟨hy, rfl⟩
  case inr =>
   have he : runV m f h t g x (i + 1) = .error 4 := by
    simp only [runV, i2, sR, hnx, hy]
   refine go13 ?_
   exact ⟨_, .tup (.cons (.c (.hf trivial)) (.cons (.c (.hf trivial)) .nil)), .inl ⟨4, run_err he (by omega), by decide, rfl⟩⟩
  have hny : y.length = f.length := by rw [mStep_len hin.hl hy, hlast.1]
  rw [hy] at hnx
  refine go13 ?_
  first | refine yE (qP ly (by omega) hg) (fun u hu => ?_) | refine yB (qP ly (by omega) hg) (fun u hu => ?_)
  rcases hu with ⟨hfit, cz, rfl, lz⟩ | ⟨hfit, rfl⟩
  case inr =>
   have he : runV m f h t g x (i + 1) = .error 3 := by
    simp only [runV, i2, sR, hnx]
    rw [yM.2 hfit]
    rfl
   refine go13 ?_
   exact ⟨_, .tup (.cons (.c (.hf trivial)) (.cons (.c (.hf trivial)) .nil)), .inl ⟨3, run_err he (by omega), by decide, rfl⟩⟩
  have hr : runV m f h t g x (i + 1) = .ok (out ++ [y.map (rdV g)]) := by
   simp only [runV, i2, sR, hnx]
   rw [yH.2 hfit]
   rfl
  refine go13 ?_
  refine app_imm (bytes := 24) (E := elL 2) (F := [.live ⟨[cf, a0, a1, a2, a3, a4, a5], vO, .rw⟩, .live ⟨[b0, b1, b2, b3, b4, b5], yZ, .rw⟩]) (a := y.map (rdV g)) (List.append_assoc _ _ _) (by rw [← List.append_assoc]; exact i5.extS) (by rfl) (by rfl) rfl ⟨cz, rfl, lz⟩ (by omega) (fun R2 o2 q2 => ?_)
  refine go13 ?_
  rw [xV i (by omega)]
  refine l_n (by rfl) (n' := n - (i + 1)) (by omega) ⟨i + 1, _, _, _, rfl, rfl, rfl, by omega, hr, by simp; omega, fun l hl => ?_, q2⟩
  rcases List.mem_append.1 hl with hl | hl
  ·exact i4 l hl
  ·simp only [List.mem_singleton] at hl
   subst hl
   exact ⟨by rw [List.length_map, hny], hfit⟩
 simp [yA] at c7
 refine go13 ?_
 rw [pR i (by omega) (by omega)]
 refine go13 ?_
 refine ld_outL i5.extS (i := i - 1) (by omega) (by omega) (fun cp hcp => ?_)
 have hprev := i4 _ (List.getElem_mem (show i - 1 < out.length by omega))
 have bp := told_cpl hf3 hprev
 have hgp : out.getD (i - 1) [] = out[i - 1]'(by omega) := by
  have : i - 1 < out.length := by omega
  simp [List.getD, this]
 have bm : CpL 140 [t + h * ((i : Int) : Rat) - h] := (cp_sub ba bh).mono (by decide)
 have hnx : bR m f h (t + h * ((i : Int) : Rat)) i (out.getD i []) (out.getD (i - 1) []) = some (xG (xG (out[i]'(by omega)) (h * (((3 : Int) : Rat) / ((2 : Int) : Rat))) (xF f (out[i]'(by omega)) (t + h * ((i : Int) : Rat)))) (h * (((-1 : Int) : Rat) / ((2 : Int) : Rat))) (xF f (out[i - 1]'(by omega)) (t + h * ((i : Int) : Rat) - h))) := by
  unfold bR
  rw [yH.2 ⟨c6, by omega⟩, hgl, hgp]
  rfl
 have r1 : CpL 9720 (xF f (out[i]'(by omega)) (t + h * ((i : Int) : Rat))) := (tO hin.hf bl ba).mono (by decide)
 have n1 : (xF f (out[i]'(by omega)) (t + h * ((i : Int) : Rat))).length = (out[i]'(by omega)).length := by rw [vU, hlast.1]
 have r2 : CpL 11000 (xF f (out[i - 1]'(by omega)) (t + h * ((i : Int) : Rat) - h)) := (tO (sI hf (show _ = (out[i - 1]'(by omega)).length + 1 by rw [hprev.1])) bp bm).mono (by decide)
 have n2 : (xF f (out[i - 1]'(by omega)) (t + h * ((i : Int) : Rat) - h)).length = (out[i]'(by omega)).length := by rw [vU, hlast.1]
 have x1 : CpL 10000 (xG (out[i]'(by omega)) (h * (((3 : Int) : Rat) / ((2 : Int) : Rat))) (xF f (out[i]'(by omega)) (t + h * ((i : Int) : Rat)))) := (sC bl (pJ bh c32) r1).mono (by decide)
 have m1 : (xG (out[i]'(by omega)) (h * (((3 : Int) : Rat) / ((2 : Int) : Rat))) (xF f (out[i]'(by omega)) (t + h * ((i : Int) : Rat)))).length = (out[i]'(by omega)).length := wT n1
 refine go13 ?_
 first | refine yE (vV hin hin.hx rfl hin.ht bl ba (by decide)) (fun u hu => ?_) | refine yB (vV hin hin.hx rfl hin.ht bl ba (by decide)) (fun u hu => ?_)
 obtain ⟨s1, rfl, l1⟩ := hu
 refine go13 ?_
 first | refine yE (q_Sub2 g3 hh (by decide)) (fun u hu => ?_) | refine yB (q_Sub2 g3 hh (by decide)) (fun u hu => ?_)
 obtain ⟨s2, rfl, l2⟩ := hu
 have l2 := l2.tightS (bm.bd (k := 4194304) (by decide) (by simp))
 refine go13 ?_
 first | refine yE (vV hin (hcp.up (by decide)) (by rw [hprev.1, hlast.1]) l2 bp bm (by decide)) (fun u hu => ?_) | refine yB (vV hin (hcp.up (by decide)) (by rw [hprev.1, hlast.1]) l2 bp bm (by decide)) (fun u hu => ?_)
 obtain ⟨s3, rfl, l3⟩ := hu
 refine go13 ?_
 first | refine yE (tZ (a := 3) (b := 2) (by decide) (by decide) (by decide)) (fun u hu => ?_) | refine yB (tZ (a := 3) (b := 2) (by decide) (by decide) (by decide)) (fun u hu => ?_)
 obtain ⟨s4, rfl, l4⟩ := hu
 refine go13 ?_
 first | refine yE (uC hh l4 (by decide)) (fun u hu => ?_) | refine yB (uC hh l4 (by decide)) (fun u hu => ?_)
 obtain ⟨s5, rfl, l5⟩ := hu
 refine go13 ?_
 first | refine yE (wK (x3 := hin.x3) hin.hx bl (pG l5 (by decide)) (pJ bh c32) l1 n1 r1 (by decide)) (fun u hu => ?_) | refine yB (wK (x3 := hin.x3) hin.hx bl (pG l5 (by decide)) (pJ bh c32) l1 n1 r1 (by decide)) (fun u hu => ?_)
 obtain ⟨s6, rfl, l6⟩ := hu
 refine go13 ?_
 first | refine yE (tZ (a := -1) (b := 2) (by decide) (by decide) (by decide)) (fun u hu => ?_) | refine yB (tZ (a := -1) (b := 2) (by decide) (by decide) (by decide)) (fun u hu => ?_)
 obtain ⟨s7, rfl, l7⟩ := hu
 refine go13 ?_
 first | refine yE (uC hh l7 (by decide)) (fun u hu => ?_) | refine yB (uC hh l7 (by decide)) (fun u hu => ?_)
 obtain ⟨s8, rfl, l8⟩ := hu
 refine go13 ?_
 first | refine yE (wK (x3 := by rw [m1]; exact hin.x3) l6 x1 (pG l8 (by decide)) (pJ bh c12) l3 (by rw [n2, m1]) r2 (by decide)) (fun u hu => ?_) | refine yB (wK (x3 := by rw [m1]; exact hin.x3) l6 x1 (pG l8 (by decide)) (pJ bh c12) l3 (by rw [n2, m1]) r2 (by decide)) (fun u hu => ?_)
 obtain ⟨s9, rfl, ly⟩ := hu
 generalize hyy : xG (xG (out[i]'(by omega)) (h * (((3 : Int) : Rat) / ((2 : Int) : Rat))) (xF f (out[i]'(by omega)) (t + h * ((i : Int) : Rat)))) (h * (((-1 : Int) : Rat) / ((2 : Int) : Rat))) (xF f (out[i - 1]'(by omega)) (t + h * ((i : Int) : Rat) - h)) = y at hnx ly
 have hny : y.length = f.length := by rw [← hyy, wT (by rw [n2, m1]), m1, hlast.1]
 refine go13 ?_
 first | refine yE (qP ly (by omega) hg) (fun u hu => ?_) | refine yB (qP ly (by omega) hg) (fun u hu => ?_)
 rcases hu with ⟨hfit, cz, rfl, lz⟩ | ⟨hfit, rfl⟩
 case inr =>
  have he : runV m f h t g x (i + 1) = .error 3 := by
   simp only [runV, i2, sR, hnx]
   rw [yM.2 hfit]
   rfl
  refine go13 ?_
  exact ⟨_, .tup (.cons (.c (.hf trivial)) (.cons (.c (.hf trivial)) .nil)), .inl ⟨3, run_err he (by omega), by decide, rfl⟩⟩
 have hr : runV m f h t g x (i + 1) = .ok (out ++ [y.map (rdV g)]) := by
  simp only [runV, i2, sR, hnx]
  rw [yH.2 hfit]
  rfl
 refine go13 ?_
 refine app_imm (bytes := 24) (E := elL 2) (F := [.live ⟨[cf, a0, a1, a2, a3, a4, a5], vO, .rw⟩, .live ⟨[b0, b1, b2, b3, b4, b5], yZ, .rw⟩]) (a := y.map (rdV g)) (List.append_assoc _ _ _) (by rw [← List.append_assoc]; exact i5.extS) (by rfl) (by rfl) rfl ⟨cz, rfl, lz⟩ (by omega) (fun R2 o2 q2 => ?_)
 refine go13 ?_
 rw [xV i (by omega)]
 refine l_n (by rfl) (n' := n - (i + 1)) (by omega) ⟨i + 1, _, _, _, rfl, rfl, rfl, by omega, hr, by simp; omega, fun l hl => ?_, q2⟩
 rcases List.mem_append.1 hl with hl | hl
 ·exact i4 l hl
 ·simp only [List.mem_singleton] at hl
  subst hl
  exact ⟨by rw [List.length_map, hny], hfit⟩
end Go.Proofs.YtokckcnfojjpjaaGreat

set_option linter.unusedVariables false
set_option linter.unusedSimpArgs false
namespace Go.Proofs.YtokckcnfojjpjaaGreat
open Go.RowKit
set_option maxRecDepth 20000
def GaussR (K n : Nat) (M : Mx) (v : V) (H : Hp) : Prop := (gD n M = none ∧ v = .tup [.c .nilSl, .c (.bool false)]) ∨ (∃ y b cells, gD n M = some y ∧ v = .tup [.c (.sl b 0 n (some n) 6), .c (.bool true)] ∧ H[b]? = some (.live ⟨cells, yZ, .rw⟩) ∧ Els (elQ K) cells y)
theorem solve_none {n : Nat} {M : Mx} (h : tT n M n = none) : gD n M = none := by
 unfold gD
 rw [h]
 rfl
theorem solve_some {n : Nat} {M R : Mx} (h : tT n M n = some R) : gD n M = some ((List.range n).map fun i => R i n / R i i) := by
 unfold gD
 rw [h]
 rfl
theorem stage_inv {M E : Mx} {n k : Nat} (h : gC n k M = some E) : ∃ p, gZ M n k p ∧ E = jZ (qG M k p) k := by
 by_cases hp : ∃ p, gZ M n k p
 ·obtain ⟨p, hp⟩ := hp
  rw [stage_some hp] at h
  cases h
  exact ⟨p, hp, rfl⟩
 ·unfold gC at h
  rw [yM.2 hp] at h
  cases h
theorem gauss_piv {n : Nat} {M : Mx} : ∀ {k : Nat} {R : Mx}, tT n M k = some R → ∀ i, i < k → R i i ≠ 0
 | 0, R, _, i, hi => by omega
 | k + 1, R, h, i, hi => by
  simp only [tT] at h
  cases h1 : tT n M k with
  | none => rw [h1] at h; cases h
  | some S =>
   rw [h1, Option.bind_some] at h
   obtain ⟨p, hp, rfl⟩ := stage_inv h
   rcases Nat.lt_or_ge i k with h2 | h2
   ·rw [elim_left h2]
    have : qG S k p i = S i := by
     unfold qG
     rw [if_neg (by omega), if_neg (by have := hp.1; omega)]
    rw [this]
    exact gauss_piv h1 i h2
   ·have : i = k := by omega
    subst this
    rw [elim_row]
    have : qG S i p i = S p := by unfold qG; rw [if_pos rfl]
    rw [this]
    exact hp.2.2.1
def doneR (M E : Mx) (i : Nat) : Mx := fun i' j' => if i' < i then E i' j' else M i' j'
def partR (M E : Mx) (i j : Nat) : Mx := fun i' j' => if i' < i ∨ (i' = i ∧ j' < j) then E i' j' else M i' j'
def lowT (n : Nat) : Option Nat → Prop
 | none => True
 | some b => b < n
def lowL (n : Nat) : List (Nat × Option Nat) → Prop
 | [] => True
 | p :: r => lowT n p.2 ∧ lowL n r
theorem logOk_low {inc : List Nat} {n : Nat} {log : List (Nat × Option Nat)} (h : lowL n log) : qC inc (some n) log = true := by
 cases inc with
 | nil => rfl
 | cons i r =>
  simp only [qC]
  rw [List.all_eq_true]
  intro p hp
  have h2 : ∀ {log : List (Nat × Option Nat)}, lowL n log → ∀ p ∈ log, lowT n p.2 := by
   intro log
   induction log with
   | nil => intro _ p hp; cases hp
   | cons a l ih =>
    intro h p hp
    rcases List.mem_cons.1 hp with rfl | hp
    ·exact h.1
    ·exact ih h.2 p hp
  have h3 := h2 h p hp
  have h4 : same? p.2 (some n) = false := by
   cases hc : p.2 with
   | none => rfl
   | some b =>
    rw [hc] at h3
    have h3 : b < n := h3
    simp only [same?]
    cases hb : Nat.beq b n with
    | false => rfl
    | true =>
     have := Nat.eq_of_beq_eq_true hb
     omega
  rw [h4]
  simp
attribute [local irreducible] yA semH semC qLen qNil qIad qSlc qIdx yW yL xD appX appI slcX awpF yP xI xopF xR qval lval seqQ xL wJ wI xW cnd arith IntKind.wrap
theorem step_gauss {o n : Nat} {bx : Nat → Nat} {co : Nat → Option Nat} {ds : Nat → List C} {H0 : Hp} {M : Mx} {K' : V → Hp → Prop} (hM : Mt 2097152 o bx co ds H0.length H0 n (n + 1) M) (hn : n < 1048576) (hB : GB 2097152 n M) (hk : ∀ v H, GaussR 4194304 n M v H → K' v H) : semH Tryz.prog n_step_gauss [.c (.sl o 0 n (some n) 1)] H0 K' := by
 refine qQ ok_step_gauss rfl ?_
 obtain ⟨L, hL⟩ : ∃ L, L = H0.length := ⟨_, rfl⟩
 rw [← hL] at hM
 refine go13 ?_
 refine yT (fun w vs H => ∃ (k : Nat) (bx : Nat → Nat) (co : Nat → Option Nat) (ds : Nat → List C) (R : Mx), vs = [.c (.sl o 0 n (some n) 1), i64 n, i64 n, i64 k] ∧ w = n - k ∧ k ≤ n ∧ tT n M k = some R ∧ L ≤ H.length ∧ Mt 2097152 o bx co ds L H n (n + 1) R) (by rfl) ⟨0, bx, co, ds, M, rfl, rfl, by omega, rfl, by omega, hM⟩ ?_
 clear hM bx co ds
 rintro w vs H ⟨k, bx, co, ds, R, rfl, rfl, k1, k2, k3, hM⟩
 refine go13 ?_
 cases hkn : yA Cm.lss (k : Int) (n : Int)
 case false =>
  simp [yA] at hkn
  have ek : k = n := by omega
  subst ek
  refine go13 ?_
  refine vT (by rfl) (by rfl) ⟨by omega, by omega, by omega, by omega⟩ ?_
  refine go13 ?_
  have hpv := gauss_piv k2
  have hyl : ((List.range k).map fun i => R i k / R i i).length = k := by simp
  have hMg := hM.grow (X := [.live ⟨(List.replicate ((k : Int).toNat) bH).flatten, yZ, .rw⟩])
  refine yT (fun w vs H' => ∃ (i : Nat) (cells : List C), vs = [.c (.sl o 0 k (some k) 1), i64 k, .c (.sl H.length 0 k (some k) 6), i64 k, i64 i] ∧ H' = H ++ [.live ⟨cells, yZ, .rw⟩] ∧ w = k - i ∧ i ≤ k ∧ Fill (elQ 4194304) bH k cells (((List.range k).map fun i => R i k / R i i).take i)) (by rfl) ⟨0, _, rfl, rfl, rfl, by omega, .zero rfl⟩ ?_
  rintro w vs H' ⟨i, cells, rfl, rfl, rfl, i1, i2⟩
  have hcl : cells.length = k * 6 := i2.len
  have htl : (((List.range k).map fun i => R i k / R i i).take i).length = i := by rw [List.length_take, hyl]; omega
  have hG := hM.grow (X := [.live ⟨cells, yZ, .rw⟩])
  refine go13 ?_
  cases hi : yA Cm.lss (i : Int) (k : Int)
  case false =>
   simp [yA] at hi
   have ei : i = k := by omega
   subst ei
   rw [sD (by omega)] at i2
   refine go13 ?_
   exact hk _ _ (.inr ⟨_, _, cells, solve_some k2, rfl, yJ _ _, i2.done hyl⟩)
  simp [yA] at hi
  refine go13 ?_
  refine hG.ldT (i := i) hi (by omega) ?_
  refine go13 ?_
  refine hG.ldE (i := i) (j := k) hi (by omega) (by omega) (fun c1 hc1 => ?_)
  refine go13 ?_
  refine hG.ldT (i := i) hi (by omega) ?_
  refine go13 ?_
  refine hG.ldE (i := i) (j := i) hi (by omega) (by omega) (fun c2 hc2 => ?_)
  refine go13 ?_
  first | refine yE (q_Div2 hc1 hc2 (by decide) (hpv i hi)) (fun u hu => ?_) | refine yB (q_Div2 hc1 hc2 (by decide) (hpv i hi)) (fun u hu => ?_)
  obtain ⟨c3, rfl, hc3⟩ := hu
  have hc3 : IQ 4194304 c3 (R i k / R i i) := hc3
  obtain ⟨_, _, _, _, _, _, rfl⟩ := id hc3.six
  refine go13 ?_
  refine yS (yJ _ _) (by rfl) (by rfl) (by omega) ?_
  rw [bM]
  refine go13 ?_
  rw [xV i (by omega)]
  have h4 := i2.put (cs := _) (a := _) (by rw [htl]; exact hi) hc3
  rw [htl] at h4
  refine l_n (by rfl) (n' := k - (i + 1)) (by omega) ⟨i + 1, _, rfl, by rw [Nat.zero_add, Int.toNat_natCast], rfl, by omega, ?_⟩
  rw [vD (by rw [hyl]; exact hi), List.getElem_map, List.getElem_range]
  exact h4
 simp [yA] at hkn
 refine go13 ?_
 refine yT (fun w vs H' => ∃ (p : Nat), vs = [.c (.sl o 0 n (some n) 1), i64 n, i64 k, i64 p, i64 n, i64 k] ∧ H' = H ∧ w = n - p ∧ k ≤ p ∧ p ≤ n ∧ ∀ i, k ≤ i → i < p → R i k = 0) (by rfl) ⟨k, rfl, rfl, rfl, by omega, by omega, fun i h1 h2 => by omega⟩ ?_
 rintro w vs H' ⟨p, rfl, rfl, rfl, p1, p2, p3⟩
 refine go13 ?_
 cases hp : yA Cm.lss (p : Int) (n : Int)
 case false =>
  simp [yA] at hp
  have ep : p = n := by omega
  subst ep
  have hnone := gauss_none (show tT p M (k + 1) = none by simp only [tT, k2, Option.bind_some]; exact stage_none p3) (show k + 1 ≤ p by omega)
  refine go13 ?_
  rw [show yA Cm.eql (p : Int) (p : Int) = true by simp [yA]]
  refine go13 ?_
  exact hk _ _ (.inl ⟨solve_none hnone, rfl⟩)
 simp [yA] at hp
 refine go13 ?_
 refine hM.ldT (i := p) hp (by omega) ?_
 refine go13 ?_
 refine hM.ldE (i := p) (j := k) hp (by omega) (by omega) (fun cs hcs => ?_)
 refine go13 ?_
 first | refine yE (pT hcs) (fun u hu => ?_) | refine yB (pT hcs) (fun u hu => ?_)
 obtain ⟨z, rfl, hz⟩ := hu
 cases z
 case true =>
  refine go13 ?_
  rw [xV p (by omega)]
  refine l_n (by rfl) (n' := n - (p + 1)) (by omega) ⟨p + 1, rfl, rfl, rfl, by omega, by omega, fun i h1 h2 => ?_⟩
  rcases Nat.lt_or_ge i p with h | h
  ·exact p3 i h1 h
  ·have : i = p := by omega
   subst this
   exact hz.1 rfl
 have hpiv : gZ R n k p := ⟨p1, hp, (fun h => by cases hz.2 h), p3⟩
 refine go13 ?_
 rw [show yA Cm.eql (p : Int) (n : Int) = false by simp [yA]; omega]
 refine go13 ?_
 refine hM.ldT (i := p) hp (by omega) ?_
 refine go13 ?_
 refine hM.ldT (i := k) (by omega) (by omega) ?_
 refine go13 ?_
 refine yS hM.T (by rfl) (by rfl) (by simp; omega) ?_
 refine go13 ?_
 refine yS (List.getElem?_set_self (lt_of_getElem? hM.T)) (by rfl) (by rfl) (by rw [jD (by simp; omega)]; simp; omega) ?_
 have hsw := hM.swap (r := k) (k := p) (by omega) hp
 rw [List.set_set, show 0 + (k : Int).toNat * 1 = k by omega, show 0 + (p : Int).toNat * 1 = p by omega]
 have hE : tT n M (k + 1) = some (jZ (qG R k p) k) := by
  simp only [tT, k2, Option.bind_some]
  exact stage_some hpiv
 have hEB := hB (k + 1) _ (by omega) hE
 have hS0 : qG R k p k k ≠ 0 := by
  have : qG R k p k = R p := by unfold qG; rw [if_pos rfl]
  rw [this]
  exact hpiv.2.2.1
 generalize qG R k p = S at hsw hE hEB hS0
 generalize gN bx k p = bx at hsw
 generalize gN co k p = co at hsw
 generalize gN ds k p = ds at hsw
 obtain ⟨E, hEe⟩ : ∃ E, E = jZ S k := ⟨_, rfl⟩
 rw [← hEe] at hE hEB
 refine go13 ?_
 refine yT (fun w vs H => ∃ (i : Nat) (ds : Nat → List C), vs = [.c (.sl o 0 n (some n) 1), i64 n, i64 k, i64 n, i64 k, i64 n, i64 i] ∧ w = n - i ∧ i ≤ n ∧ L ≤ H.length ∧ Mt 2097152 o bx co ds L H n (n + 1) (doneR S E i)) (by rfl) ⟨0, ds, rfl, rfl, by omega, by simp; omega, hsw.congr (fun i j _ _ => by unfold doneR; rw [if_neg (by omega)])⟩ ?_
 clear hsw hM p3 k3 ds
 rintro w vs H ⟨i, ds, rfl, rfl, i1, i2, hM⟩
 refine go13 ?_
 cases hi : yA Cm.lss (i : Int) (n : Int)
 case false =>
  simp [yA] at hi
  have ei : i = n := by omega
  subst ei
  refine go13 ?_
  rw [xV k (by omega)]
  exact l_n (by rfl) (n' := i - (k + 1)) (by omega) ⟨k + 1, bx, co, ds, E, rfl, rfl, by omega, hE, i2, hM.congr (fun i' j _ _ => by unfold doneR; rw [if_pos (by omega)])⟩
 simp [yA] at hi
 have skip : (∀ j, E i j = S i j) → Mt 2097152 o bx co ds L H n (n + 1) (doneR S E (i + 1)) := fun h => hM.congr (fun i' j _ _ => by
  unfold doneR
  by_cases e : i' < i
  ·rw [if_pos e, if_pos (by omega)]
  ·rw [if_neg e]
   by_cases e2 : i' < i + 1
   ·have : i' = i := by omega
    subst this
    rw [if_pos e2, h j]
   ·rw [if_neg e2])
 refine go13 ?_
 cases hik : yA Cm.eql (i : Int) (k : Int)
 case true =>
  simp [yA] at hik
  have hik : i = k := by omega
  refine go13 ?_
  rw [xV i (by omega)]
  exact l_n (by rfl) (n' := n - (i + 1)) (by omega) ⟨i + 1, ds, rfl, rfl, by omega, i2, skip (fun j => by rw [hEe, hik]; exact elim_row)⟩
 simp [yA] at hik
 have hik : i ≠ k := by omega
 have rowi : ∀ j, doneR S E i i j = S i j := fun j => by unfold doneR; rw [if_neg (by omega)]
 have rowk : ∀ i0 j, doneR S E i0 k j = S k j := fun i0 j => by
  unfold doneR
  split
  ·rw [hEe]; exact elim_row
  ·rfl
 refine go13 ?_
 refine hM.ldT (i := i) hi (by omega) ?_
 refine go13 ?_
 refine hM.ldE (i := i) (j := k) hi (by omega) (by omega) (fun cs hcs => ?_)
 rw [rowi] at hcs
 refine go13 ?_
 first | refine yE (pT hcs) (fun u hu => ?_) | refine yB (pT hcs) (fun u hu => ?_)
 obtain ⟨z, rfl, hz⟩ := hu
 cases z
 case true =>
  refine go13 ?_
  rw [xV i (by omega)]
  exact l_n (by rfl) (n' := n - (i + 1)) (by omega) ⟨i + 1, ds, rfl, rfl, by omega, i2, skip (fun j => by rw [hEe]; exact elim_zero (hz.1 rfl))⟩
 have hz0 : S i k ≠ 0 := fun h => by cases hz.2 h
 refine go13 ?_
 have hG := hM.grow (X := List.replicate (0 + 1) .unb)
 refine hG.ldT (i := i) hi (by omega) ?_
 refine go13 ?_
 refine hG.ldE (i := i) (j := k) hi (by omega) (by omega) (fun c1 hc1 => ?_)
 rw [rowi] at hc1
 refine go13 ?_
 refine hG.ldT (i := k) (by omega) (by omega) ?_
 refine go13 ?_
 refine hG.ldE (i := k) (j := k) (by omega) (by omega) (by omega) (fun c2 hc2 => ?_)
 rw [rowk] at hc2
 refine go13 ?_
 have ho' : o < H.length := by have := hM.oL; omega
 have hbi' : bx i < H.length := by have := (hM.pos i hi).2; omega
 have hbk' : bx k < H.length := by have := (hM.pos k (by omega)).2; omega
 refine pX (T := some H.length) (by rfl) (logOk_low (n := H.length) ⟨hbk', trivial, trivial, ho', trivial, trivial, trivial, hbi', trivial, trivial, ho', trivial, trivial, trivial, trivial⟩) ?_
 refine bI ?_
 refine go13 ?_
 first | refine yE (q_Div2 hc1 hc2 (by decide) hS0) (fun u hu => ?_) | refine yB (q_Div2 hc1 hc2 (by decide) hS0) (fun u hu => ?_)
 obtain ⟨c3, rfl, hc3⟩ := hu
 obtain ⟨e0, e1, e2, e3, e4, e5, rfl⟩ := id hc3.six
 clear hG hc1 hc2 hcs
 refine go13 ?_
 simp only [tN, tM, ratC, tY, tX, List.set_cons_zero, List.set_cons_succ, List.nil_append, List.cons_append, List.append_nil, List.replicate_succ, List.replicate_zero, List.length_cons, List.length_nil, splice, List.take_succ_cons, List.take_zero, List.drop_succ_cons, List.drop_zero, List.take_nil, List.drop_nil, Nat.zero_add, Nat.reduceAdd, Nat.reduceMul, Int.reduceToNat, wF, List.getElem?_cons_succ, List.getElem?_cons_zero]
 have hG := hM.grow (X := [.live ⟨[e0, e1, e2, e3, e4, e5], yZ, .rw⟩])
 refine yT (fun w vs H' => ∃ (j : Nat) (ds : Nat → List C), vs = [.c (.sl o 0 n (some n) 1), i64 n, i64 k, i64 i, .c (.ptr H.length 0), i64 j, i64 n, i64 k, i64 n, i64 i] ∧ w = n + 1 - j ∧ k ≤ j ∧ j ≤ n + 1 ∧ L ≤ H'.length ∧ H'[H.length]? = some (.live ⟨[e0, e1, e2, e3, e4, e5], yZ, .rw⟩) ∧ Mt 2097152 o bx co ds L H' n (n + 1) (partR S E i j)) (by rfl) ⟨k, ds, rfl, rfl, by omega, by omega, by simp; omega, yJ _ _, hG.congr (fun i' j' _ _ => by
  unfold doneR partR
  by_cases e : i' < i
  ·rw [if_pos e, if_pos (.inl e)]
  ·rw [if_neg e]
   by_cases e2 : i' = i ∧ j' < k
   ·rw [if_pos (.inr e2), hEe, elim_left e2.2]
   ·rw [if_neg (by rintro (h | h); exact e h; exact e2 h)])⟩ ?_
 clear hG hM skip rowi rowk ds
 rintro w vs H' ⟨j, ds, rfl, rfl, j1, j2, j3, j4, hM⟩
 refine go13 ?_
 cases hj : yA Cm.leq (j : Int) (n : Int)
 case false =>
  simp [yA] at hj
  have ej : j = n + 1 := by omega
  subst ej
  refine go13 ?_
  rw [xV i (by omega)]
  exact l_n (by rfl) (n' := n - (i + 1)) (by omega) ⟨i + 1, ds, rfl, rfl, by omega, j3, hM.congr (fun i' j' _ hj' => by
   unfold doneR partR
   by_cases e : i' < i + 1
   ·rw [if_pos e, if_pos (by omega)]
   ·rw [if_neg e, if_neg (by omega)])⟩
 simp [yA] at hj
 have pi : partR S E i j i j = S i j := by unfold partR; rw [if_neg (by omega)]
 have pk : partR S E i j k j = S k j := by
  unfold partR
  split
  ·rw [hEe]; exact elim_row
  ·rfl
 have hcH : H.length < H'.length := lt_of_getElem? j4
 refine go13 ?_
 refine hM.ldT (i := i) hi (by omega) ?_
 refine go13 ?_
 refine hM.ldT (i := i) hi (by omega) ?_
 refine go13 ?_
 refine hM.ldE (i := i) (j := j) hi (by omega) (by omega) (fun d1 hd1 => ?_)
 rw [pi] at hd1
 refine go13 ?_
 refine yI j4 (by rfl) ?_
 refine go13 ?_
 refine hM.ldT (i := k) (by omega) (by omega) ?_
 refine go13 ?_
 refine hM.ldE (i := k) (j := j) (by omega) (by omega) (by omega) (fun d2 hd2 => ?_)
 rw [pk] at hd2
 refine go13 ?_
 first | refine yE (uC hc3 hd2 (by decide)) (fun u hu => ?_) | refine yB (uC hc3 hd2 (by decide)) (fun u hu => ?_)
 obtain ⟨d3, rfl, hd3⟩ := hu
 refine go13 ?_
 first | refine yE (q_Sub2 hd1 hd3 (by decide)) (fun u hu => ?_) | refine yB (q_Sub2 hd1 hd3 (by decide)) (fun u hu => ?_)
 obtain ⟨d4, rfl, hd4⟩ := hu
 have hnew : S i j - S i k / S k k * S k j = E i j := by rw [hEe]; exact (elim_else hik hz0 j1).symm
 rw [hnew] at hd4
 have hd4 := hd4.tightS (hEB i j hi (by omega))
 obtain ⟨_, _, _, _, _, _, rfl⟩ := id hd4.six
 refine go13 ?_
 refine hM.st (i := i) (j := j) hi (by omega) (by omega) (by rfl) hd4 ?_
 have hP := hM.put (i := i) (j := j) hi (by omega) hd4
 have hbi := (hM.pos i hi).2
 refine go13 ?_
 rw [xV j (by omega)]
 refine l_n (by rfl) (n' := n + 1 - (j + 1)) (by omega) ⟨j + 1, _, rfl, rfl, by omega, by omega, by simp; omega, ?_, hP.congr (fun i' j' _ _ => ?_)⟩
 ·rw [List.getElem?_set_ne (by omega)]
  exact j4
 ·unfold updQ partR
  by_cases e : i' = i ∧ j' = j
  ·rw [if_pos e, if_pos (by omega), e.1, e.2]
  ·rw [if_neg e]
   by_cases e2 : i' < i ∨ i' = i ∧ j' < j
   ·rw [if_pos e2, if_pos (by omega)]
   ·rw [if_neg e2, if_neg (by omega)]
end Go.Proofs.YtokckcnfojjpjaaGreat

set_option linter.unusedVariables false
set_option linter.unusedSimpArgs false
namespace Go.Proofs.YtokckcnfojjpjaaGreat
open Go.RowKit
set_option maxRecDepth 20000
structure MtP (K o : Nat) (bx : Nat → Nat) (ds : Nat → List C) (H : Hp) (r m w : Nat) (P : Nat → Nat → Prop) (M : Mx) : Prop where
 T : H[o]? = some (.live ⟨(List.range r).map (rowQ bx (fun _ => some w) w) ++ List.replicate (m - r) .nilSl, qM, .rw⟩)
 le : r ≤ m
 ne : ∀ i, i < r → bx i ≠ o
 row : ∀ i, i < r → H[bx i]? = some (.live ⟨ds i, yZ, .rw⟩)
 len : ∀ i, i < r → (ds i).length = w * 6
 at_ : ∀ i j, i < r → j < w → P i j → IQ K (((ds i).drop (j * 6)).take 6) (M i j)
 inj : ∀ i k, i < r → k < r → bx i = bx k → i = k
section
variable {K o : Nat} {bx : Nat → Nat} {ds : Nat → List C} {H : Hp} {r m w : Nat} {P : Nat → Nat → Prop} {M : Mx}
theorem MtP.start (h : H[o]? = some (.live ⟨List.replicate m .nilSl, qM, .rw⟩)) : MtP K o bx ds H 0 m w P M :=
 ⟨by simpa using h, by omega, fun i h => by omega, fun i h => by omega, fun i h => by omega, fun i j h => by omega, fun i k h => by omega⟩
theorem MtP.grow {X : Hp} (h : MtP K o bx ds H r m w P M) : MtP K o bx ds (H ++ X) r m w P M :=
 ⟨by rw [List.getElem?_append_left (lt_of_getElem? h.T)]; exact h.T, h.le, h.ne, fun i hi => by rw [List.getElem?_append_left (lt_of_getElem? (h.row i hi))]; exact h.row i hi, h.len, h.at_, h.inj⟩
theorem MtP.weak {Q : Nat → Nat → Prop} (h : MtP K o bx ds H r m w P M) (hq : ∀ i j, i < r → j < w → Q i j → P i j) : MtP K o bx ds H r m w Q M :=
 ⟨h.T, h.le, h.ne, h.row, h.len, fun i j hi hj q => h.at_ i j hi hj (hq i j hi hj q), h.inj⟩
theorem MtP.other {p : Nat} {s : Slot} (h : MtP K o bx ds H r m w P M) (hp : p ≠ o) (hb : ∀ i, i < r → p ≠ bx i) : MtP K o bx ds (H.set p s) r m w P M :=
 ⟨by rw [List.getElem?_set_ne hp]; exact h.T, h.le, h.ne, fun i hi => by rw [List.getElem?_set_ne (hb i hi)]; exact h.row i hi, h.len, h.at_, h.inj⟩
theorem splice_at {cells : List C} {i : Nat} {c : C} (hi : i < cells.length) : splice cells i [c] = cells.set i c := by
 unfold splice
 rw [List.set_eq_take_append_cons_drop, if_pos hi]
 simp
theorem MtP.next {b : Nat} {cells : List C} (h : MtP K o bx ds H r m w P M) (hr : r < m) (hb : H[b]? = some (.live ⟨cells, yZ, .rw⟩)) (hbn : ∀ i, i < r → bx i ≠ b) (hbo : b ≠ o) (hl : cells.length = w * 6) (hP : ∀ j, ¬ P r j) :
  MtP K o (fun i => if i = r then b else bx i) (fun i => if i = r then cells else ds i) (H.set o (.live ⟨splice ((List.range r).map (rowQ bx (fun _ => some w) w) ++ List.replicate (m - r) .nilSl) r [.sl b 0 w (some w) 6], qM, .rw⟩)) (r + 1) m w P M := by
 have hlt := lt_of_getElem? h.T
 refine ⟨?_, hr, fun i hi => ?_, fun i hi => ?_, fun i hi => ?_, fun i j hi hj p => ?_, fun i k hi hk he => ?_⟩
 ·rw [List.getElem?_set_self hlt]
  congr 3
  rw [splice_at (by simp; omega)]
  apply List.ext_getElem
  ·simp
   omega
  ·intro i h1 h2
   simp only [List.length_set, List.length_append, List.length_map, List.length_range, List.length_replicate] at h1
   rw [List.getElem_set]
   by_cases e : r = i
   ·subst e
    rw [if_pos rfl, List.getElem_append_left (by simp)]
    simp [rowQ]
   ·rw [if_neg e]
    by_cases e2 : i < r
    ·rw [List.getElem_append_left (by simpa using e2), List.getElem_append_left (by simp; omega)]
     simp [rowQ, Ne.symm e]
    ·rw [List.getElem_append_right (by simp; omega), List.getElem_append_right (by simp; omega)]
     simp
 ·by_cases e : i = r
  ·rw [if_pos e]; exact hbo
  ·rw [if_neg e]; exact h.ne i (by omega)
 ·by_cases e : i = r
  ·rw [if_pos e, if_pos e, List.getElem?_set_ne (Ne.symm hbo)]; exact hb
  ·rw [if_neg e, if_neg e, List.getElem?_set_ne (Ne.symm (h.ne i (by omega)))]; exact h.row i (by omega)
 ·by_cases e : i = r
  ·rw [if_pos e]; exact hl
  ·rw [if_neg e]; exact h.len i (by omega)
 ·by_cases e : i = r
  ·subst e; exact absurd p (hP j)
  ·rw [if_neg e]; exact h.at_ i j (by omega) hj p
 ·by_cases e : i = r <;> by_cases e2 : k = r
  ·omega
  ·rw [if_pos e, if_neg e2] at he
   exact absurd he.symm (hbn k (by omega))
  ·rw [if_neg e, if_pos e2] at he
   exact absurd he (hbn i (by omega))
  ·rw [if_neg e, if_neg e2] at he
   exact h.inj i k (by omega) (by omega) he
theorem MtP.put {i j : Nat} {cs : List C} (h : MtP K o bx ds H r m w P M) (hi : i < r) (hj : j < w) (hc : IQ K cs (M i j)) :
  MtP K o bx (fun i' => if i' = i then splice (ds i) (j * 6) cs else ds i') (H.set (bx i) (.live ⟨splice (ds i) (j * 6) cs, yZ, .rw⟩)) r m w (fun i' j' => P i' j' ∨ (i' = i ∧ j' = j)) M := by
 have hlt := lt_of_getElem? (h.row i hi)
 have hcl : cs.length = 6 := (elQ K).len (show (elQ K).p cs (M i j) from hc)
 have hle : j * 6 + 6 ≤ (ds i).length := by
  rw [h.len i hi]
  omega
 refine ⟨?_, h.le, h.ne, fun i' hi' => ?_, fun i' hi' => ?_, fun i' j' hi' hj' p => ?_, h.inj⟩
 ·rw [List.getElem?_set_ne (h.ne i hi)]
  exact h.T
 ·by_cases e : i' = i
  ·subst e
   rw [List.getElem?_set_self hlt, if_pos rfl]
  ·rw [List.getElem?_set_ne (fun x => e (h.inj i' i hi' hi x.symm)), if_neg e]
   exact h.row i' hi'
 ·by_cases e : i' = i
  ·subst e
   rw [if_pos rfl, jD (by rw [hcl]; exact hle)]
   exact h.len i' hi'
  ·rw [if_neg e]
   exact h.len i' hi'
 ·by_cases e : i' = i
  ·subst e
   rw [if_pos rfl]
   by_cases e2 : j' = j
   ·subst e2
    rw [get_splice (by omega) hcl]
    exact hc
   ·rw [splice_otherQ hle hcl e2]
    exact h.at_ i' j' hi' hj' (p.resolve_right fun x => e2 x.2)
  ·rw [if_neg e]
   exact h.at_ i' j' hi' hj' (p.resolve_right fun x => e x.1)
theorem MtP.ldT {off i : Nat} {Q : V → Prop} (h : MtP K o bx ds H r m w P M) (hi : i < r) (ho : off = i) (k : Q (.c (.sl (bx i) 0 w (some w) 6))) : yW H[o]? false 1 off Q := by
 subst ho
 refine yN h.T ?_ k
 simp only
 rw [List.getElem?_append_left (by simpa using hi)]
 simp [hi, rowQ]
theorem MtP.st {off i j : Nat} {cs : List C} {ds' : Option (List C)} {Q : Nat → Slot → Prop} (h : MtP K o bx ds H r m w P M) (hi : i < r) (hj : j < w) (ho : off = j * 6) (hd : ds' = some cs) (hl : cs.length = 6) (k : Q (bx i) (.live ⟨splice (ds i) (j * 6) cs, yZ, .rw⟩)) : xD H[bx i]? (bx i) 6 off ds' Q := by
 subst ho
 have hl2 := h.len i hi
 exact yS (h.row i hi) hd (by rw [hl]; rfl) (by omega) k
theorem MtP.full (h : MtP K o bx ds H m m w P M) (hp : ∀ i j, i < m → j < w → P i j) : Mt K o bx (fun _ => some w) ds H.length H m w M :=
 ⟨by simpa using h.T, lt_of_getElem? h.T, fun i hi => ⟨h.ne i hi, lt_of_getElem? (h.row i hi)⟩, h.row, h.len, fun i j hi hj => h.at_ i j hi hj (hp i j hi hj), h.inj⟩
end
theorem bS_sub {k m : Nat} {a b : Rat} (h1 : Bd k (rp a)) (h2 : Bd m (rp b)) : Bd (k + m + 1) (rp (a - b)) :=
 bd_divS (dd_ne a b) (rat_sub a b) ((h1.n.mulT h2.d).add2 ((h2.n.neg.mulT h1.d).up (show m + k ≤ k + m by omega)) (Nat.le_refl _)) ((h1.d.mulT h2.d).up (by omega))
theorem bS_mul {k m : Nat} {a b : Rat} (h1 : Bd k (rp a)) (h2 : Bd m (rp b)) : Bd (k + m) (rp (a * b)) :=
 bd_divS (dd_ne a b) (rat_mul a b) (h1.n.mulT h2.n) (h1.d.mulT h2.d)
theorem bS_div {k m : Nat} {a b : Rat} (h1 : Bd k (rp a)) (h2 : Bd m (rp b)) (h0 : b ≠ 0) : Bd (k + m) (rp (a / b)) :=
 bd_divS (Int.mul_ne_zero (Int.ne_of_gt (pS a)) (num_ne h0)) (rat_div a b h0) (h1.n.mulT h2.d) (h1.d.mulT h2.n)
def EB (k n : Nat) (M : Mx) : Prop := ∀ i j, i < n → j ≤ n → Bd k (rp (M i j))
theorem stage_EB {k n l : Nat} {M E : Mx} (h : EB k n M) (hs : gC n l M = some E) : EB (4 * k + 1) n E := by
 obtain ⟨p, hp, rfl⟩ := stage_inv hs
 have hln : l < n := by have := hp.1; have := hp.2.1; omega
 have hsw : EB k n (qG M l p) := fun i j hi hj => by
  unfold qG
  split
  ·exact h p j hp.2.1 hj
  ·split
   ·exact h l j hln hj
   ·exact h i j hi hj
 have hpv : qG M l p l l ≠ 0 := by
  have : qG M l p l = M p := by unfold qG; rw [if_pos rfl]
  rw [this]
  exact hp.2.2.1
 intro i j hi hj
 unfold jZ
 cases hd : dec (i = l ∨ qG M l p i l = 0 ∨ j < l)
 ·have := bS_sub (hsw i j hi hj) (bS_mul (bS_div (hsw i l hi (by omega)) (hsw l l hln (by omega)) hpv) (hsw l j hln hj))
  exact this.to (by omega)
 ·exact (hsw i j hi hj).to (by omega)
theorem gauss_EB {k n : Nat} {M : Mx} (h : EB k n M) : ∀ {l : Nat} {E : Mx}, tT n M l = some E → EB (4 ^ l * (k + 1) - 1) n E
 | 0, E, hg => by
  cases hg
  exact fun i j hi hj => (h i j hi hj).to (by omega)
 | l + 1, E, hg => by
  simp only [tT] at hg
  cases h1 : tT n M l with
  | none => rw [h1] at hg; cases hg
  | some S =>
   rw [h1, Option.bind_some] at hg
   have h2 := stage_EB (gauss_EB h h1) hg
   intro i j hi hj
   have h3 : 1 ≤ 4 ^ l * (k + 1) := Nat.mul_pos (Nat.pow_pos (by decide)) (by omega)
   refine (h2 i j hi hj).to ?_
   rw [Nat.pow_succ, Nat.mul_comm (4 ^ l) 4, Nat.mul_assoc]
   omega
theorem gb_of {k n : Nat} {M : Mx} (h : EB k n M) (hn : n ≤ 3) (hk : 64 * (k + 1) ≤ 2097152) : GB 2097152 n M := fun l R hl hg i j hi hj => by
 have h1 : 4 ^ l ≤ 64 := by
  have : l ≤ 3 := by omega
  calc 4 ^ l ≤ 4 ^ 3 := Nat.pow_le_pow_right (by decide) this
   _ = 64 := rfl
 have h2 : 4 ^ l * (k + 1) ≤ 64 * (k + 1) := Nat.mul_le_mul_right _ h1
 exact (gauss_EB h hg i j hi hj).to (by omega)
def vW (n : Nat) : List Rat := List.replicate n 0
theorem cp_zeros (n : Nat) : CpL 0 (vW n) := ⟨1, by decide, by decide, fun q hq => by
 have := (List.mem_replicate.1 hq).2
 subst this
 exact Cap.zero⟩
theorem cp_unit (n k : Nat) : CpL 0 (qF n k) := ⟨1, by decide, by decide, fun q hq => by
 unfold qF at hq
 rcases List.mem_or_eq_of_mem_set hq with h | h
 ·have := (List.mem_replicate.1 h).2
  subst this
  exact Cap.zero
 ·subst h
  exact Cap.one⟩
theorem unit_len (n k : Nat) : (qF n k).length = n := by simp [qF]
end Go.Proofs.YtokckcnfojjpjaaGreat

set_option linter.unusedVariables false
set_option linter.unusedSimpArgs false
namespace Go.Proofs.YtokckcnfojjpjaaGreat
open Go.RowKit
set_option maxRecDepth 20000
section
variable {α : Type} {E : El α}
theorem app_xs {F R : Hp} {el : TypeId} {es bytes : Nat} {s x : Option V} {K : V → Hp → Prop} {c d : C} {xs : List C} {out l : List α} {H : Hp} (hH : H = F ++ R) (ho : Out E el F.length (F ++ R) c out) (hs : s = some (.c c)) (hx : x = some (.c d)) (hxs : sQ (F ++ R) E.s d = some xs) (hm : slLen d = some l.length) (hxl : xs.length = l.length * E.s) (hxe : Els E xs l) (he : E.s = es) (hl : (out.length + l.length) * bytes ≤ 140737488355328 ∧ out.length + l.length ≤ 140737488355328)
  (k : ∀ R' c', Out E el F.length (F ++ R') c' (out ++ l) → K (.c c') (F ++ R')) : appX H el es bytes s x K := by
 subst hH hs hx he
 cases ho with
 | nil =>
  simp only [appX, hxs, hm]
  refine xH (by simp [hxl]) ?_
  rcases Nat.eq_zero_or_pos l.length with h0 | h0
  ·have : l = [] := List.eq_nil_of_length_eq_zero h0
   subst this
   exact hU rfl (k _ _ .nil)
  ·refine jK (by cases hL : l.length; omega; rfl) (xH (by simp only [List.length_nil, Nat.zero_add] at hl; simp only [Bool.and_eq_true, yH]; exact hl) ?_)
   have := k (R ++ [.live ⟨xs, el, .rw⟩]) (.sl (F ++ R).length 0 l.length none E.s) (.sl (cells := xs) (ds := xs) (by simp) (by rw [← List.append_assoc]; exact yJ _ _) rfl (by simp only [List.nil_append]; exact List.take_of_length_le (by omega)) hxe)
   rw [← List.append_assoc] at this
   exact this
 | @sl b n co' cells ds l' hm' hb hn hc h =>
  subst hn
  have hdl : (cells.take (out.length * E.s)).length = out.length * E.s := by rw [hc]; exact h.len
  have hle : out.length * E.s ≤ cells.length := by
   rw [List.length_take] at hdl
   omega
  have hlt := lt_of_getElem? hb
  refine app_sl (cs := cells) (xs := xs) (m := l.length) rfl rfl hxs hm hxl hb hle hl.1 hl.2 ?_
  have e : (F ++ R).set b .dead = F ++ R.set (b - F.length) .dead := List.set_append_right _ _ hm'
  have e' : (F ++ R).length = (F ++ R.set (b - F.length) .dead).length := by simp
  rw [e, e', List.append_assoc]
  refine k _ _ (.sl (cells := cells.take (out.length * E.s) ++ xs) (ds := ds ++ xs) (by simp) (by rw [← List.append_assoc]; exact yJ _ _) (by simp) ?_ (h.append hxe))
  rw [hc]
  exact List.take_of_length_le (by rw [List.length_append, List.length_append, h.len, hxl, Nat.add_mul]; exact Nat.le_refl _)
end
theorem Out.stS {k : Nat} {el : TypeId} {m b n i off : Nat} {co : Option Nat} {H : Hp} {l : List Rat} {a : Rat} {cs : List C} {ds' : Option (List C)} {Q : Nat → Slot → Prop} (h : Out (elQ k) el m H (.sl b 0 n co 6) l) (hi : i < l.length) (hoff : off = i * 6) (hd : ds' = some cs) (hc : IQ k cs a)
  (q : ∀ cells, m ≤ b → b < H.length → Out (elQ k) el m (H.set b (.live ⟨cells, el, .rw⟩)) (.sl b 0 n co 6) (l.set i a) → Q b (.live ⟨cells, el, .rw⟩)) : xD H[b]? b 6 off ds' Q := by
 subst hoff
 cases h with
 | @sl _ _ _ cells ds _ hm hb hn hcd hE =>
  have hcl : cs.length = 6 := (elQ k).len (show (elQ k).p cs a from hc)
  have hdl := hE.len
  have hle : l.length * 6 ≤ cells.length := by
   have := congrArg List.length hcd
   rw [List.length_take, hdl] at this
   have e6 : (elQ k).s = 6 := rfl
   rw [e6] at this
   omega
  have hlt := lt_of_getElem? hb
  refine yS hb hd (by rw [hcl]; rfl) (by omega) (q _ hm hlt ?_)
  refine .sl hm (List.getElem?_set_self hlt) (by simp [hn]) ?_ (hE.set hi hc)
  rw [List.length_set, ← hcd]
  have e6 : (elQ k).s = 6 := rfl
  rw [e6]
  have hi6 : i * 6 + 6 ≤ l.length * 6 := by omega
  unfold splice
  have e1 : (cells.take (i * 6) ++ cs).length = i * 6 + 6 := by simp; omega
  rw [List.take_append, List.take_of_length_le (by omega), e1, List.take_take, Nat.min_eq_left (by omega), List.drop_take, hcl]
theorem close_one {H : Hp} {b : Nat} {cells : List C} {el : TypeId} (hb : H[b]? = some (.live ⟨cells, el, .rw⟩)) : wF H [b] = H.set b (.live ⟨cells, el, .ro⟩) := by
 simp only [wF, hb]
theorem Out.closeOne {α : Type} {E : El α} {el : TypeId} {m b off n es : Nat} {co : Option Nat} {H : Hp} {l : List α} (h : Out E el m H (.sl b off n co es) l) : ∃ cells d, wF H [b] = H.set b (.live ⟨cells, el, .ro⟩) ∧ Fz (· = .ro) (wF H [b]) (.sl b off n co es) d ∧ Ls E d l := by
 cases h with
 | @sl _ _ _ cells ds _ hm hb hn hc h =>
  subst hn
  refine ⟨cells, _, close_one hb, .sl (bx := ⟨cells, el, .ro⟩) (by rw [close_one hb]; exact List.getElem?_set_self (lt_of_getElem? hb)) rfl (by simp) ?_, .imm h⟩
  simp only [List.drop_zero]
  rw [hc]
  exact .hf h.hf
structure HI (H : Hp) (s a t z : Slot) : Prop where
 s : H[0]? = some s
 a : H[1]? = some a
 t : H[2]? = some t
 z : H[3]? = some z
theorem HI.grow {H X : Hp} {s a t z : Slot} (h : HI H s a t z) : HI (H ++ X) s a t z :=
 ⟨by rw [List.getElem?_append_left (lt_of_getElem? h.s)]; exact h.s, by rw [List.getElem?_append_left (lt_of_getElem? h.a)]; exact h.a, by rw [List.getElem?_append_left (lt_of_getElem? h.t)]; exact h.t, by rw [List.getElem?_append_left (lt_of_getElem? h.z)]; exact h.z⟩
theorem HI.set {H : Hp} {s a t z : Slot} {p : Nat} {x : Slot} (h : HI H s a t z) (hp : 3 < p) : HI (H.set p x) s a t z :=
 ⟨by rw [List.getElem?_set_ne (by omega)]; exact h.s, by rw [List.getElem?_set_ne (by omega)]; exact h.a, by rw [List.getElem?_set_ne (by omega)]; exact h.t, by rw [List.getElem?_set_ne (by omega)]; exact h.z⟩
theorem imp_last {f : List Pl} {x : List Rat} {a t : Rat} {i : Nat} (hi : i < x.length) (hb : (xF f (vW x.length) t).length = x.length) : impM f x a t i x.length = x[i] + a * (xF f (vW x.length) t)[i]'(by omega) := by
 unfold impM
 rw [if_neg (by omega)]
 have e1 : x.getD i 0 = x[i] := by simp [List.getD, hi]
 have e2 : (xF f (List.replicate x.length 0) t).getD i 0 = (xF f (vW x.length) t)[i]'(by omega) := by
  show (xF f (vW x.length) t).getD i 0 = _
  simp [List.getD, show i < (xF f (vW x.length) t).length by omega]
 rw [e1, e2]
theorem imp_col {f : List Pl} {x : List Rat} {a t : Rat} {i k : Nat} (hi : i < x.length) (hk : k < x.length) (hb : (xF f (vW x.length) t).length = x.length) (hc : (xF f (qF x.length k) t).length = x.length) :
  impM f x a t i k = if i = k then -(a * ((xF f (qF x.length k) t)[i]'(by omega) - (xF f (vW x.length) t)[i]'(by omega))) + 1 else -(a * ((xF f (qF x.length k) t)[i]'(by omega) - (xF f (vW x.length) t)[i]'(by omega))) := by
 unfold impM
 rw [if_pos hk]
 have e1 : (xF f (qF x.length k) t).getD i 0 = (xF f (qF x.length k) t)[i]'(by omega) := by simp [List.getD, show i < (xF f (qF x.length k) t).length by omega]
 have e2 : (xF f (List.replicate x.length 0) t).getD i 0 = (xF f (vW x.length) t)[i]'(by omega) := by
  show (xF f (vW x.length) t).getD i 0 = _
  simp [List.getD, show i < (xF f (vW x.length) t).length by omega]
 rw [e1, e2]
theorem cp_mem {n : Nat} {l : List Rat} {q : Rat} (h : CpL n l) (hq : q ∈ l) : CpL n [q] := h.sub (fun r hr => by simp at hr; subst hr; exact hq)
theorem cp_bd {n k : Nat} {q : Rat} (h : CpL n [q]) (hk : n + n < 32 * k) : Bd k (rp q) := h.bd hk (by simp)
theorem imp_bd {f : List Pl} {x : List Rat} {a t : Rat} (hf : SysOk (x.length + 1) f) (hl : f.length = x.length) (bx : CpL 10500 x) (bA : CpL 46 [a]) (bT : CpL 140 [t]) : EB 2400 x.length (impM f x a t) := by
 intro i j hi hj
 have hb : (xF f (vW x.length) t).length = x.length := by rw [vU, hl]
 have cb : CpL 9000 (xF f (vW x.length) t) := (tO (sI hf (show _ = (vW x.length).length + 1 by simp [vW])) (cp_zeros _) bT).mono (by decide)
 rcases Nat.lt_or_ge j x.length with h | h
 ·have hc : (xF f (qF x.length j) t).length = x.length := by rw [vU, hl]
  have cc : CpL 9000 (xF f (qF x.length j) t) := (tO (sI hf (show _ = (qF x.length j).length + 1 by rw [unit_len])) (cp_unit _ _) bT).mono (by decide)
  rw [imp_col hi h hb hc]
  have c1 := cp_neg (pJ bA (cp_sub (cp_mem cc (List.getElem_mem (show i < _ by omega))) (cp_mem cb (List.getElem_mem (show i < _ by omega)))))
  split
  ·exact cp_bd (bC c1 (pV (z := 1) (n := 1) (by decide))) (by decide)
  ·exact cp_bd c1 (by decide)
 ·have : j = x.length := by omega
  subst this
  rw [imp_last hi hb]
  exact cp_bd (bC (cp_mem bx (List.getElem_mem hi)) (pJ bA (cp_mem cb (List.getElem_mem (show i < _ by omega))))) (by decide)
attribute [local irreducible] yA semH semC qLen qNil qIad qSlc qIdx yW yL xD appX appI slcX awpF yP xI xopF xR qval lval seqQ xL wJ wI xW cnd arith IntKind.wrap
theorem slices_CloneB {k b n : Nat} {co : Option Nat} {kd : BK} {cells : List C} {l : List Rat} {H : Hp} {K : V → Hp → Prop} (hb : H[b]? = some (.live ⟨cells, yZ, kd⟩)) (hE : Els (elQ k) cells l) (hn : n = l.length) (hl : l.length < 1048576) (h : ∀ R' c', Out (elQ k) yZ H.length (H ++ R') c' l → K (.c c') (H ++ R')) : semH Tryz.prog n_slices_Clone_sl_num_Q_num_Q [.c (.sl b 0 n co 6)] H K := by
 refine qQ ok_slices_Clone_sl_num_Q_num_Q rfl ?_
 have hlen := hE.len
 refine go2 ?_
 refine app_xs (F := H) (R := [.live ⟨[], yZ, .rw⟩]) (c := .sl H.length 0 0 (some 0) 6) (out := []) (E := elQ k) (xs := cells) rfl (.sl (cells := []) (ds := []) (Nat.le_refl _) (yJ _ _) rfl rfl .nil) (by rfl) (by rfl) ?_ (by rw [hn]; rfl) hlen hE rfl (by simp; omega) (fun R' c' q => ?_)
 ·simp only [sQ]
  rw [List.getElem?_append_left (lt_of_getElem? hb), hb]
  simp only [List.drop_zero]
  rw [List.take_of_length_le (by rw [hlen, hn]; exact Nat.le_refl _)]
 ·refine go2 ?_
  exact h R' c' q
theorem jP {cf cx : C} {ch ca ct : List C} {f : List Pl} {x : List Rat} {h a t : Rat} (hc : Ls elM cf f) (hf : SysOk (x.length + 1) f) (hl : f.length = x.length) (hh : IQ 4194304 ch h) (hx : Ls (elQ 4194304) cx x) (ha : IQ 4194304 ca a) (ht : IQ 4194304 ct t) (bx : CpL 10500 x) (bA : CpL 46 [a]) (bT : CpL 140 [t]) :
  semC Tryz.prog n_step_system_implicit [.agg (cf :: ch), .c cx, .agg ca, .agg ct] (OneK (sX f x a t)) := by
 refine yD ok_step_system_implicit rfl (show HFVs [.agg (cf :: ch), .c cx, .agg ca, .agg ct] from ⟨⟨hc.hf, hh.hf⟩, hx.hf, ha.hf, ht.hf, trivial⟩) ?_
 have h3 : x.length ≤ 3 := by rw [← hl]; exact hf.len
 obtain ⟨a0, a1, a2, a3, a4, a5, rfl⟩ := id hh.six
 obtain ⟨b0, b1, b2, b3, b4, b5, rfl⟩ := id ha.six
 obtain ⟨d0, d1, d2, d3, d4, d5, rfl⟩ := id ht.six
 have hzl : (vW x.length).length = x.length := by simp [vW]
 refine go13 ?_
 refine vT (by rfl) (by rfl) ⟨by omega, by omega, by omega, by omega⟩ ?_
 refine go13 ?_
 simp only [tN, tM, ratC, tY, tX, List.set_cons_zero, List.set_cons_succ, List.nil_append, List.cons_append, List.append_nil, List.replicate_succ, List.replicate_zero, List.length_cons, List.length_nil, splice, List.take_succ_cons, List.take_zero, List.drop_succ_cons, List.drop_zero, List.take_nil, List.drop_nil, Nat.zero_add, Nat.reduceAdd, Nat.reduceMul, Int.reduceToNat, wF, List.getElem?_cons_succ, List.getElem?_cons_zero]
 refine yT (fun w vs H => ∃ (i : Nat) (cells : List C), vs = [.c cx, .c (.ptr 0 0), .c (.ptr 1 0), .c (.ptr 2 0), i64 x.length, .c (.sl 3 0 x.length (some x.length) 6), i64 x.length, i64 i] ∧ H = [.live ⟨[cf, a0, a1, a2, a3, a4, a5], vO, .rw⟩, .live ⟨[b0, b1, b2, b3, b4, b5], yZ, .rw⟩, .live ⟨[d0, d1, d2, d3, d4, d5], yZ, .rw⟩, .live ⟨cells, yZ, .rw⟩] ∧ w = x.length - i ∧ i ≤ x.length ∧ Fill (elQ 4194304) bH x.length cells ((vW x.length).take i)) (by rfl) ⟨0, _, rfl, rfl, rfl, by omega, .zero rfl⟩ ?_
 rintro w vs H ⟨i, cells, rfl, rfl, rfl, i1, i2⟩
 have hcl : cells.length = x.length * 6 := i2.len
 have htl : ((vW x.length).take i).length = i := by rw [List.length_take, hzl]; omega
 refine go13 ?_
 cases hi : yA Cm.lss (i : Int) (x.length : Int)
 case true =>
  simp [yA] at hi
  refine go13 ?_
  first | refine yE (vG (g := 0) (by decide)) (fun u hu => ?_) | refine yB (vG (g := 0) (by decide)) (fun u hu => ?_)
  obtain ⟨es, rfl, g0⟩ := hu
  have g0 : IQ 4194304 es 0 := g0.up (by decide)
  obtain ⟨_, _, _, _, _, _, rfl⟩ := id g0.six
  refine go13 ?_
  rw [xV i (by omega)]
  have h4 := i2.put (cs := _) (a := (0 : Rat)) (by rw [htl]; exact hi) g0
  rw [htl] at h4
  refine l_n (by rfl) (n' := x.length - (i + 1)) (by omega) ⟨i + 1, _, rfl, by rw [Nat.zero_add, Int.toNat_natCast]; rfl, rfl, by omega, ?_⟩
  rw [vD (by rw [hzl]; exact hi), show (vW x.length)[i]'(by omega) = 0 by simp [vW]]
  exact h4
 simp [yA] at hi
 have ei : i = x.length := by omega
 subst ei
 rw [sD (by omega)] at i2
 have hz := i2.done hzl
 have lz : Ls (elQ 4194304) (.imm x.length cells) (vW x.length) := by
  have := Ls.imm hz
  rwa [hzl] at this
 clear i1 i2 htl
 refine go13 ?_
 refine xB [3] (.cons (.agg (.hf ⟨hc.hf, hh.hf⟩)) (.cons (.c (.sl (bx := ⟨cells, yZ, .ro⟩) (ds := cells) (by rfl) rfl (by simp) ?_)) (.cons (.agg (.hf ht.hf)) .nil))) (step_rate hc (sI hf (show _ = (vW x.length).length + 1 by rw [hzl])) hh lz ht (by omega) ((cp_zeros _).append bT) (by decide)) (fun u hu => ?_)
 ·simp only [List.drop_zero]
  rw [List.take_of_length_le (by omega)]
  exact .hf hz.hf
 obtain ⟨cb, rfl, lb⟩ := hu
 have lb : Ls (elQ 4194304) cb (xF f (vW x.length) t) := lb
 have hbl : (xF f (vW x.length) t).length = x.length := by rw [vU, hl]
 refine go13 ?_
 simp only [tN, tM, ratC, tY, tX, List.set_cons_zero, List.set_cons_succ, List.nil_append, List.cons_append, List.append_nil, List.replicate_succ, List.replicate_zero, List.length_cons, List.length_nil, splice, List.take_succ_cons, List.take_zero, List.drop_succ_cons, List.drop_zero, List.take_nil, List.drop_nil, Nat.zero_add, Nat.reduceAdd, Nat.reduceMul, Int.reduceToNat, wF, List.getElem?_cons_succ, List.getElem?_cons_zero]
 refine vT (by rfl) (by rfl) ⟨by omega, by omega, by omega, by omega⟩ ?_
 refine go13 ?_
 simp only [tN, tM, ratC, tY, tX, List.set_cons_zero, List.set_cons_succ, List.nil_append, List.cons_append, List.append_nil, List.replicate_succ, List.replicate_zero, List.length_cons, List.length_nil, splice, List.take_succ_cons, List.take_zero, List.drop_succ_cons, List.drop_zero, List.take_nil, List.drop_nil, Nat.zero_add, Nat.reduceAdd, Nat.reduceMul, Int.reduceToNat, wF, List.getElem?_cons_succ, List.getElem?_cons_zero]
 have hEB := imp_bd hf hl bx bA bT
 have cbB : ∀ i (h : i < x.length), CpL 9000 [(xF f (vW x.length) t)[i]'(by omega)] := fun i h => cp_mem ((tO (sI hf (show _ = (vW x.length).length + 1 by rw [hzl])) (cp_zeros _) bT).mono (by decide)) (List.getElem_mem (by omega))
 obtain ⟨M, hM⟩ : ∃ M, M = impM f x a t := ⟨_, rfl⟩
 rw [← hM] at hEB
 have h7 : (List.replicate ((x.length : Int).toNat) [C.nilSl]).flatten = List.replicate x.length C.nilSl := by
  rw [Int.toNat_natCast]
  induction x.length with
  | zero => rfl
  | succ n ih => rw [List.replicate_succ, List.flatten_cons, ih]; rfl
 rw [h7]
 refine yT (fun w vs H => ∃ (i : Nat) (bx : Nat → Nat) (ds : Nat → List C), vs = [.c cx, .c (.ptr 0 0), .c (.ptr 1 0), .c (.ptr 2 0), i64 x.length, .c (.sl 3 0 x.length (some x.length) 6), .c cb, .c (.sl 4 0 x.length (some x.length) 1), i64 x.length, i64 i] ∧ w = x.length - i ∧ i ≤ x.length ∧ HI H (.live ⟨[cf, a0, a1, a2, a3, a4, a5], vO, .rw⟩) (.live ⟨[b0, b1, b2, b3, b4, b5], yZ, .rw⟩) (.live ⟨[d0, d1, d2, d3, d4, d5], yZ, .rw⟩) (.live ⟨cells, yZ, .ro⟩) ∧ (∀ l, l < i → 4 < bx l) ∧ MtP 2097152 4 bx ds H i x.length (x.length + 1) (fun i' j' => i' < i ∧ j' = x.length) M) (by rfl) ⟨0, fun _ => 0, fun _ => [], rfl, rfl, by omega, ⟨rfl, rfl, rfl, rfl⟩, fun l h => by omega, .start rfl⟩ ?_
 rintro w vs H ⟨i, bx', ds, rfl, rfl, i1, hI, i2, hP⟩
 refine go13 ?_
 cases hi : yA Cm.lss (i : Int) (x.length : Int)
 case true =>
  simp [yA] at hi
  have hpl := lt_of_getElem? hP.T
  refine go13 ?_
  rw [xV x.length (by omega)]
  refine vT (by rfl) (by rfl) ⟨by omega, by omega, by omega, by omega⟩ ?_
  refine go13 ?_
  have hG := hP.grow (X := [.live ⟨(List.replicate ((x.length + 1 : Nat) : Int).toNat bH).flatten, yZ, .rw⟩])
  refine yS hG.T (by rfl) (by rfl) (by simp; omega) ?_
  have hN := hG.next (b := H.length) hi (yJ _ _) (fun l hl => by have := lt_of_getElem? (hP.row l hl); omega) (by omega) (by simp [bH]) (fun j h => by omega)
  have hIN := (hI.grow (X := [.live ⟨(List.replicate ((x.length + 1 : Nat) : Int).toNat bH).flatten, yZ, .rw⟩])).set (p := 4) (x := .live ⟨splice ((List.range i).map (rowQ bx' (fun _ => some (x.length + 1)) (x.length + 1)) ++ List.replicate (x.length - i) .nilSl) i [.sl H.length 0 (x.length + 1) (some (x.length + 1)) 6], qM, .rw⟩) (by omega)
  rw [show 0 + (i : Int).toNat * 1 = i by omega]
  have hge : ∀ l, l < i + 1 → 4 < (fun l => if l = i then H.length else bx' l) l := fun l hl => by
   simp only
   split
   ·omega
   ·exact i2 l (by omega)
  generalize (fun l => if l = i then H.length else bx' l) = bx2 at hN hge
  generalize (fun l => if l = i then (List.replicate ((x.length + 1 : Nat) : Int).toNat bH).flatten else ds l) = ds2 at hN
  refine go13 ?_
  refine hN.ldT (i := i) (by omega) (by omega) ?_
  refine go13 ?_
  refine qD hx (i := i) hi (by omega) rfl (fun e1 he1 => ?_)
  refine go13 ?_
  refine yI hIN.a (by rfl) ?_
  refine go13 ?_
  refine qD lb (i := i) (by omega) (by omega) rfl (fun e2 he2 => ?_)
  refine go13 ?_
  first | refine yE (uC ha he2 (by decide)) (fun u hu => ?_) | refine yB (uC ha he2 (by decide)) (fun u hu => ?_)
  obtain ⟨e3, rfl, he3⟩ := hu
  refine go13 ?_
  first | refine yE (tL he1 he3 (by decide)) (fun u hu => ?_) | refine yB (tL he1 he3 (by decide)) (fun u hu => ?_)
  obtain ⟨e4, rfl, he4⟩ := hu
  have hval : x[i] + a * (xF f (vW x.length) t)[i]'(by omega) = M i x.length := by rw [hM]; exact (imp_last hi hbl).symm
  rw [hval] at he4
  have he4 := he4.tightS ((hEB i x.length hi (Nat.le_refl _)).to (show 2400 ≤ 2097152 by decide))
  obtain ⟨_, _, _, _, _, _, rfl⟩ := id he4.six
  refine go13 ?_
  refine hN.st (i := i) (j := x.length) (by omega) (by omega) (by omega) (by rfl) (by rfl) ?_
  have hP2 := hN.put (i := i) (j := x.length) (by omega) (by omega) he4
  have hb4 := hge i (by omega)
  refine go13 ?_
  rw [xV i (by omega)]
  exact l_n (by rfl) (n' := x.length - (i + 1)) (by omega) ⟨i + 1, bx2, _, rfl, rfl, by omega, hIN.set (by omega), hge, hP2.weak (fun i' j' h1 h2 h3 => by
   rcases Nat.lt_or_ge i' i with h | h
   ·exact .inl ⟨h, h3.2⟩
   ·exact .inr ⟨by omega, h3.2⟩)⟩
 simp [yA] at hi
 have ei : i = x.length := by omega
 subst ei
 refine go13 ?_
 refine yT (fun w vs H => ∃ (k : Nat) (bx : Nat → Nat) (ds : Nat → List C), vs = [.c (.ptr 0 0), .c (.ptr 1 0), .c (.ptr 2 0), i64 x.length, .c (.sl 3 0 x.length (some x.length) 6), .c cb, .c (.sl 4 0 x.length (some x.length) 1), i64 x.length, i64 k] ∧ w = x.length - k ∧ k ≤ x.length ∧ HI H (.live ⟨[cf, a0, a1, a2, a3, a4, a5], vO, .rw⟩) (.live ⟨[b0, b1, b2, b3, b4, b5], yZ, .rw⟩) (.live ⟨[d0, d1, d2, d3, d4, d5], yZ, .rw⟩) (.live ⟨cells, yZ, .ro⟩) ∧ (∀ l, l < x.length → 4 < bx l) ∧ MtP 2097152 4 bx ds H x.length x.length (x.length + 1) (fun i' j' => j' = x.length ∨ j' < k) M) (by rfl) ⟨0, bx', ds, rfl, rfl, by omega, hI, i2, hP.weak (fun i' j' h1 h2 h3 => ⟨h1, by omega⟩)⟩ ?_
 clear hP i2 hI i1 bx' ds
 rintro w vs H ⟨k, bx', ds, rfl, rfl, k1, hI, k2, hP⟩
 refine go13 ?_
 cases hk : yA Cm.lss (k : Int) (x.length : Int)
 case false =>
  simp [yA] at hk
  have ek : k = x.length := by omega
  subst ek
  have hF := hP.full (fun i' j' h1 h2 => by omega)
  refine go13 ?_
  refine step_gauss hF (by omega) (gb_of hEB h3 (by decide)) (fun v H' hg => ?_)
  rcases hg with ⟨hs, rfl⟩ | ⟨y, b, yc, hs, rfl, hb, hE⟩
  ·refine go13 ?_
   exact ⟨_, .tup (.cons (.c (.hf trivial)) (.cons (.c (.hf trivial)) .nil)), .inr ⟨by unfold sX; rw [← hM]; exact hs, rfl⟩⟩
  ·have hyl : y.length = x.length := by
    unfold gD at hs
    cases hg2 : tT x.length M x.length with
    | none => rw [hg2] at hs; cases hs
    | some R =>
     rw [hg2] at hs
     simp at hs
     subst hs
     simp
   have hlen := hE.len
   have ly := Ls.imm hE
   rw [hyl] at ly
   refine go13 ?_
   exact ⟨_, .tup (.cons (.c (fz_sl (bx := ⟨yc, yZ, .rw⟩) (ds := yc) hb (by simp) (by simp) (by rw [List.drop_zero, List.take_of_length_le (by simp only; rw [hlen, hyl]; exact Nat.le_refl _)]) hE.hf)) (.cons (.c (.hf trivial)) .nil)), .inl ⟨y, _, by unfold sX; rw [← hM]; exact hs, rfl, ly⟩⟩
 simp [yA] at hk
 have hpl := lt_of_getElem? hP.T
 refine go13 ?_
 refine slices_CloneB hI.z hz hzl.symm (by omega) (fun R c q => ?_)
 obtain ⟨b, co, rfl⟩ := q.isSl (by omega)
 rw [hzl] at q ⊢
 refine go13 ?_
 first | refine yE (vG (g := 1) (by decide)) (fun u hu => ?_) | refine yB (vG (g := 1) (by decide)) (fun u hu => ?_)
 obtain ⟨e1, rfl, g1⟩ := hu
 have g1 : IQ 4194304 e1 1 := g1.up (by decide)
 obtain ⟨_, _, _, _, _, _, rfl⟩ := id g1.six
 refine go13 ?_
 refine q.stS (i := k) (by omega) (by omega) (by rfl) g1 (fun cl q1 q2 q3 => ?_)
 refine go13 ?_
 have hI1 := (hI.grow (X := R)).set (p := b) (x := .live ⟨cl, yZ, .rw⟩) (by omega)
 refine yI hI1.s (by rfl) ?_
 refine go13 ?_
 refine yI hI1.t (by rfl) ?_
 refine go13 ?_
 obtain ⟨cl2, dd, w1, w2, w3⟩ := q3.closeOne
 have w3 : Ls (elQ 4194304) dd (qF x.length k) := w3
 have ccp : CpL 9000 (xF f (qF x.length k) t) := (tO (sI hf (show _ = (qF x.length k).length + 1 by rw [unit_len])) (cp_unit _ _) bT).mono (by decide)
 refine xB [b] (.cons (.agg (.hf ⟨hc.hf, hh.hf⟩)) (.cons (.c w2) (.cons (.agg (.hf ht.hf)) .nil))) (step_rate hc (sI hf (show _ = (qF x.length k).length + 1 by rw [unit_len])) hh w3 ht (by rw [unit_len]; omega) ((cp_unit _ _).append bT) (by decide)) (fun u hu => ?_)
 obtain ⟨cc, rfl, lc⟩ := hu
 have lc : Ls (elQ 4194304) cc (xF f (qF x.length k) t) := lc
 have hcl2 : (xF f (qF x.length k) t).length = x.length := by rw [vU, hl]
 rw [w1, List.set_set]
 have hI2 := (hI.grow (X := R)).set (p := b) (x := .live ⟨cl2, yZ, .ro⟩) (by omega)
 have hP2 := (hP.grow (X := R)).other (p := b) (s := .live ⟨cl2, yZ, .ro⟩) (by omega) (fun l hl => by have := lt_of_getElem? (hP.row l hl); omega)
 refine go13 ?_
 refine yT (fun w vs H => ∃ (i : Nat) (bx : Nat → Nat) (ds : Nat → List C), vs = [.c (.ptr 0 0), .c (.ptr 1 0), .c (.ptr 2 0), i64 x.length, .c (.sl 3 0 x.length (some x.length) 6), .c cb, .c (.sl 4 0 x.length (some x.length) 1), i64 k, .c cc, i64 x.length, i64 k, i64 x.length, i64 i] ∧ w = x.length - i ∧ i ≤ x.length ∧ HI H (.live ⟨[cf, a0, a1, a2, a3, a4, a5], vO, .rw⟩) (.live ⟨[b0, b1, b2, b3, b4, b5], yZ, .rw⟩) (.live ⟨[d0, d1, d2, d3, d4, d5], yZ, .rw⟩) (.live ⟨cells, yZ, .ro⟩) ∧ (∀ l, l < x.length → 4 < bx l) ∧ MtP 2097152 4 bx ds H x.length x.length (x.length + 1) (fun i' j' => j' = x.length ∨ j' < k ∨ (j' = k ∧ i' < i)) M) (by rfl) ⟨0, bx', ds, rfl, rfl, by omega, hI2, k2, hP2.weak (fun i' j' h1 h2 h3 => by omega)⟩ ?_
 clear hP2 hI2 hI1 hP hI k2 bx' ds q q1 q2 q3 w1 w2 hpl
 rintro w vs H ⟨i, bx', ds, rfl, rfl, i1, hI, i2, hP⟩
 refine go13 ?_
 cases hi : yA Cm.lss (i : Int) (x.length : Int)
 case false =>
  simp [yA] at hi
  refine go13 ?_
  rw [xV k (by omega)]
  exact l_n (by rfl) (n' := x.length - (k + 1)) (by omega) ⟨k + 1, bx', ds, rfl, rfl, by omega, hI, i2, hP.weak (fun i' j' h1 h2 h3 => by omega)⟩
 simp [yA] at hi
 have hpl := lt_of_getElem? hP.T
 have hIg := hI.grow (X := List.replicate (0 + 1) .unb)
 refine go13 ?_
 refine yI hIg.a (by rfl) ?_
 refine go13 ?_
 refine qD lc (i := i) (by omega) (by omega) rfl (fun e1 he1 => ?_)
 refine go13 ?_
 refine qD lb (i := i) (by omega) (by omega) rfl (fun e2 he2 => ?_)
 refine go13 ?_
 refine pX (T := some H.length) (by rfl) (logOk_low (n := H.length) ⟨trivial, trivial, trivial, trivial, trivial, trivial, trivial, trivial, show 1 < H.length by omega, trivial⟩) ?_
 refine bI ?_
 refine go13 ?_
 first | refine yE (q_Sub2 he1 he2 (by decide)) (fun u hu => ?_) | refine yB (q_Sub2 he1 he2 (by decide)) (fun u hu => ?_)
 obtain ⟨e3, rfl, he3⟩ := hu
 refine go13 ?_
 first | refine yE (uC ha he3 (by decide)) (fun u hu => ?_) | refine yB (uC ha he3 (by decide)) (fun u hu => ?_)
 obtain ⟨e4, rfl, he4⟩ := hu
 refine go13 ?_
 first | refine yE (q_Neg he4 (by decide)) (fun u hu => ?_) | refine yB (q_Neg he4 (by decide)) (fun u hu => ?_)
 obtain ⟨e5, rfl, he5⟩ := hu
 obtain ⟨u0, u1, u2, u3, u4, u5, rfl⟩ := id he5.six
 have hbd := (hEB i k hi (by omega)).to (show 2400 ≤ 2097152 by decide)
 have hcol := imp_col (a := a) (t := t) hi hk hbl hcl2
 rw [← hM] at hcol
 refine go13 ?_
 simp only [tN, tM, ratC, tY, tX, List.set_cons_zero, List.set_cons_succ, List.nil_append, List.cons_append, List.append_nil, List.replicate_succ, List.replicate_zero, List.length_cons, List.length_nil, splice, List.take_succ_cons, List.take_zero, List.drop_succ_cons, List.drop_zero, List.take_nil, List.drop_nil, Nat.zero_add, Nat.reduceAdd, Nat.reduceMul, Int.reduceToNat, wF, List.getElem?_cons_succ, List.getElem?_cons_zero]
 cases hik : yA Cm.eql (i : Int) (k : Int)
 case true =>
  simp [yA] at hik
  have hik : i = k := by omega
  rw [if_pos hik] at hcol
  refine go13 ?_
  first | refine yE (vG (g := 1) (by decide)) (fun u hu => ?_) | refine yB (vG (g := 1) (by decide)) (fun u hu => ?_)
  obtain ⟨e6, rfl, he6⟩ := hu
  refine go13 ?_
  first | refine yE (tL he5 he6 (by decide)) (fun u hu => ?_) | refine yB (tL he5 he6 (by decide)) (fun u hu => ?_)
  obtain ⟨e7, rfl, he7⟩ := hu
  have hv : -(a * ((xF f (qF x.length k) t)[i]'(by omega) - (xF f (vW x.length) t)[i]'(by omega))) + ((1 : Int) : Rat) = M i k := by rw [hcol]; rfl
  rw [hv] at he7
  have he7 := he7.tightS hbd
  obtain ⟨v0, v1, v2, v3, v4, v5, rfl⟩ := id he7.six
  refine go13 ?_
  simp only [tN, tM, ratC, tY, tX, List.set_cons_zero, List.set_cons_succ, List.nil_append, List.cons_append, List.append_nil, List.replicate_succ, List.replicate_zero, List.length_cons, List.length_nil, splice, List.take_succ_cons, List.take_zero, List.drop_succ_cons, List.drop_zero, List.take_nil, List.drop_nil, Nat.zero_add, Nat.reduceAdd, Nat.reduceMul, Int.reduceToNat, wF, List.getElem?_cons_succ, List.getElem?_cons_zero]
  have hPg := hP.grow (X := [.live ⟨[v0, v1, v2, v3, v4, v5], yZ, .rw⟩])
  have hIg2 := hI.grow (X := [.live ⟨[v0, v1, v2, v3, v4, v5], yZ, .rw⟩])
  refine hPg.ldT (i := i) hi (by omega) ?_
  refine go13 ?_
  refine hPg.st (i := i) (j := k) hi (by omega) (by omega) (by rfl) (by rfl) ?_
  have hP3 := hPg.put (i := i) (j := k) hi (by omega) he7
  have hb4 := i2 i hi
  refine go13 ?_
  rw [xV i (by omega)]
  exact l_n (by rfl) (n' := x.length - (i + 1)) (by omega) ⟨i + 1, bx', _, rfl, rfl, by omega, hIg2.set (by omega), i2, hP3.weak (fun i' j' h1 h2 h3 => by omega)⟩
 simp [yA] at hik
 have hik : i ≠ k := by omega
 rw [if_neg hik] at hcol
 rw [← hcol] at he5
 have he7 := he5.tightS hbd
 obtain ⟨v0, v1, v2, v3, v4, v5, hvv⟩ : ∃ v0 v1 v2 v3 v4 v5, [u0, u1, u2, u3, u4, u5] = [v0, v1, v2, v3, v4, v5] := ⟨_, _, _, _, _, _, rfl⟩
 rw [hvv] at he7 ⊢
 refine go13 ?_
 have hPg := hP.grow (X := [.live ⟨[v0, v1, v2, v3, v4, v5], yZ, .rw⟩])
 have hIg2 := hI.grow (X := [.live ⟨[v0, v1, v2, v3, v4, v5], yZ, .rw⟩])
 refine hPg.ldT (i := i) hi (by omega) ?_
 refine go13 ?_
 refine hPg.st (i := i) (j := k) hi (by omega) (by omega) (by rfl) (by rfl) ?_
 have hP3 := hPg.put (i := i) (j := k) hi (by omega) he7
 have hb4 := i2 i hi
 refine go13 ?_
 rw [xV i (by omega)]
 exact l_n (by rfl) (n' := x.length - (i + 1)) (by omega) ⟨i + 1, bx', _, rfl, rfl, by omega, hIg2.set (by omega), i2, hP3.weak (fun i' j' h1 h2 h3 => by omega)⟩
end Go.Proofs.YtokckcnfojjpjaaGreat

set_option linter.unusedVariables false
set_option linter.unusedSimpArgs false
namespace Go.Proofs.YtokckcnfojjpjaaGreat
open Go.RowKit
set_option maxRecDepth 20000
attribute [local irreducible] yA semH semC qLen qNil qIad qSlc qIdx yW yL xD appX appI slcX awpF yP xI xopF xR qval lval seqQ xL wJ wI xW cnd arith IntKind.wrap
section
variable {cf cx : C} {ch ct : List C} {f : List Pl} {x : List Rat} {h t : Rat}
theorem step_imp5 (hi : qW cf cx ch ct f x h t) : semC Tryz.prog n_step_method_5 [.agg (cf :: ch), .c cx, .agg ct] (OneK (sX f x h (t + h))) := by
 refine yD ok_step_method_5 rfl hi.hfv ?_
 have h3 := hi.x3
 obtain ⟨a0, a1, a2, a3, a4, a5, rfl⟩ := id hi.hh.six
 obtain ⟨b0, b1, b2, b3, b4, b5, rfl⟩ := id hi.ht.six
 have ct' : CpL 140 [t + h] := (bC hi.bt hi.bh).mono (by decide)
 refine go11 ?_
 first | refine yE (tL hi.ht hi.hh (by decide)) (fun u hu => ?_) | refine yB (tL hi.ht hi.hh (by decide)) (fun u hu => ?_)
 obtain ⟨r3, rfl, g3⟩ := hu
 have g3 := g3.tightS (ct'.bd (k := 4194304) (by decide) (by simp))
 refine go11 ?_
 first | refine yE (jP hi.hc hi.hf hi.hl hi.hh hi.hx hi.hh g3 (hi.bx.mono (by decide)) (hi.bh.mono (by decide)) ct') (fun u hu => ?_) | refine yB (jP hi.hc hi.hf hi.hl hi.hh hi.hx hi.hh g3 (hi.bx.mono (by decide)) (hi.bh.mono (by decide)) ct') (fun u hu => ?_)
 rcases hu with ⟨y, cy, hy, rfl, ly⟩ | ⟨hy, rfl⟩
 ·refine go11 ?_
  rw [hy]
  exact OneK.fz ly
 ·refine go11 ?_
  rw [hy]
  exact ⟨_, .tup (.cons (.c (.hf trivial)) (.cons (.c (.hf trivial)) .nil)), .inr ⟨rfl, rfl⟩⟩
theorem step_imp6 {hs : List C} (hi : qW cf cx ch ct f x h t) (hhs : IQ 1 hs vM) : semC Tryz.prog n_step_method_6 [.agg (cf :: ch), .c cx, .agg ct, .c (.ipt hs)] (OneK (gM f h t x)) := by
 refine yD ok_step_method_6 rfl (show HFVs [.agg (cf :: ch), .c cx, .agg ct, .c (.ipt hs)] from ⟨⟨hi.hc.hf, hi.hh.hf⟩, hi.hx.hf, hi.ht.hf, hhs.hf, trivial⟩) ?_
 have h3 := hi.x3
 obtain ⟨a0, a1, a2, a3, a4, a5, rfl⟩ := id hi.hh.six
 obtain ⟨b0, b1, b2, b3, b4, b5, rfl⟩ := id hi.ht.six
 obtain ⟨d0, d1, d2, d3, d4, d5, rfl⟩ := id hhs.six
 have bh2 := pJ hi.bh half_cp
 have c1 : CpL 9720 (xF f x t) := (tO hi.hf hi.bx hi.bt).mono (by decide)
 have n1 : (xF f x t).length = x.length := by rw [vU, hi.hl]
 have c2 : CpL 10500 (xG x (h * vM) (xF f x t)) := (sC hi.bx bh2 c1).mono (by decide)
 have n2 : (xG x (h * vM) (xF f x t)).length = x.length := wT n1
 have ct' : CpL 140 [t + h] := (bC hi.bt hi.bh).mono (by decide)
 refine go11 ?_
 first | refine yE (uC hi.hh hhs (by decide)) (fun u hu => ?_) | refine yB (uC hi.hh hhs (by decide)) (fun u hu => ?_)
 obtain ⟨r5, rfl, g5⟩ := hu
 have g5 := g5.tightS (bh2.bd (k := 4194304) (by decide) (by simp))
 obtain ⟨e0, e1, e2, e3, e4, e5, rfl⟩ := id g5.six
 refine go11 ?_
 first | refine yE (vV hi hi.hx rfl hi.ht hi.bx hi.bt (by decide)) (fun u hu => ?_) | refine yB (vV hi hi.hx rfl hi.ht hi.bx hi.bt (by decide)) (fun u hu => ?_)
 obtain ⟨r1, rfl, l1⟩ := hu
 refine go11 ?_
 first | refine yE (wK (x3 := h3) hi.hx hi.bx g5 bh2 l1 n1 c1 (by decide)) (fun u hu => ?_) | refine yB (wK (x3 := h3) hi.hx hi.bx g5 bh2 l1 n1 c1 (by decide)) (fun u hu => ?_)
 obtain ⟨r2, rfl, l2⟩ := hu
 refine go11 ?_
 first | refine yE (tL hi.ht hi.hh (by decide)) (fun u hu => ?_) | refine yB (tL hi.ht hi.hh (by decide)) (fun u hu => ?_)
 obtain ⟨r3, rfl, g3⟩ := hu
 have g3 := g3.tightS (ct'.bd (k := 4194304) (by decide) (by simp))
 refine go11 ?_
 first | refine yE (jP hi.hc (sI hi.hf (show _ = (xG x (h * vM) (xF f x t)).length + 1 by rw [n2])) (by rw [n2, hi.hl]) hi.hh l2 g5 g3 c2 bh2 ct') (fun u hu => ?_) | refine yB (jP hi.hc (sI hi.hf (show _ = (xG x (h * vM) (xF f x t)).length + 1 by rw [n2])) (by rw [n2, hi.hl]) hi.hh l2 g5 g3 c2 bh2 ct') (fun u hu => ?_)
 rcases hu with ⟨y, cy, hy, rfl, ly⟩ | ⟨hy, rfl⟩
 ·refine go11 ?_
  rw [show gM f h t x = some y from hy]
  exact OneK.fz ly
 ·refine go11 ?_
  rw [show gM f h t x = none from hy]
  exact ⟨_, .tup (.cons (.c (.hf trivial)) (.cons (.c (.hf trivial)) .nil)), .inr ⟨rfl, rfl⟩⟩
end
theorem imp_all (m : Int) : ImpOk m := fun hi _ hhs => ⟨fun _ => step_imp5 hi, fun _ => step_imp6 hi hhs⟩
end Go.Proofs.YtokckcnfojjpjaaGreat

set_option linter.unusedVariables false
set_option linter.unusedSimpArgs false
namespace Go.Proofs.YtokckcnfojjpjaaGreat
open Go.RowKit
set_option maxRecDepth 20000
def elLR : El (List R2) := ⟨fun cs l => ∃ c, cs = [c] ∧ Ls elP c l ∧ l.length < 1048576, 1, fun h => by obtain ⟨c, rfl, _⟩ := h; rfl, fun h => by obtain ⟨c, rfl, h, _⟩ := h; exact ⟨h.hf, trivial⟩⟩
def RunRK (m : Int) (f : List Pl) (t : R2) (x : List R2) (h : R2) (g n : Int) (u : V) : Prop :=
 (RunOk m f t x h g n ∧ ∃ e, runV m f (rt h) (rt t) g (x.map rt) n.toNat = .error e ∧ e ≠ 0 ∧ u = .tup [.c .nilSl, i64 e]) ∨
 (RunOk m f t x h g n ∧ ∃ out c, runV m f (rt h) (rt t) g (x.map rt) n.toNat = .ok out ∧ (∀ l ∈ out, Told f l) ∧ out.length = n.toNat + 1 ∧ u = .tup [.c c, i64 0] ∧ Ls elLR c (out.map fun l => l.map rp)) ∨
 (¬ RunOk m f t x h g n ∧ ∃ e, e ≠ 0 ∧ u = .tup [.c .nilSl, i64 e] ∧ (hZ f → e = qU m f t x h g n))
theorem run_told {m : Int} {f : List Pl} {h t : Rat} {g : Int} {x : List Rat} (hT : Told f x) : ∀ {n : Nat} {out : List (List Rat)}, runV m f h t g x n = .ok out → out.length = n + 1 ∧ ∀ l ∈ out, Told f l
 | 0, out, h1 => by
  cases h1
  exact ⟨rfl, by simpa using hT⟩
 | n + 1, out, h1 => by
  simp only [runV] at h1
  cases h2 : runV m f h t g x n with
  | error e => rw [h2] at h1; cases h1
  | ok o =>
   rw [h2] at h1
   obtain ⟨l1, l2⟩ := run_told hT h2
   simp only [sR] at h1
   have hgl : o.getD n [] = o[n]'(by omega) := by simp [List.getD, l1]
   cases h3 : bR m f h (t + h * ((n : Int) : Rat)) n (o.getD n []) (o.getD (n - 1) []) with
   | none => rw [h3] at h1; cases h1
   | some y =>
    rw [h3] at h1
    simp only at h1
    cases h4 : dec (gE (y.map (rdV g)))
    ·rw [h4] at h1; cases h1
    ·rw [h4] at h1
     simp only [cond_true, Except.ok.injEq] at h1
     subst h1
     have hfit := yH.1 h4
     refine ⟨by simp; omega, fun l hl => ?_⟩
     rcases List.mem_append.1 hl with hl | hl
     ·exact l2 l hl
     ·simp only [List.mem_singleton] at hl
      subst hl
      refine ⟨?_, hfit⟩
      have hy : y.length = (o[n]'(by omega)).length := by
       have hlast := l2 _ (List.getElem_mem (show n < o.length by omega))
       rw [hgl] at h3
       unfold bR at h3
       cases h5 : dec (m = 6 ∧ 0 < n) <;> rw [h5] at h3
       ·exact mStep_len hlast.1.symm h3
       ·cases h3
        rw [wT, wT]
        ·rw [vU, hlast.1]
        ·rw [vU, wT (by rw [vU, hlast.1]), hlast.1]
      rw [List.length_map, hy]
      exact (l2 _ (List.getElem_mem (show n < o.length by omega))).1
theorem told_in {f : List Pl} {x : List R2} (hv : pB x) (hl : x.length = f.length) : Told f (x.map rt) := by
 refine ⟨by simpa using hl, fun q hq => ?_⟩
 obtain ⟨p, hp, rfl⟩ := List.mem_map.1 hq
 have := hv p hp
 rw [this.rp]
 exact this.fit
theorem outs_told {f : List Pl} {l : List Rat} (h : Told f l) : outsR l = (l.map rp, true) := by
 unfold outsR
 rw [yH.2 (show ∀ q ∈ l, fitR (rp q) = true from h.2)]
 rfl
theorem num_two {p : R2} (h : wZ p.1 p.2) : CpL 40 [rt p] := CpL.one h
theorem ld_LR {c : C} {l : List (List R2)} {n i : Nat} {K : V → Prop} (hc : Ls elLR c l) (hi : i < l.length) (hn : n = i) (h : ∀ d, Ls elP d l[i] → K (.c d)) : yL (c.ds.drop (n * 1)) false 1 K := by
 subst hn
 obtain ⟨cs, r, ⟨d, rfl, h1, _⟩, h2⟩ := hc.els.get hi
 have h2 : c.ds.drop (n * 1) = [d] ++ r := h2
 rw [h2]
 exact h d h1
theorem run_first {m : Int} {f : List Pl} {h t : Rat} {g : Int} {x : List Rat} : ∀ {n : Nat} {out : List (List Rat)}, runV m f h t g x n = .ok out → ∃ r, out = x :: r
 | 0, out, h1 => by
  cases h1
  exact ⟨[], rfl⟩
 | n + 1, out, h1 => by
  simp only [runV] at h1
  cases h2 : runV m f h t g x n with
  | error e => rw [h2] at h1; cases h1
  | ok o =>
   rw [h2] at h1
   obtain ⟨r, rfl⟩ := run_first h2
   simp only [sR] at h1
   split at h1
   ·cases h1
   ·rename_i y hy
    cases h4 : dec (gE (y.map (rdV g)))
    ·rw [h4] at h1; cases h1
    ·rw [h4] at h1
     simp only [cond_true, Except.ok.injEq] at h1
     subst h1
     exact ⟨_, rfl⟩
attribute [local irreducible] yA semH semC qLen qNil qIad qSlc qIdx yW yL xD appX appI slcX awpF yP xI xopF xR qval lval seqQ xL wJ wI xW cnd arith IntKind.wrap
theorem step_Run {cf cx : C} {f : List Pl} {x : List R2} (m : Int) (t h : R2) (g n : Int) (hc : Ls elM cf f) (hf : f.length < vE) (hx : Ls elP cx x) (hxl : x.length < vE) (hi : ImpOk m) : semC Tryz.prog n_step_Run [i64 m, .c cf, .agg (ratC t), .c cx, .agg (ratC h), i64 g, i64 n] (RunRK m f t x h g n) := by
 refine yD ok_step_Run rfl (show HFVs [i64 m, .c cf, .agg (ratC t), .c cx, .agg (ratC h), i64 g, i64 n] from ⟨trivial, hc.hf, pH _, hx.hf, pH _, trivial, trivial, trivial⟩) ?_
 refine go13 ?_
 first | refine yE (step_known m t h g n hc hf hx hxl) (fun u hu => ?_) | refine yB (step_known m t h g n hc hf hx hxl) (fun u hu => ?_)
 obtain ⟨e, rfl, k1, k2⟩ := hu
 refine go13 ?_
 rw [jW]
 cases h1 : dec (e ≠ 0)
 case true =>
  have h1 := yH.1 h1
  refine go13 ?_
  refine ⟨_, .tup (.cons (.c (.hf trivial)) (.cons (.c (.hf trivial)) .nil)), .inr (.inr ⟨fun hk => ?_, e, h1, rfl, k1⟩)⟩
  have hv := val_sys hk.sys
  have hS : hZ f := fun p hp t ht => by
   have := ((hv.1.poly p hp).term t ht).len
   have := hv.1.len
   omega
  have e2 := known_ok (m := m) (f := f) (t := t) (x := x) (h := h) (g := g) (n := n) hk.sys ⟨hk.ht, hk.hx, hk.hh⟩ (by have := hk.m0; have := hk.m6; have := hk.hp; have := hk.g0; have := hk.gm; have := hk.n0; have := hk.nm; omega) hk.len (fun h => h.2 (hk.aff h.1))
  rw [k1 hS, e2.1] at h1
  exact h1 rfl
 have h1 : e = 0 := Classical.byContradiction (yM.1 h1)
 have hk := k2 h1
 have hsys := val_sys hk.sys
 have hf3 := hsys.1.len
 have hxl3 := hk.len
 have hT := told_in hk.hx hk.len
 obtain ⟨n', rfl⟩ := Int.eq_ofNat_of_zero_le hk.n0
 have hn60 := hk.nm
 have hgm := hk.gm
 refine go13 ?_
 first | refine yE (q_Of hk.hh) (fun u hu => ?_) | refine yB (q_Of hk.hh) (fun u hu => ?_)
 obtain ⟨r1, rfl, g1⟩ := hu
 obtain ⟨a0, a1, a2, a3, a4, a5, rfl⟩ := id g1.six
 refine go13 ?_
 first | refine yE (q_Of hk.ht) (fun u hu => ?_) | refine yB (q_Of hk.ht) (fun u hu => ?_)
 obtain ⟨r2, rfl, g2⟩ := hu
 refine go13 ?_
 first | refine yE (num_In hx hk.hx (by omega)) (fun u hu => ?_) | refine yB (num_In hx hk.hx (by omega)) (fun u hu => ?_)
 obtain ⟨r3, rfl, g3⟩ := hu
 refine go13 ?_
 first | refine yE (step_run (n := n') hc hsys.1 g3 hT (g1.up (by decide)) ((num_two hk.hh).mono (by decide)) (g2.up (by decide)) (num_two hk.ht) hk.m0 hk.m6 (by omega) (by omega) hi hk.aff) (fun u hu => ?_) | refine yB (step_run (n := n') hc hsys.1 g3 hT (g1.up (by decide)) ((num_two hk.hh).mono (by decide)) (g2.up (by decide)) (num_two hk.ht) hk.m0 hk.m6 (by omega) (by omega) hi hk.aff) (fun u hu => ?_)
 rcases hu with ⟨e2, hr, he2, rfl⟩ | ⟨out, cl, hr, rfl, hl⟩
 case inl =>
  refine go13 ?_
  rw [jW]
  rw [yH.2 he2]
  refine go13 ?_
  exact ⟨_, .tup (.cons (.c (.hf trivial)) (.cons (.c (.hf trivial)) .nil)), .inl ⟨hk, e2, hr, he2, rfl⟩⟩
 obtain ⟨o1, o2⟩ := run_told hT hr
 refine go13 ?_
 rw [show yA Cm.neq 0 0 = false by simp [yA]]
 refine go13 ?_
 refine yT (fun w vs H => ∃ (i : Nat) (o : C) (R : Hp), vs = [.c o, .c cl, i64 out.length, i64 i] ∧ H = [.live ⟨ratC t, sM, .rw⟩, .live ⟨ratC h, sM, .rw⟩] ++ R ∧ w = out.length - i ∧ i ≤ out.length ∧ Out elLR T_sl_api_Rat 2 H o ((out.take i).map fun l => l.map rp)) (by rfl) ⟨0, _, [], rfl, rfl, rfl, by omega, .nil⟩ ?_
 rintro w vs H ⟨i, o, R, rfl, rfl, rfl, i1, i2⟩
 refine go13 ?_
 cases hi : yA Cm.lss (i : Int) (out.length : Int)
 case false =>
  simp [yA] at hi
  rw [sD (by omega)] at i2
  refine go13 ?_
  obtain ⟨d, f1, l1⟩ := i2.fz (p := (· ≠ .bor)) (by simp)
  exact ⟨_, .tup (.cons (.c f1) (.cons (.c (.hf trivial)) .nil)), .inr (.inl ⟨hk, out, d, hr, o2, o1, rfl, l1⟩)⟩
 simp [yA] at hi
 have htl := o2 _ (vH hi)
 refine go13 ?_
 refine ld_L hl (i := i) hi (by omega) (fun d hd => ?_)
 refine go13 ?_
 first | refine yE (num_Outs hd (by have := htl.1; omega)) (fun u hu => ?_) | refine yB (num_Outs hd (by have := htl.1; omega)) (fun u hu => ?_)
 obtain ⟨c5, l5, rfl⟩ := hu
 rw [outs_told htl] at l5 ⊢
 refine go13 ?_
 refine app_imm (bytes := 24) (E := elLR) (F := [.live ⟨ratC t, sM, .rw⟩, .live ⟨ratC h, sM, .rw⟩]) (R := R) (a := out[i].map rp) rfl i2 (by rfl) (by rfl) rfl ⟨c5, rfl, l5, by rw [List.length_map]; have := htl.1; omega⟩ (by simp only [List.length_map, List.length_take]; omega) (fun R2 o2' q2 => ?_)
 refine go13 ?_
 rw [xV i (by omega)]
 refine l_n (by rfl) (n' := out.length - (i + 1)) (by omega) ⟨i + 1, _, _, rfl, rfl, rfl, by omega, ?_⟩
 rw [vD hi, List.map_append]
 exact q2
def StepRK (m : Int) (f : List Pl) (t : R2) (x : List R2) (h : R2) (g : Int) (u : V) : Prop :=
 (RunOk m f t x h g 1 ∧ ∃ e, runV m f (rt h) (rt t) g (x.map rt) 1 = .error e ∧ e ≠ 0 ∧ u = .tup [.c .nilSl, i64 e]) ∨
 (RunOk m f t x h g 1 ∧ ∃ y c, runV m f (rt h) (rt t) g (x.map rt) 1 = .ok [x.map rt, y] ∧ Told f y ∧ u = .tup [.c c, i64 0] ∧ Ls elP c (y.map rp)) ∨
 (¬ RunOk m f t x h g 1 ∧ ∃ e, e ≠ 0 ∧ u = .tup [.c .nilSl, i64 e] ∧ (hZ f → e = qU m f t x h g 1))
theorem step_Step {cf cx : C} {f : List Pl} {x : List R2} (m : Int) (t h : R2) (g : Int) (hc : Ls elM cf f) (hf : f.length < vE) (hx : Ls elP cx x) (hxl : x.length < vE) (hi : ImpOk m) : semC Tryz.prog n_step_Step [i64 m, .c cf, .agg (ratC t), .c cx, .agg (ratC h), i64 g] (StepRK m f t x h g) := by
 refine yD ok_step_Step rfl (show HFVs [i64 m, .c cf, .agg (ratC t), .c cx, .agg (ratC h), i64 g] from ⟨trivial, hc.hf, pH _, hx.hf, pH _, trivial, trivial⟩) ?_
 refine go13 ?_
 first | refine yE (step_Run m t h g 1 hc hf hx hxl hi) (fun u hu => ?_) | refine yB (step_Run m t h g 1 hc hf hx hxl hi) (fun u hu => ?_)
 rcases hu with ⟨hk, e, hr, he, rfl⟩ | ⟨hk, out, c, hr, ho, hl, rfl, lc⟩ | ⟨hk, e, he, rfl, h1⟩
 ·refine go13 ?_
  rw [jW, yH.2 he]
  refine go13 ?_
  exact ⟨_, .tup (.cons (.c (.hf trivial)) (.cons (.c (.hf trivial)) .nil)), .inl ⟨hk, e, hr, he, rfl⟩⟩
 ·have hl2 : out.length = 2 := hl
  have hr : runV m f (rt h) (rt t) g (x.map rt) 1 = .ok out := hr
  obtain ⟨r, rfl⟩ := run_first hr
  obtain ⟨y, rfl⟩ : ∃ y, r = [y] := by
   match r, hl2 with
   | [y], _ => exact ⟨y, rfl⟩
  obtain ⟨L, hL⟩ : ∃ L : List (List R2), L = [x.map rt, y].map fun l => l.map rp := ⟨_, rfl⟩
  rw [← hL] at lc
  have hLl : L.length = 2 := by rw [hL]; rfl
  refine go13 ?_
  rw [show yA Cm.neq 0 0 = false by simp [yA]]
  refine go13 ?_
  refine ld_LR lc (i := 1) (by omega) (by decide) (fun d hd => ?_)
  have hy : L[1]'(by omega) = y.map rp := by simp [hL]
  rw [hy] at hd
  refine go13 ?_
  exact ⟨_, .tup (.cons (.c (.hf hd.hf)) (.cons (.c (.hf trivial)) .nil)), .inr (.inl ⟨hk, y, d, hr, ho _ (by simp), rfl, hd⟩)⟩
 ·refine go13 ?_
  rw [jW, yH.2 he]
  refine go13 ?_
  exact ⟨_, .tup (.cons (.c (.hf trivial)) (.cons (.c (.hf trivial)) .nil)), .inr (.inr ⟨hk, e, he, rfl, h1⟩)⟩
end Go.Proofs.YtokckcnfojjpjaaGreat

set_option linter.unusedVariables false
set_option linter.unusedSimpArgs false
namespace Go.Proofs.YtokckcnfojjpjaaGreat
open Go.RowKit
set_option maxRecDepth 20000
def TrueK (u : V) : Prop := u = .c (.bool true)
theorem TrueK.fz {H : Hp} : ∃ d, FzV H (.c (.bool true)) d ∧ TrueK d := ⟨_, .c (.hf trivial), rfl⟩
def kF : List Pl := [[((1, 1), [1, 0])]]
theorem k_run : classicV kF (rt (1, 1)) (rt (0, 1) + rt (1, 1) * (((0 : Nat) : Int) : Rat)) [rt (24, 1)] = [65] := by decide +kernel
theorem k_val : valS kF = 0 := by
 refine sys_ok (by decide) ?_ ?_
 ·rintro ⟨p, hp, h⟩
  simp [kF] at hp
  subst hp
  rcases h with h | ⟨t, ht, h⟩
  ·simp at h
  ·simp at ht
   subst ht
   rcases h with h | ⟨_, h⟩ <;> simp [sumP] at h
 ·rintro ⟨p, hp, i, hi, h⟩
  simp [kF] at hp
  subst hp
  simp at hi
  subst hi
  rcases h with h | ⟨h, _⟩
  ·rcases h with h | h | h | ⟨k, hk, h⟩
   ·simp [kF] at h
   ·exact h (show wZ 1 1 from ⟨by decide, by decide, by decide, by decide, by decide⟩)
   ·simp at h
   ·simp at hk
    rcases hk with rfl | rfl <;> simp at h
  ·omega
theorem k_ok : RunOk 3 kF (0, 1) [(24, 1)] (1, 1) 0 1 := ⟨k_val, ⟨by decide, by decide, by decide, by decide, by decide⟩, fun p hp => by simp at hp; subst hp; exact ⟨by decide, by decide, by decide, by decide, by decide⟩, ⟨by decide, by decide, by decide, by decide, by decide⟩, by decide, by decide, by decide, by decide, by decide, by decide, by decide, by decide, by rintro (h | h) <;> cases h⟩
theorem k_runV : runV 3 kF (rt (1, 1)) (rt (0, 1)) 0 [rt (24, 1)] 1 = .ok [[rt (24, 1)], [65]] := by
 have h1 : bR 3 kF (rt (1, 1)) (rt (0, 1) + rt (1, 1) * (((0 : Nat) : Int) : Rat)) 0 [rt (24, 1)] [rt (24, 1)] = some [65] := by
  unfold bR
  rw [yM.2 (by omega)]
  simp only [cond_false]
  rw [one_3, k_run]
 have h2 : rdV 0 65 = 65 := rd_none (by decide)
 have h3 : gE ([65].map (rdV 0)) := by
  intro q hq
  simp only [List.map_cons, List.map_nil, List.mem_singleton] at hq
  subst hq
  rw [h2]
  unfold fitR
  exact yH.2 (by decide +kernel)
 show sR 3 kF (rt (1, 1)) (rt (0, 1)) 0 0 [[rt (24, 1)]] = _
 unfold sR
 simp only [List.getD_cons_zero, Nat.zero_sub]
 rw [h1]
 simp only
 rw [yH.2 h3]
 simp [h2]
theorem imp3 {m : Int} (h : m ≠ 4) (h2 : m ≠ 5) : ImpOk m := fun _ _ _ => ⟨fun e => absurd e h, fun e => absurd e h2⟩
theorem k_elM : Ls elM (.imm 1 [.imm 1 [iC 1, iC 1, .imm 2 [iC 1, iC 0]]]) kF := by
 have h1 : Ls elI (.imm 2 [iC 1, iC 0]) [1, 0] := .imm (.cons (E := elI) (a := 1) (cs := [iC 1]) ⟨rfl, by decide, by decide⟩ (.one (E := elI) (a := 0) ⟨rfl, by decide, by decide⟩))
 have h2 : Ls elT (.imm 1 [iC 1, iC 1, .imm 2 [iC 1, iC 0]]) [((1, 1), [1, 0])] := .imm (.one (E := elT) (a := ((1, 1), [1, 0])) ⟨_, rfl, h1, by decide⟩)
 exact .imm (.one (E := elM) (a := [((1, 1), [1, 0])]) ⟨_, rfl, h2, by decide⟩)
theorem k_x : Ls elP (.imm 1 [iC 24, iC 1]) [(24, 1)] := .imm (.one (E := elP) (a := (24, 1)) rfl)
attribute [local irreducible] yA semH semC qLen qNil qIad qSlc qIdx yW yL xD appX appI slcX awpF yP xI xopF xR qval lval seqQ xL wJ wI xW cnd arith IntKind.wrap
theorem vQ : semC Tryz.prog n_law19_known [] TrueK := by
 refine yD ok_law19_known rfl (show HFVs [] from trivial) ?_
 refine go13 ?_
 simp only [tN, tM, ratC, tY, tX, List.set_cons_zero, List.set_cons_succ, List.nil_append, List.cons_append, List.append_nil, List.replicate_succ, List.replicate_zero, List.length_cons, List.length_nil, splice, List.take_succ_cons, List.take_zero, List.drop_succ_cons, List.drop_zero, List.take_nil, List.drop_nil, Nat.zero_add, Nat.reduceAdd, Nat.reduceMul, Int.reduceToNat, wF, List.getElem?_cons_succ, List.getElem?_cons_zero]
 first | refine yE (step_Step 3 (0, 1) (1, 1) 0 k_elM (by decide) k_x (by decide) (imp3 (by decide) (by decide))) (fun u hu => ?_) | refine yB (step_Step 3 (0, 1) (1, 1) 0 k_elM (by decide) k_x (by decide) (imp3 (by decide) (by decide))) (fun u hu => ?_)
 rcases hu with ⟨_, e, hr, _⟩ | ⟨_, y, c, hr, hT, rfl, hc⟩ | ⟨hn, _⟩
 ·have hr : runV 3 kF (rt (1, 1)) (rt (0, 1)) 0 [rt (24, 1)] 1 = .error e := hr
  rw [k_runV] at hr
  cases hr
 ·have hr : runV 3 kF (rt (1, 1)) (rt (0, 1)) 0 [rt (24, 1)] 1 = .ok [[rt (24, 1)], y] := hr
  rw [k_runV] at hr
  simp only [Except.ok.injEq, List.cons.injEq, and_true, true_and] at hr
  subst hr
  obtain ⟨L, hL⟩ : ∃ L : List R2, L = [65].map rp := ⟨_, rfl⟩
  rw [← hL] at hc
  have hl : L = [(65, 1)] := by rw [hL]; decide +kernel
  have hLl : L.length = 1 := by rw [hl]; rfl
  refine go13 ?_
  rw [show yA Cm.eql (L.length : Int) 1 = true by rw [hLl]; simp [yA]]
  refine go13 ?_
  refine qD hc (i := 0) (by omega) (by decide) rfl (fun cs hcs => ?_)
  have h0 : L[0]'(by omega) = (65, 1) := by simp [hl]
  rw [h0] at hcs
  obtain rfl := (show cs = ratC (65, 1) from hcs)
  refine go13 ?_
  rw [show yA Cm.eql 0 0 = true by simp [yA]]
  exact TrueK.fz
 ·exact absurd k_ok hn
end Go.Proofs.YtokckcnfojjpjaaGreat

set_option linter.unusedVariables false
set_option linter.unusedSimpArgs false
namespace Go.Proofs.YtokckcnfojjpjaaGreat
open Go.RowKit
set_option maxRecDepth 20000
def fr (a b : Int) : Rat := (a : Rat) / (b : Rat)
def oneQ : Rat := ((1 : Int) : Rat)
def tI (m : Int) : List Rat × List Rat :=
 if m = 0 then ([oneQ, oneQ], [oneQ]) else if m = 1 ∨ m = 2 then ([oneQ, oneQ, fr 1 2], [oneQ]) else
  if m = 3 then ([oneQ, oneQ, fr 1 2, fr 1 6, fr 1 24], [oneQ]) else if m = 4 then ([oneQ], [oneQ, ((-1 : Int) : Rat)]) else ([oneQ, fr 1 2], [oneQ, fr (-1) 2])
def GroK (E : El Rat) (m : Int) (u : V) : Prop := ∃ c d, u = .tup [.c c, .c d] ∧ Ls E c (tI m).1 ∧ Ls E d (tI m).2
theorem GroK.of {E : El Rat} {m : Int} {c d : C} {p q : List Rat} {H : Hp} (h : tI m = (p, q)) (hc : Ls E c p) (hd : Ls E d q) : ∃ e, FzV H (.tup [.c c, .c d]) e ∧ GroK E m e := ⟨_, .tup (.cons (.c (.hf hc.hf)) (.cons (.c (.hf hd.hf)) .nil)), c, d, rfl, by rw [h]; exact hc, by rw [h]; exact hd⟩
def grR (m : Int) : List R2 × List R2 × Int := if m < 0 ∨ 6 < m then ([], [], 1) else if m = 6 then ([], [], 6) else ((tI m).1.map rp, (tI m).2.map rp, 0)
def GrK (m : Int) (u : V) : Prop := ∃ c d, u = .tup [.c c, .c d, i64 (grR m).2.2] ∧ Ls elP c (grR m).1 ∧ Ls elP d (grR m).2.1
theorem GrK.of {m e : Int} {c d : C} {p q : List R2} {H : Hp} (h : grR m = (p, q, e)) (hc : Ls elP c p) (hd : Ls elP d q) : ∃ a, FzV H (.tup [.c c, .c d, i64 e]) a ∧ GrK m a := ⟨_, .tup (.cons (.c (.hf hc.hf)) (.cons (.c (.hf hd.hf)) (.cons (.c (.hf trivial)) .nil))), c, d, by rw [h]; rfl, by rw [h]; exact hc, by rw [h]; exact hd⟩
def ordR (m : Int) : Int × Int := if m = 0 ∨ m = 4 then (1, 0) else if m = 1 ∨ m = 2 ∨ m = 5 ∨ m = 6 then (2, 0) else if m = 3 then (4, 0) else (0, 1)
def OrdK (m : Int) (u : V) : Prop := u = .tup [i64 (ordR m).1, i64 (ordR m).2]
theorem OrdK.of {m a b : Int} {H : Hp} (h : ordR m = (a, b)) : ∃ d, FzV H (.tup [i64 a, i64 b]) d ∧ OrdK m d := ⟨_, .tup (.cons (.c (.hf trivial)) (.cons (.c (.hf trivial)) .nil)), by unfold OrdK; rw [h]; rfl⟩
def absV (q : Rat) : Rat := if q < 0 then -q else q
noncomputable def stabR (m : Int) (z : R2) : Bool × Int :=
 bif dec (m < 0 ∨ 6 < m ∨ ¬ wZ z.1 z.2) then (false, 1) else bif dec (m = 6) then (false, 6) else bif dec (ev (tI m).2 (rt z) = 0) then (false, 4) else
  (dec (absV (ev (tI m).1 (rt z) / ev (tI m).2 (rt z)) ≤ ((1 : Int) : Rat)), 0)
def StabK (m : Int) (z : R2) (u : V) : Prop := u = .tup [.c (.bool (stabR m z).1), i64 (stabR m z).2]
theorem StabK.of {m e : Int} {z : R2} {b : Bool} {H : Hp} (h : stabR m z = (b, e)) : ∃ d, FzV H (.tup [.c (.bool b), i64 e]) d ∧ StabK m z d := ⟨_, .tup (.cons (.c (.hf trivial)) (.cons (.c (.hf trivial)) .nil)), by unfold StabK; rw [h]; rfl⟩
theorem grow_fit (m : Int) : gE (tI m).1 ∧ gE (tI m).2 := by
 have f : ∀ q ∈ [oneQ, fr 1 2, fr 1 6, fr 1 24, ((-1 : Int) : Rat), fr (-1) 2], fitR (rp q) = true := by
  intro q hq
  unfold fitR
  refine yH.2 ?_
  simp only [List.mem_cons, List.not_mem_nil, or_false] at hq
  rcases hq with rfl | rfl | rfl | rfl | rfl | rfl <;> decide +kernel
 unfold tI
 constructor <;> (repeat' split) <;> (intro q hq; refine f q ?_; simp only [List.mem_cons, List.not_mem_nil, or_false] at hq ⊢; (try simp_all))
 all_goals (rcases hq with h | h | h | h | h <;> simp_all)
theorem grow_len (m : Int) : (tI m).1.length ≤ 5 ∧ (tI m).2.length ≤ 5 := by
 unfold tI
 constructor <;> (repeat' split) <;> simp
attribute [local irreducible] yA semH semC qLen qNil qIad qSlc qIdx yW yL xD appX appI slcX awpF yP xI xopF xR qval lval seqQ xL wJ wI xW cnd arith IntKind.wrap
theorem step_isMethod (m : Int) : semC Tryz.prog n_step_isMethod [i64 m] (fun u => u = i64 (if m < 0 ∨ 6 < m then 1 else if m = 6 then 6 else 0)) := by
 refine yD ok_step_isMethod rfl (show HFVs [i64 m] from ⟨trivial, trivial⟩) ?_
 refine go13 ?_
 cases h1 : yA Cm.lss m 0
 case true =>
  simp [yA] at h1
  rw [if_pos (.inl h1)]
  refine go13 ?_
  exact ⟨_, .c (.hf trivial), rfl⟩
 simp [yA] at h1
 refine go13 ?_
 cases h2 : yA Cm.gtr m 6
 case true =>
  simp [yA] at h2
  rw [if_pos (.inr h2)]
  refine go13 ?_
  exact ⟨_, .c (.hf trivial), rfl⟩
 simp [yA] at h2
 rw [if_neg (by omega)]
 refine go13 ?_
 cases h3 : yA Cm.eql m 6
 case true =>
  simp [yA] at h3
  rw [if_pos h3]
  refine go13 ?_
  exact ⟨_, .c (.hf trivial), rfl⟩
 simp [yA] at h3
 rw [if_neg h3]
 refine go13 ?_
 exact ⟨_, .c (.hf trivial), rfl⟩
theorem step_growth (m : Int) : semC Tryz.prog n_step_growth [i64 m] (GroK (elQ 1) m) := by
 refine yD ok_step_growth rfl (show HFVs [i64 m] from ⟨trivial, trivial⟩) ?_
 refine go13 ?_
 first | refine yE (vG (g := 1) (by decide)) (fun u hu => ?_) | refine yB (vG (g := 1) (by decide)) (fun u hu => ?_)
 obtain ⟨_, rfl, g0⟩ := hu
 have g0 : IQ 1 _ oneQ := g0
 obtain ⟨_, _, _, _, _, _, rfl⟩ := id g0.six
 have l0 := Ls.imm (Els.one (E := elQ 1) g0)
 refine go13 ?_
 cases h1 : yA Cm.eql m 0
 case true =>
  simp [yA] at h1
  refine go13 ?_
  first | refine yE (vG (g := 1) (by decide)) (fun u hu => ?_) | refine yB (vG (g := 1) (by decide)) (fun u hu => ?_)
  obtain ⟨_, rfl, g1⟩ := hu
  have g1 : IQ 1 _ oneQ := g1
  obtain ⟨_, _, _, _, _, _, rfl⟩ := id g1.six
  refine go13 ?_
  first | refine yE (vG (g := 1) (by decide)) (fun u hu => ?_) | refine yB (vG (g := 1) (by decide)) (fun u hu => ?_)
  obtain ⟨_, rfl, g2⟩ := hu
  have g2 : IQ 1 _ oneQ := g2
  obtain ⟨_, _, _, _, _, _, rfl⟩ := id g2.six
  refine go13 ?_
  exact GroK.of (by simp [tI, h1]) (.imm (.cons (E := elQ 1) g1 (.one (E := elQ 1) g2))) l0
 simp [yA] at h1
 refine go13 ?_
 cases h2 : yA Cm.eql m 1
 case true =>
  simp [yA] at h2
  have hm : m = 1 ∨ m = 2 := .inl h2
  have hm : tI m = ([oneQ, oneQ, fr 1 2], [oneQ]) := by unfold tI; rw [if_neg h1, if_pos hm]
  refine go13 ?_
  first | refine yE (vG (g := 1) (by decide)) (fun u hu => ?_) | refine yB (vG (g := 1) (by decide)) (fun u hu => ?_)
  obtain ⟨_, rfl, g1⟩ := hu
  have g1 : IQ 1 _ oneQ := g1
  obtain ⟨_, _, _, _, _, _, rfl⟩ := id g1.six
  refine go13 ?_
  first | refine yE (vG (g := 1) (by decide)) (fun u hu => ?_) | refine yB (vG (g := 1) (by decide)) (fun u hu => ?_)
  obtain ⟨_, rfl, g2⟩ := hu
  have g2 : IQ 1 _ oneQ := g2
  obtain ⟨_, _, _, _, _, _, rfl⟩ := id g2.six
  refine go13 ?_
  first | refine yE (tZ (a := 1) (b := 2) (by decide) (by decide) (by decide)) (fun u hu => ?_) | refine yB (tZ (a := 1) (b := 2) (by decide) (by decide) (by decide)) (fun u hu => ?_)
  obtain ⟨_, rfl, g3⟩ := hu
  have g3 : IQ 1 _ (fr 1 2) := g3
  obtain ⟨_, _, _, _, _, _, rfl⟩ := id g3.six
  refine go13 ?_
  exact GroK.of hm (.imm (.cons (E := elQ 1) g1 (.cons (E := elQ 1) g2 (.one (E := elQ 1) g3)))) l0
 simp [yA] at h2
 refine go13 ?_
 cases h3 : yA Cm.eql m 2
 case true =>
  simp [yA] at h3
  have hm : m = 1 ∨ m = 2 := .inr h3
  have hm : tI m = ([oneQ, oneQ, fr 1 2], [oneQ]) := by unfold tI; rw [if_neg h1, if_pos hm]
  refine go13 ?_
  first | refine yE (vG (g := 1) (by decide)) (fun u hu => ?_) | refine yB (vG (g := 1) (by decide)) (fun u hu => ?_)
  obtain ⟨_, rfl, g1⟩ := hu
  have g1 : IQ 1 _ oneQ := g1
  obtain ⟨_, _, _, _, _, _, rfl⟩ := id g1.six
  refine go13 ?_
  first | refine yE (vG (g := 1) (by decide)) (fun u hu => ?_) | refine yB (vG (g := 1) (by decide)) (fun u hu => ?_)
  obtain ⟨_, rfl, g2⟩ := hu
  have g2 : IQ 1 _ oneQ := g2
  obtain ⟨_, _, _, _, _, _, rfl⟩ := id g2.six
  refine go13 ?_
  first | refine yE (tZ (a := 1) (b := 2) (by decide) (by decide) (by decide)) (fun u hu => ?_) | refine yB (tZ (a := 1) (b := 2) (by decide) (by decide) (by decide)) (fun u hu => ?_)
  obtain ⟨_, rfl, g3⟩ := hu
  have g3 : IQ 1 _ (fr 1 2) := g3
  obtain ⟨_, _, _, _, _, _, rfl⟩ := id g3.six
  refine go13 ?_
  exact GroK.of hm (.imm (.cons (E := elQ 1) g1 (.cons (E := elQ 1) g2 (.one (E := elQ 1) g3)))) l0
 simp [yA] at h3
 refine go13 ?_
 cases h4 : yA Cm.eql m 3
 case true =>
  simp [yA] at h4
  refine go13 ?_
  first | refine yE (vG (g := 1) (by decide)) (fun u hu => ?_) | refine yB (vG (g := 1) (by decide)) (fun u hu => ?_)
  obtain ⟨_, rfl, g1⟩ := hu
  have g1 : IQ 1 _ oneQ := g1
  obtain ⟨_, _, _, _, _, _, rfl⟩ := id g1.six
  refine go13 ?_
  first | refine yE (vG (g := 1) (by decide)) (fun u hu => ?_) | refine yB (vG (g := 1) (by decide)) (fun u hu => ?_)
  obtain ⟨_, rfl, g2⟩ := hu
  have g2 : IQ 1 _ oneQ := g2
  obtain ⟨_, _, _, _, _, _, rfl⟩ := id g2.six
  refine go13 ?_
  first | refine yE (tZ (a := 1) (b := 2) (by decide) (by decide) (by decide)) (fun u hu => ?_) | refine yB (tZ (a := 1) (b := 2) (by decide) (by decide) (by decide)) (fun u hu => ?_)
  obtain ⟨_, rfl, g3⟩ := hu
  have g3 : IQ 1 _ (fr 1 2) := g3
  obtain ⟨_, _, _, _, _, _, rfl⟩ := id g3.six
  refine go13 ?_
  first | refine yE (tZ (a := 1) (b := 6) (by decide) (by decide) (by decide)) (fun u hu => ?_) | refine yB (tZ (a := 1) (b := 6) (by decide) (by decide) (by decide)) (fun u hu => ?_)
  obtain ⟨_, rfl, g4⟩ := hu
  have g4 : IQ 1 _ (fr 1 6) := g4
  obtain ⟨_, _, _, _, _, _, rfl⟩ := id g4.six
  refine go13 ?_
  first | refine yE (tZ (a := 1) (b := 24) (by decide) (by decide) (by decide)) (fun u hu => ?_) | refine yB (tZ (a := 1) (b := 24) (by decide) (by decide) (by decide)) (fun u hu => ?_)
  obtain ⟨_, rfl, g5⟩ := hu
  have g5 : IQ 1 _ (fr 1 24) := g5
  obtain ⟨_, _, _, _, _, _, rfl⟩ := id g5.six
  refine go13 ?_
  exact GroK.of (by subst h4; simp [tI]) (.imm (.cons (E := elQ 1) g1 (.cons (E := elQ 1) g2 (.cons (E := elQ 1) g3 (.cons (E := elQ 1) g4 (.one (E := elQ 1) g5)))))) l0
 simp [yA] at h4
 refine go13 ?_
 cases h5 : yA Cm.eql m 4
 case true =>
  simp [yA] at h5
  refine go13 ?_
  first | refine yE (vG (g := 1) (by decide)) (fun u hu => ?_) | refine yB (vG (g := 1) (by decide)) (fun u hu => ?_)
  obtain ⟨_, rfl, g1⟩ := hu
  have g1 : IQ 1 _ oneQ := g1
  obtain ⟨_, _, _, _, _, _, rfl⟩ := id g1.six
  refine go13 ?_
  first | refine yE (vG (g := (-1)) (by decide)) (fun u hu => ?_) | refine yB (vG (g := (-1)) (by decide)) (fun u hu => ?_)
  obtain ⟨_, rfl, g2⟩ := hu
  have g2 : IQ 1 _ ((-1 : Int) : Rat) := g2
  obtain ⟨_, _, _, _, _, _, rfl⟩ := id g2.six
  refine go13 ?_
  exact GroK.of (by subst h5; simp [tI]) l0 (.imm (.cons (E := elQ 1) g1 (.one (E := elQ 1) g2)))
 simp [yA] at h5
 refine go13 ?_
 first | refine yE (vG (g := 1) (by decide)) (fun u hu => ?_) | refine yB (vG (g := 1) (by decide)) (fun u hu => ?_)
 obtain ⟨_, rfl, g1⟩ := hu
 have g1 : IQ 1 _ oneQ := g1
 obtain ⟨_, _, _, _, _, _, rfl⟩ := id g1.six
 refine go13 ?_
 first | refine yE (tZ (a := 1) (b := 2) (by decide) (by decide) (by decide)) (fun u hu => ?_) | refine yB (tZ (a := 1) (b := 2) (by decide) (by decide) (by decide)) (fun u hu => ?_)
 obtain ⟨_, rfl, g2⟩ := hu
 have g2 : IQ 1 _ (fr 1 2) := g2
 obtain ⟨_, _, _, _, _, _, rfl⟩ := id g2.six
 refine go13 ?_
 first | refine yE (vG (g := 1) (by decide)) (fun u hu => ?_) | refine yB (vG (g := 1) (by decide)) (fun u hu => ?_)
 obtain ⟨_, rfl, g3⟩ := hu
 have g3 : IQ 1 _ oneQ := g3
 obtain ⟨_, _, _, _, _, _, rfl⟩ := id g3.six
 refine go13 ?_
 first | refine yE (tZ (a := (-1)) (b := 2) (by decide) (by decide) (by decide)) (fun u hu => ?_) | refine yB (tZ (a := (-1)) (b := 2) (by decide) (by decide) (by decide)) (fun u hu => ?_)
 obtain ⟨_, rfl, g4⟩ := hu
 have g4 : IQ 1 _ (fr (-1) 2) := g4
 obtain ⟨_, _, _, _, _, _, rfl⟩ := id g4.six
 refine go13 ?_
 exact GroK.of (by unfold tI; rw [if_neg h1, if_neg (by omega), if_neg h4, if_neg h5]) (.imm (.cons (E := elQ 1) g1 (.one (E := elQ 1) g2))) (.imm (.cons (E := elQ 1) g3 (.one (E := elQ 1) g4)))
theorem gV {k : Nat} {c : C} {m : List Rat} (hc : Ls (elQ k) c m) (hm : m.length < 1048576) : semC Tryz.prog n_num_P_Coefs [.c c] (OutsK m) := by
 refine yD ok_num_P_Coefs rfl (show HFVs [.c c] from ⟨hc.hf, trivial⟩) ?_
 refine go13 ?_
 first | refine yE (num_Outs hc hm) (fun u hu => ?_) | refine yB (num_Outs hc hm) (fun u hu => ?_)
 obtain ⟨d, hd, rfl⟩ := hu
 refine go13 ?_
 exact ⟨_, .tup (.cons (.c (.hf hd.hf)) (.cons (.c (.hf trivial)) .nil)), d, hd, rfl⟩
theorem step_Growth (m : Int) : semC Tryz.prog n_step_Growth [i64 m] (GrK m) := by
 refine yD ok_step_Growth rfl (show HFVs [i64 m] from ⟨trivial, trivial⟩) ?_
 have hl := grow_len m
 have hfit := grow_fit m
 refine go13 ?_
 first | refine yE (step_isMethod m) (fun u hu => ?_) | refine yB (step_isMethod m) (fun u hu => ?_)
 obtain rfl := hu
 refine go13 ?_
 by_cases h1 : m < 0 ∨ 6 < m
 ·rw [if_pos h1]
  rw [show yA Cm.neq 1 0 = true by simp [yA]]
  refine go13 ?_
  exact GrK.of (by unfold grR; rw [if_pos h1]) .nil .nil
 rw [if_neg h1]
 by_cases h2 : m = 6
 ·rw [if_pos h2]
  rw [show yA Cm.neq 6 0 = true by simp [yA]]
  refine go13 ?_
  exact GrK.of (by unfold grR; rw [if_neg h1, if_pos h2]) .nil .nil
 rw [if_neg h2]
 rw [show yA Cm.neq 0 0 = false by simp [yA]]
 refine go13 ?_
 first | refine yE (step_growth m) (fun u hu => ?_) | refine yB (step_growth m) (fun u hu => ?_)
 obtain ⟨c, d, rfl, l1, l2⟩ := hu
 refine go13 ?_
 first | refine yE (gV l1 (by omega)) (fun u hu => ?_) | refine yB (gV l1 (by omega)) (fun u hu => ?_)
 obtain ⟨c1, l3, rfl⟩ := hu
 refine go13 ?_
 first | refine yE (gV l2 (by omega)) (fun u hu => ?_) | refine yB (gV l2 (by omega)) (fun u hu => ?_)
 obtain ⟨c2, l4, rfl⟩ := hu
 rw [show outsR (tI m).1 = ((tI m).1.map rp, true) by unfold outsR; rw [yH.2 (show ∀ q ∈ (tI m).1, fitR (rp q) = true from hfit.1)]; rfl] at l3 ⊢
 rw [show outsR (tI m).2 = ((tI m).2.map rp, true) by unfold outsR; rw [yH.2 (show ∀ q ∈ (tI m).2, fitR (rp q) = true from hfit.2)]; rfl] at l4 ⊢
 refine go13 ?_
 exact GrK.of (by unfold grR; rw [if_neg h1, if_neg h2]) l3 l4
end Go.Proofs.YtokckcnfojjpjaaGreat

set_option linter.unusedVariables false
set_option linter.unusedSimpArgs false
namespace Go.Proofs.YtokckcnfojjpjaaGreat
open Go.RowKit
set_option maxRecDepth 20000
theorem rt_one : rt (1, 1) = 1 := by decide +kernel
theorem gI (x t : Rat) : xF kF [x] t = [x] := by
 simp only [xF, jH, kF, List.map_cons, List.map_nil, polV, List.cons_append, List.nil_append, monV, rt_one]
 have e : (1 : Int).toNat = 1 := rfl
 have e0 : (0 : Int).toNat = 0 := rfl
 rw [e, e0]
 congr 1
 grind
theorem bW (x c k : Rat) : xG [x] c [k] = [x + c * k] := rfl
theorem run_one {m : Int} {f : List Pl} {h t : Rat} {g : Int} {x y : List Rat} (hr : runV m f h t g x 1 = .ok [x, y]) : ∃ z, tE m f h (t + h * (((0 : Nat) : Int) : Rat)) x = some z ∧ y = z.map (rdV g) := by
 have h1 : sR m f h t g 0 [x] = .ok [x, y] := hr
 unfold sR at h1
 simp only [List.getD_cons_zero, Nat.zero_sub] at h1
 have h2 : bR m f h (t + h * (((0 : Nat) : Int) : Rat)) 0 x x = tE m f h (t + h * (((0 : Nat) : Int) : Rat)) x := by
  unfold bR
  rw [yM.2 (by omega)]
  rfl
 rw [h2] at h1
 cases hz : tE m f h (t + h * (((0 : Nat) : Int) : Rat)) x with
 | none => rw [hz] at h1; cases h1
 | some z =>
  rw [hz] at h1
  simp only at h1
  cases hd : dec (gE (z.map (rdV g)))
  ·rw [hd] at h1; cases h1
  ·rw [hd] at h1
   simp only [cond_true, Except.ok.injEq, List.cons_append, List.nil_append, List.cons.injEq, and_true, true_and] at h1
   exact ⟨z, rfl, h1.symm⟩
theorem map_rd0 (z : List Rat) : z.map (rdV 0) = z := by
 conv => rhs; rw [← List.map_id z]
 exact List.map_congr_left fun q _ => rd_none (by decide)
theorem solve_one {M : Mx} {y : List Rat} (h : gD 1 M = some y) : M 0 0 ≠ 0 ∧ y = [M 0 1 / M 0 0] := by
 unfold gD at h
 cases hg : tT 1 M 1 with
 | none => rw [hg] at h; cases h
 | some R =>
  rw [hg] at h
  simp only [Option.map_some, Option.some.injEq] at h
  simp only [tT, Option.bind_some] at hg
  by_cases h0 : M 0 0 = 0
  ·have : gC 1 0 M = none := by
    unfold gC
    rw [yM.2 (fun ⟨p, h1, h2, h3, _⟩ => h3 (by obtain rfl : p = 0 := (by omega); exact h0))]
    rfl
   rw [this] at hg
   cases hg
  ·have hp : gZ M 1 0 0 := ⟨by omega, by omega, h0, fun i h1 h2 => by omega⟩
   have hs : gC 1 0 M = some (jZ (qG M 0 0) 0) := by
    unfold gC
    rw [yH.2 ⟨0, hp⟩]
    have h2 : gZ M 1 0 (Classical.epsilon fun p => gZ M 1 0 p) := Classical.epsilon_spec (p := fun p => gZ M 1 0 p) ⟨0, hp⟩
    have : (Classical.epsilon fun p => gZ M 1 0 p) = 0 := by have := h2.2.1; omega
    rw [this]
    rfl
   rw [hs] at hg
   cases hg
   have e : ∀ j, jZ (qG M 0 0) 0 0 j = M 0 j := fun j => by
    unfold jZ
    rw [yH.2 (.inl rfl)]
    simp [qG]
   refine ⟨h0, ?_⟩
   rw [← h]
   simp [e]
theorem imp_one {f : List Pl} {x a t b0 b1 : Rat} {y : List Rat} (h0 : xF f [0] t = [b0]) (h1 : xF f [1] t = [b1]) (h : sX f [x] a t = some y) : -(a * (b1 - b0)) + 1 ≠ 0 ∧ y = [(x + a * b0) / (-(a * (b1 - b0)) + 1)] := by
 unfold sX at h
 obtain ⟨h2, h3⟩ := solve_one h
 have e0 : xF f (List.replicate [x].length 0) t = [b0] := h0
 have e1 : xF f (qF [x].length 0) t = [b1] := h1
 have m0 : impM f [x] a t 0 0 = -(a * (b1 - b0)) + 1 := by
  unfold impM
  rw [if_pos (show 0 < [x].length from Nat.zero_lt_one), if_pos rfl, e0, e1]
  rfl
 have m1 : impM f [x] a t 0 1 = x + a * b0 := by
  unfold impM
  rw [if_neg (show ¬ 1 < [x].length from Nat.lt_irrefl 1), e0]
  rfl
 have h3 : y = [impM f [x] a t 0 1 / impM f [x] a t 0 0] := h3
 have h2 : impM f [x] a t 0 0 ≠ 0 := h2
 rw [m0] at h2
 rw [m0, m1] at h3
 exact ⟨h2, h3⟩
theorem ev2 (a b x : Rat) : ev [a, b] x = a + x * b := by simp only [ev]; grind
theorem ev3 (a b c x : Rat) : ev [a, b, c] x = a + x * (b + x * c) := by simp only [ev]; grind
theorem ev5 (a b c d e x : Rat) : ev [a, b, c, d, e] x = a + x * (b + x * (c + x * (d + x * e))) := by simp only [ev]; grind
theorem div_mul_eq {a b c : Rat} (hb : b ≠ 0) (h : b = c) : a / b * c = a := by
 rw [← h]
 exact Rat.div_mul_cancel hb
theorem grows_plain {m : Int} {h t x : Rat} {y : List Rat} (h0 : 0 ≤ m) (h5 : m ≤ 5) (hy : tE m kF h t [x] = some y) : ∃ y0, y = [y0] ∧ y0 * ev (tI m).2 h = x * ev (tI m).1 h := by
 have hm : m = 0 ∨ m = 1 ∨ m = 2 ∨ m = 3 ∨ m = 4 ∨ m = 5 := by omega
 rcases hm with rfl | rfl | rfl | rfl | rfl | rfl
 ·rw [one_0] at hy
  cases hy
  refine ⟨x + h * x, by simp only [eulerV, gI, bW], ?_⟩
  show (x + h * x) * ev [oneQ] h = x * ev [oneQ, oneQ] h
  rw [ev_one, ev2]
  unfold oneQ
  grind
 ·rw [one_1] at hy
  cases hy
  refine ⟨x + h * vM * (x + ((1 : Int) : Rat) * (x + h * x)), by simp only [heunV, gI, bW], ?_⟩
  show _ * ev [oneQ] h = x * ev [oneQ, oneQ, fr 1 2] h
  rw [ev_one, ev3]
  unfold oneQ fr vM
  grind
 ·rw [one_2] at hy
  cases hy
  refine ⟨x + h * (x + h * vM * x), by simp only [midV, gI, bW], ?_⟩
  show _ * ev [oneQ] h = x * ev [oneQ, oneQ, fr 1 2] h
  rw [ev_one, ev3]
  unfold oneQ fr vM
  grind
 ·rw [one_3] at hy
  cases hy
  refine ⟨x + h / ((6 : Int) : Rat) * (((x + ((2 : Int) : Rat) * (x + h * vM * x)) + ((2 : Int) : Rat) * (x + h * vM * (x + h * vM * x))) + ((1 : Int) : Rat) * (x + h * (x + h * vM * (x + h * vM * x)))), by simp only [classicV, sumV, k4V, k3V, k2V, k1V, gI, bW], ?_⟩
  show _ * ev [oneQ] h = x * ev [oneQ, oneQ, fr 1 2, fr 1 6, fr 1 24] h
  rw [ev_one, ev5]
  unfold oneQ fr vM
  grind
 ·rw [one_4] at hy
  obtain ⟨h1, rfl⟩ := imp_one (gI 0 _) (gI 1 _) hy
  refine ⟨_, rfl, ?_⟩
  show _ * ev [oneQ, ((-1 : Int) : Rat)] h = x * ev [oneQ] h
  rw [ev_one, ev2, div_mul_eq h1 (by unfold oneQ; grind)]
  unfold oneQ
  grind
 ·rw [one_5] at hy
  unfold gM at hy
  rw [gI, bW] at hy
  obtain ⟨h1, rfl⟩ := imp_one (gI 0 _) (gI 1 _) hy
  refine ⟨_, rfl, ?_⟩
  show _ * ev [oneQ, fr (-1) 2] h = x * ev [oneQ, fr 1 2] h
  rw [ev2, ev2, div_mul_eq h1 (by unfold oneQ fr vM; grind)]
  unfold oneQ fr vM
  grind
end Go.Proofs.YtokckcnfojjpjaaGreat
