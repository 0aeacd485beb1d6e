/-
  Parts of the proof: Tools for rows: tables of arguments opened.
-/
import Derived.Test.YtjncgcnofiaiaaaGreatMg21
import Derived.Test.YtjncgcnofiaiaaaGreatMg20
import Derived.Test.YtjncgcnofiaiaaaGreatMg15
set_option linter.unusedVariables false
set_option linter.unusedSimpArgs false
namespace Go.Proofs.YtjncgcnofiaiaaaGreat
open Go.ChangeShapes Go.WideShapes Go.ChangeAt Go.RowKit Go.Joins
def threeB (P : Program) (t T xL : TypeId) : Bool := match P.underlying t with
 | some (.struct fs) => match fs.toList with
  | [f0, f1, f2] => Go.Deep.oneCellFields P fs && Nat.beq (P.cellsOf t) 3 && isI64 P f0.type && Nat.beq f1.type T && Nat.beq f2.type T
  | _ => false
 | _ => false
theorem threeB_out {P : Program} {t T xL : TypeId} (h : threeB P t T xL = true) : ∃ f0 f1 f2 : Field, P.underlying t = some (.struct #[f0, f1, f2]) ∧ Go.Deep.oneCellFields P #[f0, f1, f2] = true ∧ P.cellsOf t = 3 ∧ P.underlying f0.type = some (.int .i64) ∧ f1.type = T ∧ f2.type = T := by
 unfold threeB at h
 split at h
 ·rename_i fs hfs
  split at h
  ·rename_i f0 f1 f2 hl
   simp only [Bool.and_eq_true] at h
   obtain ⟨⟨⟨⟨h0, h1⟩, h2⟩, h3⟩, h4⟩ := h
   have e : fs = #[f0, f1, f2] := Array.toList_inj.1 hl
   subst e
   exact ⟨f0, f1, f2, hfs, h0, Nat.eq_of_beq_eq_true h1, bT h2, Nat.eq_of_beq_eq_true h3, Nat.eq_of_beq_eq_true h4⟩
  ·cases h
 ·cases h
section
variable {H : Type} {enc : TypeId × Value → H} {P : Program} {w : World} {spare : Nat → Bool} {held : Bool}
theorem open_ratsC {T xL : TypeId} (sl : P.underlying T = some (.slice xL)) (jR : twoB P xL 1 1 2 (isI64 P) = true) {fuel : Nat} {v : Value} {y : DataW H × List MemPlace} (hf : DataW.trod enc P w 0 spare held fuel T [v] = some y) :
  ∃ (l : List R2) (c : C), Ls elP c l ∧ R (cx0 (fun _ => False) w) c v := by
 obtain ⟨f0, f1, hs, o0, o1, k0, k1, hC, i0, i1⟩ := twoB_out jR
 rcases DataW.trod_slice sl hf with ⟨h0, _⟩ | ⟨a, len', cap', elems, rest, n, _, h0, _, _, hl, _, hlen, hel, _⟩
 ·simp at h0
  subst h0
  exact ⟨[], .nilSl, .nil, .nilSl⟩
 ·simp at h0
  subst h0
  have key : ∀ i, ∃ q : R2, i < len' → w.cell? (a.add (i * 2)) = some (.int .i64 q.1) ∧ w.cell? (a.add (i * 2 + 1)) = some (.int .i64 q.2) := by
   intro i
   by_cases hi : i < len'
   ·have he := hel i hi
    rw [List.getElem?_eq_getElem (by omega)] at he
    simp only [Option.bind_eq_some_iff] at he
    obtain ⟨cs, hcs, htr⟩ := he
    obtain ⟨x, y, rfl⟩ := open_two hs o0 o1 k0 k1 hC (bT i0) (bT i1) htr
    rw [hC] at hcs
    refine ⟨(x, y), fun _ => ?_⟩
    obtain ⟨_, _, hg⟩ := World.cells?_some hcs
    have g0 := hg 0 (by decide)
    have g1 := hg 1 (by decide)
    rw [addr_add_add] at g0 g1
    exact ⟨by simpa using g0, by simpa using g1⟩
   ·exact ⟨(0, 0), fun h => absurd h hi⟩
  obtain ⟨f, hf⟩ := Classical.axiomOfChoice key
  obtain ⟨ds, vs, l, h1, h2, h3, h4, h5⟩ := els_row len' (fun i hi => hf i hi)
  refine ⟨l, .imm l.length ds, .imm h2, ?_⟩
  rw [h1]
  exact .imm hl (fun j v hj => ⟨fun h => h.elim, h5 j v hj⟩) h3
theorem open_table {t T xL : TypeId} (tab : threeB P t T xL = true) (sl : P.underlying T = some (.slice xL)) (jR : twoB P xL 1 1 2 (isI64 P) = true) {r : Reach} {b0 : Nat} {v : Value} {d : DataW H} {p : List MemPlace} (hv : Value.okWide P w r b0 t v) (h : DataW.Trod enc P w 0 spare held t v d p) :
  ∃ (kind : Int) (X Y : List R2) (cx cy : C), Ls elP cx X ∧ Ls elP cy Y ∧ RV (cx0 (fun _ => False) w) (.agg [iC kind, cx, cy]) v := by
 obtain ⟨f0, f1, f2, hs, hone, hC, i0, e1, e2⟩ := threeB_out tab
 obtain ⟨v0, v1, v2, y0, y1, y2, n, rfl, _, _, h0, h1, h2⟩ := open_agg3 hs hone hC hv h
 rw [e1] at h1
 rw [e2] at h2
 obtain ⟨k, hk, _⟩ := DataW.trod_int i0 h0
 simp at hk
 subst hk
 obtain ⟨X, cx, hx, rx⟩ := open_ratsC sl jR h1
 obtain ⟨Y, cy, hy, ry⟩ := open_ratsC sl jR h2
 exact ⟨k, X, Y, cx, cy, hx, hy, .agg (.cons (.int _ _) (.cons rx (.cons ry .nil)))⟩
end
theorem table_three : threeB Tryz.prog xR T_sl_api_Rat xL = true := by kernel_rfl
end Go.Proofs.YtjncgcnofiaiaaaGreat

set_option linter.unusedVariables false
set_option linter.unusedSimpArgs false
namespace Go.Proofs.YtjncgcnofiaiaaaGreat
open Go.RowKit
set_option maxRecDepth 20000
theorem go5 {A B : Prop} (k : B) (h : Held B → A := by
 intro hgo
 repeat (first | (refine g_o ?_; first | (refine o_some ?_; try (first | (refine x_q (by rfl) ?_; try (first | refine q_mv (by rfl) ?_ | refine wN (by rfl) ?_ | (refine uJ ?_; try (first | refine vO (by rfl) (by assumption) ?_ | refine wY (by rfl) (by assumption) ?_ | refine wX (by rfl) ?_ | refine xY (by rfl) ?_ | refine xX (by rfl) ?_)) | (refine uL ?_; try (first | refine vP (by rfl) (by rfl) (by assumption) (by omega) (by omega) ?_ | refine wU (by rfl) (by rfl) (by assumption) (by omega) (by omega) ?_ | refine wR (by rfl) (by rfl) (by decide) (by decide) ?_ | refine yH (by rfl) (by rfl) (by decide) (by decide) ?_ | refine wE (by rfl) (by rfl) (by decide) (by decide) ?_ | refine yH (by rfl) (by rfl) (by omega) (by omega) ?_)) | refine q_cm (by rfl) (by rfl) ?_ | refine q_ar (by rfl) (by rfl) (by rfl) ?_ | refine vE (by rfl) ?_ | (refine uP ?_; try (first | refine wF (by rfl) ?_ | refine wG (by rfl) ?_ | refine wZ (by rfl) ?_)) | refine uO (by rfl) (by rfl) ?_ | refine wM (by rfl) ?_ | refine wO (by rfl) ?_ | refine uC (by rfl) (by rfl) (by first | decide | omega) ?_ | refine uG (by rfl) (by rfl) (by first | decide | omega) ?_ | refine uQ (by rfl) (by rfl) ?_ | refine uR (by rfl) (by rfl) (by rfl) ?_ | refine uI (by rfl) ?_ | refine uH (by rfl) ?_ | refine wA (by rfl) (by rfl) ?_ | refine wB (by rfl) (by rfl) ?_ | refine uF ?_ | refine uK ?_ | refine uN (by rfl) (by rfl) ?_ | refine vD (by rfl) (by rfl) ?_ | refine wD (by rfl) ?_ | refine q_mx (by rfl) (by rfl) ?_ | refine q_mn (by rfl) (by rfl) ?_ | refine uM (by rfl) ?_ | refine vF (by rfl) ?_ | refine vG (by rfl) ?_ | refine wC (by rfl) ?_ | refine wP (by rfl) (by rfl) ?_ | refine wQ (by rfl) (by rfl) ?_)) | (refine pR ?_; try (first | (refine uS (by rfl) ?_; try (first | refine yV (by rfl) (by rfl) ?_ | refine yN (by rfl) (by rfl) ?_ | refine yV (yJ _ _) (by rfl) ?_ | refine yN (yJ _ _) (by rfl) ?_)) | (refine uT (by rfl) ?_; try (first | refine vL (by omega) (by omega) ?_ | refine xJ (Nat.le_of_ble_eq_true (by rfl)) ?_ | refine yP (by rfl) (by rfl) (by rfl) (by omega) ?_)))) | refine uD (by rfl) (by rfl) (by rfl) (by rfl) (Nat.le_of_ble_eq_true (by rfl)) ?_ | (refine sK (by rfl) (by rfl) ?_; try (first | refine yP (by rfl) (by rfl) (by rfl) (Nat.le_of_ble_eq_true (by rfl)) ?_ | refine yP (by rfl) (by rfl) (by rfl) (by omega) ?_)) | refine pS (by rfl) (by rfl) ?_ | refine bA (by rfl) (by rfl) ?_ | refine sW ?_ | refine pK (by rfl) ?_ | refine gJ ?_ | refine pQ ?_ | refine sU ?_ | refine sV (by rfl) (by rfl) (by rfl) (by rfl) ?_ | refine tX (by rfl) (by rfl) (by rfl) ?_)) | (refine o_nil ?_; try (first | refine s_n ?_ | refine s_r ?_ | refine s_e ?_ | refine k_n ?_ | refine k_r ?_ | refine k_e (by rfl) ?_ | refine k_o (by rfl) ?_ | refine l_r ?_ | refine l_e ?_ | refine b_r ?_ | refine b_n ?_)) | refine o_guard (by rfl) ?_ | refine gS (by rfl) ?_ | refine o_none ?_ | refine gT (by rfl) ?_) | (refine g_f ?_; first | refine f_seq ?_ | refine f_reg ?_ | (refine f_cond (by rfl) ?_; try (first | refine c_t (by rfl) ?_ | refine c_f (by rfl) ?_)) | refine f_block ?_ | refine f_skip ?_ | refine f_ret ?_ | refine f_exit ?_ | refine f_regD0 ?_ | refine f_regD ?_) | (refine g_s ?_; first | refine s_n ?_ | refine s_r ?_ | refine s_e ?_) | (refine g_d ?_; first | (refine pH (T := none) (by rfl) (by rfl) ?_; try (first | (refine xd_q (by rfl) ?_; try (first | refine q_mv (by rfl) ?_ | refine wN (by rfl) ?_ | (refine uJ ?_; try (first | refine vO (by rfl) (by assumption) ?_ | refine wY (by rfl) (by assumption) ?_ | refine wX (by rfl) ?_ | refine xY (by rfl) ?_ | refine xX (by rfl) ?_)) | (refine uL ?_; try (first | refine vP (by rfl) (by rfl) (by assumption) (by omega) (by omega) ?_ | refine wU (by rfl) (by rfl) (by assumption) (by omega) (by omega) ?_ | refine wR (by rfl) (by rfl) (by decide) (by decide) ?_ | refine yH (by rfl) (by rfl) (by decide) (by decide) ?_ | refine wE (by rfl) (by rfl) (by decide) (by decide) ?_ | refine yH (by rfl) (by rfl) (by omega) (by omega) ?_)) | refine q_cm (by rfl) (by rfl) ?_ | refine q_ar (by rfl) (by rfl) (by rfl) ?_ | refine vE (by rfl) ?_ | (refine uP ?_; try (first | refine wF (by rfl) ?_ | refine wG (by rfl) ?_ | refine wZ (by rfl) ?_)) | refine uO (by rfl) (by rfl) ?_ | refine wM (by rfl) ?_ | refine wO (by rfl) ?_ | refine uC (by rfl) (by rfl) (by first | decide | omega) ?_ | refine uG (by rfl) (by rfl) (by first | decide | omega) ?_ | refine uQ (by rfl) (by rfl) ?_ | refine uR (by rfl) (by rfl) (by rfl) ?_ | refine uI (by rfl) ?_ | refine uH (by rfl) ?_ | refine wA (by rfl) (by rfl) ?_ | refine wB (by rfl) (by rfl) ?_ | refine uF ?_ | refine uK ?_ | refine uN (by rfl) (by rfl) ?_ | refine vD (by rfl) (by rfl) ?_ | refine wD (by rfl) ?_ | refine q_mx (by rfl) (by rfl) ?_ | refine q_mn (by rfl) (by rfl) ?_ | refine uM (by rfl) ?_ | refine vF (by rfl) ?_ | refine vG (by rfl) ?_ | refine wC (by rfl) ?_ | refine wP (by rfl) (by rfl) ?_ | refine wQ (by rfl) (by rfl) ?_)) | (refine tD ?_; try (first | (refine uS (by rfl) ?_; try (first | refine yV (by rfl) (by rfl) ?_ | refine yN (by rfl) (by rfl) ?_ | refine yV (yJ _ _) (by rfl) ?_ | refine yN (yJ _ _) (by rfl) ?_)) | (refine uT (by rfl) ?_; try (first | refine vL (by omega) (by omega) ?_ | refine xJ (Nat.le_of_ble_eq_true (by rfl)) ?_ | refine yP (by rfl) (by rfl) (by rfl) (by omega) ?_)))) | refine wV (by rfl) (by rfl) (by rfl) (by rfl) (Nat.le_of_ble_eq_true (by rfl)) ?_ | (refine vT (by rfl) (by rfl) ?_; try (first | refine yP (by rfl) (by rfl) (by rfl) (Nat.le_of_ble_eq_true (by rfl)) ?_ | refine yP (by rfl) (by rfl) (by rfl) (by omega) ?_)) | refine tE (by rfl) (by rfl) ?_ | refine sC (by rfl) (by rfl) (by rfl) ?_ | refine vY (by rfl) ?_ | refine tO (by rfl) (by rfl) ?_)) | (refine pH (by rfl) (by rfl) ?_; try (first | (refine xd_q (by rfl) ?_; try (first | refine q_mv (by rfl) ?_ | refine wN (by rfl) ?_ | (refine uJ ?_; try (first | refine vO (by rfl) (by assumption) ?_ | refine wY (by rfl) (by assumption) ?_ | refine wX (by rfl) ?_ | refine xY (by rfl) ?_ | refine xX (by rfl) ?_)) | (refine uL ?_; try (first | refine vP (by rfl) (by rfl) (by assumption) (by omega) (by omega) ?_ | refine wU (by rfl) (by rfl) (by assumption) (by omega) (by omega) ?_ | refine wR (by rfl) (by rfl) (by decide) (by decide) ?_ | refine yH (by rfl) (by rfl) (by decide) (by decide) ?_ | refine wE (by rfl) (by rfl) (by decide) (by decide) ?_ | refine yH (by rfl) (by rfl) (by omega) (by omega) ?_)) | refine q_cm (by rfl) (by rfl) ?_ | refine q_ar (by rfl) (by rfl) (by rfl) ?_ | refine vE (by rfl) ?_ | (refine uP ?_; try (first | refine wF (by rfl) ?_ | refine wG (by rfl) ?_ | refine wZ (by rfl) ?_)) | refine uO (by rfl) (by rfl) ?_ | refine wM (by rfl) ?_ | refine wO (by rfl) ?_ | refine uC (by rfl) (by rfl) (by first | decide | omega) ?_ | refine uG (by rfl) (by rfl) (by first | decide | omega) ?_ | refine uQ (by rfl) (by rfl) ?_ | refine uR (by rfl) (by rfl) (by rfl) ?_ | refine uI (by rfl) ?_ | refine uH (by rfl) ?_ | refine wA (by rfl) (by rfl) ?_ | refine wB (by rfl) (by rfl) ?_ | refine uF ?_ | refine uK ?_ | refine uN (by rfl) (by rfl) ?_ | refine vD (by rfl) (by rfl) ?_ | refine wD (by rfl) ?_ | refine q_mx (by rfl) (by rfl) ?_ | refine q_mn (by rfl) (by rfl) ?_ | refine uM (by rfl) ?_ | refine vF (by rfl) ?_ | refine vG (by rfl) ?_ | refine wC (by rfl) ?_ | refine wP (by rfl) (by rfl) ?_ | refine wQ (by rfl) (by rfl) ?_)) | (refine tD ?_; try (first | (refine uS (by rfl) ?_; try (first | refine yV (by rfl) (by rfl) ?_ | refine yN (by rfl) (by rfl) ?_ | refine yV (yJ _ _) (by rfl) ?_ | refine yN (yJ _ _) (by rfl) ?_)) | (refine uT (by rfl) ?_; try (first | refine vL (by omega) (by omega) ?_ | refine xJ (Nat.le_of_ble_eq_true (by rfl)) ?_ | refine yP (by rfl) (by rfl) (by rfl) (by omega) ?_)))) | refine wV (by rfl) (by rfl) (by rfl) (by rfl) (Nat.le_of_ble_eq_true (by rfl)) ?_ | (refine vT (by rfl) (by rfl) ?_; try (first | refine yP (by rfl) (by rfl) (by rfl) (Nat.le_of_ble_eq_true (by rfl)) ?_ | refine yP (by rfl) (by rfl) (by rfl) (by omega) ?_)) | refine tE (by rfl) (by rfl) ?_ | refine sC (by rfl) (by rfl) (by rfl) ?_ | refine vY (by rfl) ?_ | refine tO (by rfl) (by rfl) ?_)) | (refine d_nil ?_; try (first | refine s_n ?_ | refine s_r ?_ | refine s_e ?_ | refine k_n ?_ | refine k_r ?_ | refine k_e (by rfl) ?_ | refine k_o (by rfl) ?_ | refine l_r ?_ | refine l_e ?_ | refine b_r ?_ | refine b_n ?_)) | refine d_none (by rfl) (by rfl) ?_ | refine d_guard (by rfl) (by rfl) (by rfl) ?_) | (refine g_x ?_; first | (refine x_q (by rfl) ?_; try (first | refine q_mv (by rfl) ?_ | refine wN (by rfl) ?_ | (refine uJ ?_; try (first | refine vO (by rfl) (by assumption) ?_ | refine wY (by rfl) (by assumption) ?_ | refine wX (by rfl) ?_ | refine xY (by rfl) ?_ | refine xX (by rfl) ?_)) | (refine uL ?_; try (first | refine vP (by rfl) (by rfl) (by assumption) (by omega) (by omega) ?_ | refine wU (by rfl) (by rfl) (by assumption) (by omega) (by omega) ?_ | refine wR (by rfl) (by rfl) (by decide) (by decide) ?_ | refine yH (by rfl) (by rfl) (by decide) (by decide) ?_ | refine wE (by rfl) (by rfl) (by decide) (by decide) ?_ | refine yH (by rfl) (by rfl) (by omega) (by omega) ?_)) | refine q_cm (by rfl) (by rfl) ?_ | refine q_ar (by rfl) (by rfl) (by rfl) ?_ | refine vE (by rfl) ?_ | (refine uP ?_; try (first | refine wF (by rfl) ?_ | refine wG (by rfl) ?_ | refine wZ (by rfl) ?_)) | refine uO (by rfl) (by rfl) ?_ | refine wM (by rfl) ?_ | refine wO (by rfl) ?_ | refine uC (by rfl) (by rfl) (by first | decide | omega) ?_ | refine uG (by rfl) (by rfl) (by first | decide | omega) ?_ | refine uQ (by rfl) (by rfl) ?_ | refine uR (by rfl) (by rfl) (by rfl) ?_ | refine uI (by rfl) ?_ | refine uH (by rfl) ?_ | refine wA (by rfl) (by rfl) ?_ | refine wB (by rfl) (by rfl) ?_ | refine uF ?_ | refine uK ?_ | refine uN (by rfl) (by rfl) ?_ | refine vD (by rfl) (by rfl) ?_ | refine wD (by rfl) ?_ | refine q_mx (by rfl) (by rfl) ?_ | refine q_mn (by rfl) (by rfl) ?_ | refine uM (by rfl) ?_ | refine vF (by rfl) ?_ | refine vG (by rfl) ?_ | refine wC (by rfl) ?_ | refine wP (by rfl) (by rfl) ?_ | refine wQ (by rfl) (by rfl) ?_)) | (refine pR ?_; try (first | (refine uS (by rfl) ?_; try (first | refine yV (by rfl) (by rfl) ?_ | refine yN (by rfl) (by rfl) ?_ | refine yV (yJ _ _) (by rfl) ?_ | refine yN (yJ _ _) (by rfl) ?_)) | (refine uT (by rfl) ?_; try (first | refine vL (by omega) (by omega) ?_ | refine xJ (Nat.le_of_ble_eq_true (by rfl)) ?_ | refine yP (by rfl) (by rfl) (by rfl) (by omega) ?_)))) | refine uD (by rfl) (by rfl) (by rfl) (by rfl) (Nat.le_of_ble_eq_true (by rfl)) ?_ | (refine sK (by rfl) (by rfl) ?_; try (first | refine yP (by rfl) (by rfl) (by rfl) (Nat.le_of_ble_eq_true (by rfl)) ?_ | refine yP (by rfl) (by rfl) (by rfl) (by omega) ?_)) | refine pS (by rfl) (by rfl) ?_ | refine bA (by rfl) (by rfl) ?_ | refine sW ?_ | refine pK (by rfl) ?_ | refine gJ ?_ | refine pQ ?_ | refine sU ?_ | refine sV (by rfl) (by rfl) (by rfl) (by rfl) ?_ | refine tX (by rfl) (by rfl) (by rfl) ?_) | (refine g_q ?_; first | refine q_mv (by rfl) ?_ | refine wN (by rfl) ?_ | (refine uJ ?_; try (first | refine vO (by rfl) (by assumption) ?_ | refine wY (by rfl) (by assumption) ?_ | refine wX (by rfl) ?_ | refine xY (by rfl) ?_ | refine xX (by rfl) ?_)) | (refine uL ?_; try (first | refine vP (by rfl) (by rfl) (by assumption) (by omega) (by omega) ?_ | refine wU (by rfl) (by rfl) (by assumption) (by omega) (by omega) ?_ | refine wR (by rfl) (by rfl) (by decide) (by decide) ?_ | refine yH (by rfl) (by rfl) (by decide) (by decide) ?_ | refine wE (by rfl) (by rfl) (by decide) (by decide) ?_ | refine yH (by rfl) (by rfl) (by omega) (by omega) ?_)) | refine q_cm (by rfl) (by rfl) ?_ | refine q_ar (by rfl) (by rfl) (by rfl) ?_ | refine vE (by rfl) ?_ | (refine uP ?_; try (first | refine wF (by rfl) ?_ | refine wG (by rfl) ?_ | refine wZ (by rfl) ?_)) | refine uO (by rfl) (by rfl) ?_ | refine wM (by rfl) ?_ | refine wO (by rfl) ?_ | refine uC (by rfl) (by rfl) (by first | decide | omega) ?_ | refine uG (by rfl) (by rfl) (by first | decide | omega) ?_ | refine uQ (by rfl) (by rfl) ?_ | refine uR (by rfl) (by rfl) (by rfl) ?_ | refine uI (by rfl) ?_ | refine uH (by rfl) ?_ | refine wA (by rfl) (by rfl) ?_ | refine wB (by rfl) (by rfl) ?_ | refine uF ?_ | refine uK ?_ | refine uN (by rfl) (by rfl) ?_ | refine vD (by rfl) (by rfl) ?_ | refine wD (by rfl) ?_ | refine q_mx (by rfl) (by rfl) ?_ | refine q_mn (by rfl) (by rfl) ?_ | refine uM (by rfl) ?_ | refine vF (by rfl) ?_ | refine vG (by rfl) ?_ | refine wC (by rfl) ?_ | refine wP (by rfl) (by rfl) ?_ | refine wQ (by rfl) (by rfl) ?_) | (refine g_c ?_; first | refine c_t (by rfl) ?_ | refine c_f (by rfl) ?_) | (refine g_k ?_; first | refine k_n ?_ | refine k_r ?_ | refine k_e (by rfl) ?_ | refine k_o (by rfl) ?_) | (refine g_lo ?_; first | refine l_r ?_ | refine l_e ?_) | (refine g_xd ?_; first | (refine xd_q (by rfl) ?_; try (first | refine q_mv (by rfl) ?_ | refine wN (by rfl) ?_ | (refine uJ ?_; try (first | refine vO (by rfl) (by assumption) ?_ | refine wY (by rfl) (by assumption) ?_ | refine wX (by rfl) ?_ | refine xY (by rfl) ?_ | refine xX (by rfl) ?_)) | (refine uL ?_; try (first | refine vP (by rfl) (by rfl) (by assumption) (by omega) (by omega) ?_ | refine wU (by rfl) (by rfl) (by assumption) (by omega) (by omega) ?_ | refine wR (by rfl) (by rfl) (by decide) (by decide) ?_ | refine yH (by rfl) (by rfl) (by decide) (by decide) ?_ | refine wE (by rfl) (by rfl) (by decide) (by decide) ?_ | refine yH (by rfl) (by rfl) (by omega) (by omega) ?_)) | refine q_cm (by rfl) (by rfl) ?_ | refine q_ar (by rfl) (by rfl) (by rfl) ?_ | refine vE (by rfl) ?_ | (refine uP ?_; try (first | refine wF (by rfl) ?_ | refine wG (by rfl) ?_ | refine wZ (by rfl) ?_)) | refine uO (by rfl) (by rfl) ?_ | refine wM (by rfl) ?_ | refine wO (by rfl) ?_ | refine uC (by rfl) (by rfl) (by first | decide | omega) ?_ | refine uG (by rfl) (by rfl) (by first | decide | omega) ?_ | refine uQ (by rfl) (by rfl) ?_ | refine uR (by rfl) (by rfl) (by rfl) ?_ | refine uI (by rfl) ?_ | refine uH (by rfl) ?_ | refine wA (by rfl) (by rfl) ?_ | refine wB (by rfl) (by rfl) ?_ | refine uF ?_ | refine uK ?_ | refine uN (by rfl) (by rfl) ?_ | refine vD (by rfl) (by rfl) ?_ | refine wD (by rfl) ?_ | refine q_mx (by rfl) (by rfl) ?_ | refine q_mn (by rfl) (by rfl) ?_ | refine uM (by rfl) ?_ | refine vF (by rfl) ?_ | refine vG (by rfl) ?_ | refine wC (by rfl) ?_ | refine wP (by rfl) (by rfl) ?_ | refine wQ (by rfl) (by rfl) ?_)) | (refine tD ?_; try (first | (refine uS (by rfl) ?_; try (first | refine yV (by rfl) (by rfl) ?_ | refine yN (by rfl) (by rfl) ?_ | refine yV (yJ _ _) (by rfl) ?_ | refine yN (yJ _ _) (by rfl) ?_)) | (refine uT (by rfl) ?_; try (first | refine vL (by omega) (by omega) ?_ | refine xJ (Nat.le_of_ble_eq_true (by rfl)) ?_ | refine yP (by rfl) (by rfl) (by rfl) (by omega) ?_)))) | refine wV (by rfl) (by rfl) (by rfl) (by rfl) (Nat.le_of_ble_eq_true (by rfl)) ?_ | (refine vT (by rfl) (by rfl) ?_; try (first | refine yP (by rfl) (by rfl) (by rfl) (Nat.le_of_ble_eq_true (by rfl)) ?_ | refine yP (by rfl) (by rfl) (by rfl) (by omega) ?_)) | refine tE (by rfl) (by rfl) ?_ | refine sC (by rfl) (by rfl) (by rfl) ?_ | refine vY (by rfl) ?_ | refine tO (by rfl) (by rfl) ?_) | (refine g_l ?_; first | (refine uS (by rfl) ?_; try (first | refine yV (by rfl) (by rfl) ?_ | refine yN (by rfl) (by rfl) ?_ | refine yV (yJ _ _) (by rfl) ?_ | refine yN (yJ _ _) (by rfl) ?_)) | (refine uT (by rfl) ?_; try (first | refine vL (by omega) (by omega) ?_ | refine xJ (Nat.le_of_ble_eq_true (by rfl)) ?_ | refine yP (by rfl) (by rfl) (by rfl) (by omega) ?_))) | (refine g_len ?_; first | refine vO (by rfl) (by assumption) ?_ | refine wY (by rfl) (by assumption) ?_ | refine wX (by rfl) ?_ | refine xY (by rfl) ?_ | refine xX (by rfl) ?_) | (refine g_nil ?_; first | refine wF (by rfl) ?_ | refine wG (by rfl) ?_ | refine wZ (by rfl) ?_) | (refine g_iad ?_; first | refine vP (by rfl) (by rfl) (by assumption) (by omega) (by omega) ?_ | refine wU (by rfl) (by rfl) (by assumption) (by omega) (by omega) ?_ | refine wR (by rfl) (by rfl) (by decide) (by decide) ?_ | refine yH (by rfl) (by rfl) (by decide) (by decide) ?_ | refine wE (by rfl) (by rfl) (by decide) (by decide) ?_ | refine yH (by rfl) (by rfl) (by omega) (by omega) ?_) | (refine g_box ?_; first | refine yV (by rfl) (by rfl) ?_ | refine yN (by rfl) (by rfl) ?_ | refine yV (yJ _ _) (by rfl) ?_ | refine yN (yJ _ _) (by rfl) ?_) | (refine g_cells ?_; first | refine vL (by omega) (by omega) ?_ | refine xJ (Nat.le_of_ble_eq_true (by rfl)) ?_) | (refine g_st ?_; first | refine yP (by rfl) (by rfl) (by rfl) (Nat.le_of_ble_eq_true (by rfl)) ?_) | (refine g_b ?_; first | refine b_r ?_ | refine b_n ?_) | (refine g_r ?_; first | refine r_tmp (by rfl) ?_ | refine r_cell ?_ | refine r_nil ?_))
 exact hgo.out) : A := h ⟨k⟩
theorem go6 {A B : Prop} (k : B) (h : Held B → A := by
 intro hgo
 repeat (first | (refine g_o ?_; first | (refine o_some ?_; try (first | (refine x_q (by rfl) ?_; try (first | refine q_mv (by rfl) ?_ | refine wN (by rfl) ?_ | (refine uJ ?_; try (first | refine vO (by rfl) (by assumption) ?_ | refine wY (by rfl) (by assumption) ?_ | refine wX (by rfl) ?_ | refine xY (by rfl) ?_ | refine xX (by rfl) ?_)) | (refine uL ?_; try (first | refine vP (by rfl) (by rfl) (by assumption) (by omega) (by omega) ?_ | refine wU (by rfl) (by rfl) (by assumption) (by omega) (by omega) ?_ | refine wR (by rfl) (by rfl) (by decide) (by decide) ?_ | refine yH (by rfl) (by rfl) (by decide) (by decide) ?_ | refine wE (by rfl) (by rfl) (by decide) (by decide) ?_ | refine yH (by rfl) (by rfl) (by omega) (by omega) ?_)) | refine q_cm (by rfl) (by rfl) ?_ | refine q_ar (by rfl) (by rfl) (by rfl) ?_ | refine vE (by rfl) ?_ | (refine uP ?_; try (first | refine wF (by rfl) ?_ | refine wG (by rfl) ?_ | refine wZ (by rfl) ?_)) | refine uO (by rfl) (by rfl) ?_ | refine wM (by rfl) ?_ | refine wO (by rfl) ?_ | refine uC (by rfl) (by rfl) (by first | decide | omega) ?_ | refine uG (by rfl) (by rfl) (by first | decide | omega) ?_ | refine uQ (by rfl) (by rfl) ?_ | refine uR (by rfl) (by rfl) (by rfl) ?_ | refine uI (by rfl) ?_ | refine uH (by rfl) ?_ | refine wA (by rfl) (by rfl) ?_ | refine wB (by rfl) (by rfl) ?_ | refine uF ?_ | refine uK ?_ | refine uN (by rfl) (by rfl) ?_ | refine vD (by rfl) (by rfl) ?_ | refine wD (by rfl) ?_ | refine q_mx (by rfl) (by rfl) ?_ | refine q_mn (by rfl) (by rfl) ?_ | refine uM (by rfl) ?_ | refine vF (by rfl) ?_ | refine vG (by rfl) ?_ | refine wC (by rfl) ?_ | refine wP (by rfl) (by rfl) ?_ | refine wQ (by rfl) (by rfl) ?_)) | (refine pR ?_; try (first | (refine uS (by rfl) ?_; try (first | refine yV (by rfl) (by rfl) ?_ | refine yN (by rfl) (by rfl) ?_ | refine yV (yJ _ _) (by rfl) ?_ | refine yN (yJ _ _) (by rfl) ?_)) | (refine uT (by rfl) ?_; try (first | refine vL (by omega) (by omega) ?_ | refine xJ (Nat.le_of_ble_eq_true (by rfl)) ?_ | refine yP (by rfl) (by rfl) (by rfl) (by omega) ?_)))) | refine uD (by rfl) (by rfl) (by rfl) (by rfl) (Nat.le_of_ble_eq_true (by rfl)) ?_ | (refine sK (by rfl) (by rfl) ?_; try (first | refine yP (by rfl) (by rfl) (by rfl) (Nat.le_of_ble_eq_true (by rfl)) ?_ | refine yP (by rfl) (by rfl) (by rfl) (by omega) ?_)) | refine pS (by rfl) (by rfl) ?_ | refine bA (by rfl) (by rfl) ?_ | refine sW ?_ | refine pK (by rfl) ?_ | refine gJ ?_ | refine pQ ?_ | refine sU ?_ | refine sV (by rfl) (by rfl) (by rfl) (by rfl) ?_ | refine tX (by rfl) (by rfl) (by rfl) ?_)) | (refine o_nil ?_; try (first | refine s_n ?_ | refine s_r ?_ | refine s_e ?_ | refine k_n ?_ | refine k_r ?_ | refine k_e (by rfl) ?_ | refine k_o (by rfl) ?_ | refine l_r ?_ | refine l_e ?_ | refine b_r ?_ | refine b_n ?_)) | refine o_guard (by rfl) ?_ | refine gS (by rfl) ?_ | refine o_none ?_ | refine gT (by rfl) ?_) | (refine g_f ?_; first | refine f_seq ?_ | refine f_reg ?_ | (refine f_cond (by rfl) ?_; try (first | refine c_t (by rfl) ?_ | refine c_f (by rfl) ?_)) | refine f_block ?_ | refine f_skip ?_ | refine f_ret ?_ | refine f_exit ?_ | refine f_regD0 ?_ | refine f_regD ?_) | (refine g_s ?_; first | refine s_n ?_ | refine s_r ?_ | refine s_e ?_) | (refine g_d ?_; first | refine d_late (T := none) (by rfl) (by rfl) (by rfl) (by rfl) ?_ | (refine pH (T := none) (by rfl) (by rfl) ?_; try (first | (refine xd_q (by rfl) ?_; try (first | refine q_mv (by rfl) ?_ | refine wN (by rfl) ?_ | (refine uJ ?_; try (first | refine vO (by rfl) (by assumption) ?_ | refine wY (by rfl) (by assumption) ?_ | refine wX (by rfl) ?_ | refine xY (by rfl) ?_ | refine xX (by rfl) ?_)) | (refine uL ?_; try (first | refine vP (by rfl) (by rfl) (by assumption) (by omega) (by omega) ?_ | refine wU (by rfl) (by rfl) (by assumption) (by omega) (by omega) ?_ | refine wR (by rfl) (by rfl) (by decide) (by decide) ?_ | refine yH (by rfl) (by rfl) (by decide) (by decide) ?_ | refine wE (by rfl) (by rfl) (by decide) (by decide) ?_ | refine yH (by rfl) (by rfl) (by omega) (by omega) ?_)) | refine q_cm (by rfl) (by rfl) ?_ | refine q_ar (by rfl) (by rfl) (by rfl) ?_ | refine vE (by rfl) ?_ | (refine uP ?_; try (first | refine wF (by rfl) ?_ | refine wG (by rfl) ?_ | refine wZ (by rfl) ?_)) | refine uO (by rfl) (by rfl) ?_ | refine wM (by rfl) ?_ | refine wO (by rfl) ?_ | refine uC (by rfl) (by rfl) (by first | decide | omega) ?_ | refine uG (by rfl) (by rfl) (by first | decide | omega) ?_ | refine uQ (by rfl) (by rfl) ?_ | refine uR (by rfl) (by rfl) (by rfl) ?_ | refine uI (by rfl) ?_ | refine uH (by rfl) ?_ | refine wA (by rfl) (by rfl) ?_ | refine wB (by rfl) (by rfl) ?_ | refine uF ?_ | refine uK ?_ | refine uN (by rfl) (by rfl) ?_ | refine vD (by rfl) (by rfl) ?_ | refine wD (by rfl) ?_ | refine q_mx (by rfl) (by rfl) ?_ | refine q_mn (by rfl) (by rfl) ?_ | refine uM (by rfl) ?_ | refine vF (by rfl) ?_ | refine vG (by rfl) ?_ | refine wC (by rfl) ?_ | refine wP (by rfl) (by rfl) ?_ | refine wQ (by rfl) (by rfl) ?_)) | (refine tD ?_; try (first | (refine uS (by rfl) ?_; try (first | refine yV (by rfl) (by rfl) ?_ | refine yN (by rfl) (by rfl) ?_ | refine yV (yJ _ _) (by rfl) ?_ | refine yN (yJ _ _) (by rfl) ?_)) | (refine uT (by rfl) ?_; try (first | refine vL (by omega) (by omega) ?_ | refine xJ (Nat.le_of_ble_eq_true (by rfl)) ?_ | refine yP (by rfl) (by rfl) (by rfl) (by omega) ?_)))) | refine wV (by rfl) (by rfl) (by rfl) (by rfl) (Nat.le_of_ble_eq_true (by rfl)) ?_ | (refine vT (by rfl) (by rfl) ?_; try (first | refine yP (by rfl) (by rfl) (by rfl) (Nat.le_of_ble_eq_true (by rfl)) ?_ | refine yP (by rfl) (by rfl) (by rfl) (by omega) ?_)) | refine tE (by rfl) (by rfl) ?_ | refine sC (by rfl) (by rfl) (by rfl) ?_ | refine vY (by rfl) ?_ | refine tO (by rfl) (by rfl) ?_)) | (refine pH (by rfl) (by rfl) ?_; try (first | (refine xd_q (by rfl) ?_; try (first | refine q_mv (by rfl) ?_ | refine wN (by rfl) ?_ | (refine uJ ?_; try (first | refine vO (by rfl) (by assumption) ?_ | refine wY (by rfl) (by assumption) ?_ | refine wX (by rfl) ?_ | refine xY (by rfl) ?_ | refine xX (by rfl) ?_)) | (refine uL ?_; try (first | refine vP (by rfl) (by rfl) (by assumption) (by omega) (by omega) ?_ | refine wU (by rfl) (by rfl) (by assumption) (by omega) (by omega) ?_ | refine wR (by rfl) (by rfl) (by decide) (by decide) ?_ | refine yH (by rfl) (by rfl) (by decide) (by decide) ?_ | refine wE (by rfl) (by rfl) (by decide) (by decide) ?_ | refine yH (by rfl) (by rfl) (by omega) (by omega) ?_)) | refine q_cm (by rfl) (by rfl) ?_ | refine q_ar (by rfl) (by rfl) (by rfl) ?_ | refine vE (by rfl) ?_ | (refine uP ?_; try (first | refine wF (by rfl) ?_ | refine wG (by rfl) ?_ | refine wZ (by rfl) ?_)) | refine uO (by rfl) (by rfl) ?_ | refine wM (by rfl) ?_ | refine wO (by rfl) ?_ | refine uC (by rfl) (by rfl) (by first | decide | omega) ?_ | refine uG (by rfl) (by rfl) (by first | decide | omega) ?_ | refine uQ (by rfl) (by rfl) ?_ | refine uR (by rfl) (by rfl) (by rfl) ?_ | refine uI (by rfl) ?_ | refine uH (by rfl) ?_ | refine wA (by rfl) (by rfl) ?_ | refine wB (by rfl) (by rfl) ?_ | refine uF ?_ | refine uK ?_ | refine uN (by rfl) (by rfl) ?_ | refine vD (by rfl) (by rfl) ?_ | refine wD (by rfl) ?_ | refine q_mx (by rfl) (by rfl) ?_ | refine q_mn (by rfl) (by rfl) ?_ | refine uM (by rfl) ?_ | refine vF (by rfl) ?_ | refine vG (by rfl) ?_ | refine wC (by rfl) ?_ | refine wP (by rfl) (by rfl) ?_ | refine wQ (by rfl) (by rfl) ?_)) | (refine tD ?_; try (first | (refine uS (by rfl) ?_; try (first | refine yV (by rfl) (by rfl) ?_ | refine yN (by rfl) (by rfl) ?_ | refine yV (yJ _ _) (by rfl) ?_ | refine yN (yJ _ _) (by rfl) ?_)) | (refine uT (by rfl) ?_; try (first | refine vL (by omega) (by omega) ?_ | refine xJ (Nat.le_of_ble_eq_true (by rfl)) ?_ | refine yP (by rfl) (by rfl) (by rfl) (by omega) ?_)))) | refine wV (by rfl) (by rfl) (by rfl) (by rfl) (Nat.le_of_ble_eq_true (by rfl)) ?_ | (refine vT (by rfl) (by rfl) ?_; try (first | refine yP (by rfl) (by rfl) (by rfl) (Nat.le_of_ble_eq_true (by rfl)) ?_ | refine yP (by rfl) (by rfl) (by rfl) (by omega) ?_)) | refine tE (by rfl) (by rfl) ?_ | refine sC (by rfl) (by rfl) (by rfl) ?_ | refine vY (by rfl) ?_ | refine tO (by rfl) (by rfl) ?_)) | (refine d_nil ?_; try (first | refine s_n ?_ | refine s_r ?_ | refine s_e ?_ | refine k_n ?_ | refine k_r ?_ | refine k_e (by rfl) ?_ | refine k_o (by rfl) ?_ | refine l_r ?_ | refine l_e ?_ | refine b_r ?_ | refine b_n ?_)) | refine d_none (by rfl) (by rfl) ?_ | refine d_guard (by rfl) (by rfl) (by rfl) ?_) | (refine g_x ?_; first | (refine x_q (by rfl) ?_; try (first | refine q_mv (by rfl) ?_ | refine wN (by rfl) ?_ | (refine uJ ?_; try (first | refine vO (by rfl) (by assumption) ?_ | refine wY (by rfl) (by assumption) ?_ | refine wX (by rfl) ?_ | refine xY (by rfl) ?_ | refine xX (by rfl) ?_)) | (refine uL ?_; try (first | refine vP (by rfl) (by rfl) (by assumption) (by omega) (by omega) ?_ | refine wU (by rfl) (by rfl) (by assumption) (by omega) (by omega) ?_ | refine wR (by rfl) (by rfl) (by decide) (by decide) ?_ | refine yH (by rfl) (by rfl) (by decide) (by decide) ?_ | refine wE (by rfl) (by rfl) (by decide) (by decide) ?_ | refine yH (by rfl) (by rfl) (by omega) (by omega) ?_)) | refine q_cm (by rfl) (by rfl) ?_ | refine q_ar (by rfl) (by rfl) (by rfl) ?_ | refine vE (by rfl) ?_ | (refine uP ?_; try (first | refine wF (by rfl) ?_ | refine wG (by rfl) ?_ | refine wZ (by rfl) ?_)) | refine uO (by rfl) (by rfl) ?_ | refine wM (by rfl) ?_ | refine wO (by rfl) ?_ | refine uC (by rfl) (by rfl) (by first | decide | omega) ?_ | refine uG (by rfl) (by rfl) (by first | decide | omega) ?_ | refine uQ (by rfl) (by rfl) ?_ | refine uR (by rfl) (by rfl) (by rfl) ?_ | refine uI (by rfl) ?_ | refine uH (by rfl) ?_ | refine wA (by rfl) (by rfl) ?_ | refine wB (by rfl) (by rfl) ?_ | refine uF ?_ | refine uK ?_ | refine uN (by rfl) (by rfl) ?_ | refine vD (by rfl) (by rfl) ?_ | refine wD (by rfl) ?_ | refine q_mx (by rfl) (by rfl) ?_ | refine q_mn (by rfl) (by rfl) ?_ | refine uM (by rfl) ?_ | refine vF (by rfl) ?_ | refine vG (by rfl) ?_ | refine wC (by rfl) ?_ | refine wP (by rfl) (by rfl) ?_ | refine wQ (by rfl) (by rfl) ?_)) | (refine pR ?_; try (first | (refine uS (by rfl) ?_; try (first | refine yV (by rfl) (by rfl) ?_ | refine yN (by rfl) (by rfl) ?_ | refine yV (yJ _ _) (by rfl) ?_ | refine yN (yJ _ _) (by rfl) ?_)) | (refine uT (by rfl) ?_; try (first | refine vL (by omega) (by omega) ?_ | refine xJ (Nat.le_of_ble_eq_true (by rfl)) ?_ | refine yP (by rfl) (by rfl) (by rfl) (by omega) ?_)))) | refine uD (by rfl) (by rfl) (by rfl) (by rfl) (Nat.le_of_ble_eq_true (by rfl)) ?_ | (refine sK (by rfl) (by rfl) ?_; try (first | refine yP (by rfl) (by rfl) (by rfl) (Nat.le_of_ble_eq_true (by rfl)) ?_ | refine yP (by rfl) (by rfl) (by rfl) (by omega) ?_)) | refine pS (by rfl) (by rfl) ?_ | refine bA (by rfl) (by rfl) ?_ | refine sW ?_ | refine pK (by rfl) ?_ | refine gJ ?_ | refine pQ ?_ | refine sU ?_ | refine sV (by rfl) (by rfl) (by rfl) (by rfl) ?_ | refine tX (by rfl) (by rfl) (by rfl) ?_) | (refine g_q ?_; first | refine q_mv (by rfl) ?_ | refine wN (by rfl) ?_ | (refine uJ ?_; try (first | refine vO (by rfl) (by assumption) ?_ | refine wY (by rfl) (by assumption) ?_ | refine wX (by rfl) ?_ | refine xY (by rfl) ?_ | refine xX (by rfl) ?_)) | (refine uL ?_; try (first | refine vP (by rfl) (by rfl) (by assumption) (by omega) (by omega) ?_ | refine wU (by rfl) (by rfl) (by assumption) (by omega) (by omega) ?_ | refine wR (by rfl) (by rfl) (by decide) (by decide) ?_ | refine yH (by rfl) (by rfl) (by decide) (by decide) ?_ | refine wE (by rfl) (by rfl) (by decide) (by decide) ?_ | refine yH (by rfl) (by rfl) (by omega) (by omega) ?_)) | refine q_cm (by rfl) (by rfl) ?_ | refine q_ar (by rfl) (by rfl) (by rfl) ?_ | refine vE (by rfl) ?_ | (refine uP ?_; try (first | refine wF (by rfl) ?_ | refine wG (by rfl) ?_ | refine wZ (by rfl) ?_)) | refine uO (by rfl) (by rfl) ?_ | refine wM (by rfl) ?_ | refine wO (by rfl) ?_ | refine uC (by rfl) (by rfl) (by first | decide | omega) ?_ | refine uG (by rfl) (by rfl) (by first | decide | omega) ?_ | refine uQ (by rfl) (by rfl) ?_ | refine uR (by rfl) (by rfl) (by rfl) ?_ | refine uI (by rfl) ?_ | refine uH (by rfl) ?_ | refine wA (by rfl) (by rfl) ?_ | refine wB (by rfl) (by rfl) ?_ | refine uF ?_ | refine uK ?_ | refine uN (by rfl) (by rfl) ?_ | refine vD (by rfl) (by rfl) ?_ | refine wD (by rfl) ?_ | refine q_mx (by rfl) (by rfl) ?_ | refine q_mn (by rfl) (by rfl) ?_ | refine uM (by rfl) ?_ | refine vF (by rfl) ?_ | refine vG (by rfl) ?_ | refine wC (by rfl) ?_ | refine wP (by rfl) (by rfl) ?_ | refine wQ (by rfl) (by rfl) ?_) | (refine g_c ?_; first | refine c_t (by rfl) ?_ | refine c_f (by rfl) ?_) | (refine g_k ?_; first | refine k_n ?_ | refine k_r ?_ | refine k_e (by rfl) ?_ | refine k_o (by rfl) ?_) | (refine g_lo ?_; first | refine l_r ?_ | refine l_e ?_) | (refine g_xd ?_; first | (refine xd_q (by rfl) ?_; try (first | refine q_mv (by rfl) ?_ | refine wN (by rfl) ?_ | (refine uJ ?_; try (first | refine vO (by rfl) (by assumption) ?_ | refine wY (by rfl) (by assumption) ?_ | refine wX (by rfl) ?_ | refine xY (by rfl) ?_ | refine xX (by rfl) ?_)) | (refine uL ?_; try (first | refine vP (by rfl) (by rfl) (by assumption) (by omega) (by omega) ?_ | refine wU (by rfl) (by rfl) (by assumption) (by omega) (by omega) ?_ | refine wR (by rfl) (by rfl) (by decide) (by decide) ?_ | refine yH (by rfl) (by rfl) (by decide) (by decide) ?_ | refine wE (by rfl) (by rfl) (by decide) (by decide) ?_ | refine yH (by rfl) (by rfl) (by omega) (by omega) ?_)) | refine q_cm (by rfl) (by rfl) ?_ | refine q_ar (by rfl) (by rfl) (by rfl) ?_ | refine vE (by rfl) ?_ | (refine uP ?_; try (first | refine wF (by rfl) ?_ | refine wG (by rfl) ?_ | refine wZ (by rfl) ?_)) | refine uO (by rfl) (by rfl) ?_ | refine wM (by rfl) ?_ | refine wO (by rfl) ?_ | refine uC (by rfl) (by rfl) (by first | decide | omega) ?_ | refine uG (by rfl) (by rfl) (by first | decide | omega) ?_ | refine uQ (by rfl) (by rfl) ?_ | refine uR (by rfl) (by rfl) (by rfl) ?_ | refine uI (by rfl) ?_ | refine uH (by rfl) ?_ | refine wA (by rfl) (by rfl) ?_ | refine wB (by rfl) (by rfl) ?_ | refine uF ?_ | refine uK ?_ | refine uN (by rfl) (by rfl) ?_ | refine vD (by rfl) (by rfl) ?_ | refine wD (by rfl) ?_ | refine q_mx (by rfl) (by rfl) ?_ | refine q_mn (by rfl) (by rfl) ?_ | refine uM (by rfl) ?_ | refine vF (by rfl) ?_ | refine vG (by rfl) ?_ | refine wC (by rfl) ?_ | refine wP (by rfl) (by rfl) ?_ | refine wQ (by rfl) (by rfl) ?_)) | (refine tD ?_; try (first | (refine uS (by rfl) ?_; try (first | refine yV (by rfl) (by rfl) ?_ | refine yN (by rfl) (by rfl) ?_ | refine yV (yJ _ _) (by rfl) ?_ | refine yN (yJ _ _) (by rfl) ?_)) | (refine uT (by rfl) ?_; try (first | refine vL (by omega) (by omega) ?_ | refine xJ (Nat.le_of_ble_eq_true (by rfl)) ?_ | refine yP (by rfl) (by rfl) (by rfl) (by omega) ?_)))) | refine wV (by rfl) (by rfl) (by rfl) (by rfl) (Nat.le_of_ble_eq_true (by rfl)) ?_ | (refine vT (by rfl) (by rfl) ?_; try (first | refine yP (by rfl) (by rfl) (by rfl) (Nat.le_of_ble_eq_true (by rfl)) ?_ | refine yP (by rfl) (by rfl) (by rfl) (by omega) ?_)) | refine tE (by rfl) (by rfl) ?_ | refine sC (by rfl) (by rfl) (by rfl) ?_ | refine vY (by rfl) ?_ | refine tO (by rfl) (by rfl) ?_) | (refine g_l ?_; first | (refine uS (by rfl) ?_; try (first | refine yV (by rfl) (by rfl) ?_ | refine yN (by rfl) (by rfl) ?_ | refine yV (yJ _ _) (by rfl) ?_ | refine yN (yJ _ _) (by rfl) ?_)) | (refine uT (by rfl) ?_; try (first | refine vL (by omega) (by omega) ?_ | refine xJ (Nat.le_of_ble_eq_true (by rfl)) ?_ | refine yP (by rfl) (by rfl) (by rfl) (by omega) ?_))) | (refine g_len ?_; first | refine vO (by rfl) (by assumption) ?_ | refine wY (by rfl) (by assumption) ?_ | refine wX (by rfl) ?_ | refine xY (by rfl) ?_ | refine xX (by rfl) ?_) | (refine g_nil ?_; first | refine wF (by rfl) ?_ | refine wG (by rfl) ?_ | refine wZ (by rfl) ?_) | (refine g_iad ?_; first | refine vP (by rfl) (by rfl) (by assumption) (by omega) (by omega) ?_ | refine wU (by rfl) (by rfl) (by assumption) (by omega) (by omega) ?_ | refine wR (by rfl) (by rfl) (by decide) (by decide) ?_ | refine yH (by rfl) (by rfl) (by decide) (by decide) ?_ | refine wE (by rfl) (by rfl) (by decide) (by decide) ?_ | refine yH (by rfl) (by rfl) (by omega) (by omega) ?_) | (refine g_box ?_; first | refine yV (by rfl) (by rfl) ?_ | refine yN (by rfl) (by rfl) ?_ | refine yV (yJ _ _) (by rfl) ?_ | refine yN (yJ _ _) (by rfl) ?_) | (refine g_cells ?_; first | refine vL (by omega) (by omega) ?_ | refine xJ (Nat.le_of_ble_eq_true (by rfl)) ?_) | (refine g_st ?_; first | refine yP (by rfl) (by rfl) (by rfl) (Nat.le_of_ble_eq_true (by rfl)) ?_) | (refine g_b ?_; first | refine b_r ?_ | refine b_n ?_) | (refine g_r ?_; first | refine r_tmp (by rfl) ?_ | refine r_cell ?_ | refine r_nil ?_))
 exact hgo.out) : A := h ⟨k⟩
theorem go8 {A B : Prop} (k : B) (h : Held B → A := by
 intro hgo
 repeat (first | (refine g_o ?_; first | (refine o_some ?_; try (first | (refine x_q (by rfl) ?_; try (first | refine q_mv (by rfl) ?_ | refine wN (by rfl) ?_ | (refine uJ ?_; try (first | refine vO (by rfl) (by assumption) ?_ | refine wY (by rfl) (by assumption) ?_ | refine wX (by rfl) ?_ | refine xY (by rfl) ?_ | refine xX (by rfl) ?_)) | (refine uL ?_; try (first | refine vP (by rfl) (by rfl) (by assumption) (by omega) (by omega) ?_ | refine wU (by rfl) (by rfl) (by assumption) (by omega) (by omega) ?_ | refine wR (by rfl) (by rfl) (by decide) (by decide) ?_ | refine yH (by rfl) (by rfl) (by decide) (by decide) ?_ | refine wE (by rfl) (by rfl) (by decide) (by decide) ?_ | refine yH (by rfl) (by rfl) (by omega) (by omega) ?_)) | refine q_cm (by rfl) (by rfl) ?_ | refine q_ar (by rfl) (by rfl) (by rfl) ?_ | refine vE (by rfl) ?_ | (refine uP ?_; try (first | refine wF (by rfl) ?_ | refine wG (by rfl) ?_ | refine wZ (by rfl) ?_)) | refine uO (by rfl) (by rfl) ?_ | refine wM (by rfl) ?_ | refine wO (by rfl) ?_ | refine uC (by rfl) (by rfl) (by first | decide | omega) ?_ | refine uG (by rfl) (by rfl) (by first | decide | omega) ?_ | refine uQ (by rfl) (by rfl) ?_ | refine uR (by rfl) (by rfl) (by rfl) ?_ | refine uI (by rfl) ?_ | refine uH (by rfl) ?_ | refine wA (by rfl) (by rfl) ?_ | refine wB (by rfl) (by rfl) ?_ | refine uF ?_ | refine uK ?_ | refine uN (by rfl) (by rfl) ?_ | refine vD (by rfl) (by rfl) ?_ | refine wD (by rfl) ?_ | refine q_mx (by rfl) (by rfl) ?_ | refine q_mn (by rfl) (by rfl) ?_ | refine uM (by rfl) ?_ | refine vF (by rfl) ?_ | refine vG (by rfl) ?_ | refine wC (by rfl) ?_ | refine wP (by rfl) (by rfl) ?_ | refine wQ (by rfl) (by rfl) ?_)) | (refine pR ?_; try (first | (refine uS (by rfl) ?_; try (first | refine yV (by rfl) (by rfl) ?_ | refine yN (by rfl) (by rfl) ?_ | refine yV (yJ _ _) (by rfl) ?_ | refine yN (yJ _ _) (by rfl) ?_)) | (refine uT (by rfl) ?_; try (first | refine vL (by omega) (by omega) ?_ | refine xJ (Nat.le_of_ble_eq_true (by rfl)) ?_ | refine yP (by rfl) (by rfl) (by rfl) (by omega) ?_)))) | refine uD (by rfl) (by rfl) (by rfl) (by rfl) (Nat.le_of_ble_eq_true (by rfl)) ?_ | (refine sK (by rfl) (by rfl) ?_; try (first | refine yP (by rfl) (by rfl) (by rfl) (Nat.le_of_ble_eq_true (by rfl)) ?_ | refine yP (by rfl) (by rfl) (by rfl) (by omega) ?_)) | refine pS (by rfl) (by rfl) ?_ | refine bA (by rfl) (by rfl) ?_ | refine sW ?_ | refine x_frzSl (by rfl) ?_ | refine gJ ?_ | refine pQ ?_ | refine sU ?_ | refine sV (by rfl) (by rfl) (by rfl) (by rfl) ?_ | refine tX (by rfl) (by rfl) (by rfl) ?_)) | (refine o_nil ?_; try (first | refine s_n ?_ | refine s_r ?_ | refine s_e ?_ | refine k_n ?_ | refine k_r ?_ | refine k_e (by rfl) ?_ | refine k_o (by rfl) ?_ | refine l_r ?_ | refine l_e ?_ | refine b_r ?_ | refine b_n ?_)) | refine o_guard (by rfl) ?_ | refine gS (by rfl) ?_ | refine o_none ?_ | refine gT (by rfl) ?_) | (refine g_f ?_; first | refine f_seq ?_ | refine f_reg ?_ | (refine f_cond (by rfl) ?_; try (first | refine c_t (by rfl) ?_ | refine c_f (by rfl) ?_)) | refine f_block ?_ | refine f_skip ?_ | refine f_ret ?_ | refine f_exit ?_ | refine f_regD0 ?_ | refine f_regD ?_) | (refine g_s ?_; first | refine s_n ?_ | refine s_r ?_ | refine s_e ?_) | (refine g_d ?_; first | (refine pH (T := none) (by rfl) (by rfl) ?_; try (first | (refine xd_q (by rfl) ?_; try (first | refine q_mv (by rfl) ?_ | refine wN (by rfl) ?_ | (refine uJ ?_; try (first | refine vO (by rfl) (by assumption) ?_ | refine wY (by rfl) (by assumption) ?_ | refine wX (by rfl) ?_ | refine xY (by rfl) ?_ | refine xX (by rfl) ?_)) | (refine uL ?_; try (first | refine vP (by rfl) (by rfl) (by assumption) (by omega) (by omega) ?_ | refine wU (by rfl) (by rfl) (by assumption) (by omega) (by omega) ?_ | refine wR (by rfl) (by rfl) (by decide) (by decide) ?_ | refine yH (by rfl) (by rfl) (by decide) (by decide) ?_ | refine wE (by rfl) (by rfl) (by decide) (by decide) ?_ | refine yH (by rfl) (by rfl) (by omega) (by omega) ?_)) | refine q_cm (by rfl) (by rfl) ?_ | refine q_ar (by rfl) (by rfl) (by rfl) ?_ | refine vE (by rfl) ?_ | (refine uP ?_; try (first | refine wF (by rfl) ?_ | refine wG (by rfl) ?_ | refine wZ (by rfl) ?_)) | refine uO (by rfl) (by rfl) ?_ | refine wM (by rfl) ?_ | refine wO (by rfl) ?_ | refine uC (by rfl) (by rfl) (by first | decide | omega) ?_ | refine uG (by rfl) (by rfl) (by first | decide | omega) ?_ | refine uQ (by rfl) (by rfl) ?_ | refine uR (by rfl) (by rfl) (by rfl) ?_ | refine uI (by rfl) ?_ | refine uH (by rfl) ?_ | refine wA (by rfl) (by rfl) ?_ | refine wB (by rfl) (by rfl) ?_ | refine uF ?_ | refine uK ?_ | refine uN (by rfl) (by rfl) ?_ | refine vD (by rfl) (by rfl) ?_ | refine wD (by rfl) ?_ | refine q_mx (by rfl) (by rfl) ?_ | refine q_mn (by rfl) (by rfl) ?_ | refine uM (by rfl) ?_ | refine vF (by rfl) ?_ | refine vG (by rfl) ?_ | refine wC (by rfl) ?_ | refine wP (by rfl) (by rfl) ?_ | refine wQ (by rfl) (by rfl) ?_)) | (refine tD ?_; try (first | (refine uS (by rfl) ?_; try (first | refine yV (by rfl) (by rfl) ?_ | refine yN (by rfl) (by rfl) ?_ | refine yV (yJ _ _) (by rfl) ?_ | refine yN (yJ _ _) (by rfl) ?_)) | (refine uT (by rfl) ?_; try (first | refine vL (by omega) (by omega) ?_ | refine xJ (Nat.le_of_ble_eq_true (by rfl)) ?_ | refine yP (by rfl) (by rfl) (by rfl) (by omega) ?_)))) | refine wV (by rfl) (by rfl) (by rfl) (by rfl) (Nat.le_of_ble_eq_true (by rfl)) ?_ | (refine vT (by rfl) (by rfl) ?_; try (first | refine yP (by rfl) (by rfl) (by rfl) (Nat.le_of_ble_eq_true (by rfl)) ?_ | refine yP (by rfl) (by rfl) (by rfl) (by omega) ?_)) | refine tE (by rfl) (by rfl) ?_ | refine sC (by rfl) (by rfl) (by rfl) ?_ | refine vY (by rfl) ?_ | refine pP (by rfl) ?_)) | (refine pH (by rfl) (by rfl) ?_; try (first | (refine xd_q (by rfl) ?_; try (first | refine q_mv (by rfl) ?_ | refine wN (by rfl) ?_ | (refine uJ ?_; try (first | refine vO (by rfl) (by assumption) ?_ | refine wY (by rfl) (by assumption) ?_ | refine wX (by rfl) ?_ | refine xY (by rfl) ?_ | refine xX (by rfl) ?_)) | (refine uL ?_; try (first | refine vP (by rfl) (by rfl) (by assumption) (by omega) (by omega) ?_ | refine wU (by rfl) (by rfl) (by assumption) (by omega) (by omega) ?_ | refine wR (by rfl) (by rfl) (by decide) (by decide) ?_ | refine yH (by rfl) (by rfl) (by decide) (by decide) ?_ | refine wE (by rfl) (by rfl) (by decide) (by decide) ?_ | refine yH (by rfl) (by rfl) (by omega) (by omega) ?_)) | refine q_cm (by rfl) (by rfl) ?_ | refine q_ar (by rfl) (by rfl) (by rfl) ?_ | refine vE (by rfl) ?_ | (refine uP ?_; try (first | refine wF (by rfl) ?_ | refine wG (by rfl) ?_ | refine wZ (by rfl) ?_)) | refine uO (by rfl) (by rfl) ?_ | refine wM (by rfl) ?_ | refine wO (by rfl) ?_ | refine uC (by rfl) (by rfl) (by first | decide | omega) ?_ | refine uG (by rfl) (by rfl) (by first | decide | omega) ?_ | refine uQ (by rfl) (by rfl) ?_ | refine uR (by rfl) (by rfl) (by rfl) ?_ | refine uI (by rfl) ?_ | refine uH (by rfl) ?_ | refine wA (by rfl) (by rfl) ?_ | refine wB (by rfl) (by rfl) ?_ | refine uF ?_ | refine uK ?_ | refine uN (by rfl) (by rfl) ?_ | refine vD (by rfl) (by rfl) ?_ | refine wD (by rfl) ?_ | refine q_mx (by rfl) (by rfl) ?_ | refine q_mn (by rfl) (by rfl) ?_ | refine uM (by rfl) ?_ | refine vF (by rfl) ?_ | refine vG (by rfl) ?_ | refine wC (by rfl) ?_ | refine wP (by rfl) (by rfl) ?_ | refine wQ (by rfl) (by rfl) ?_)) | (refine tD ?_; try (first | (refine uS (by rfl) ?_; try (first | refine yV (by rfl) (by rfl) ?_ | refine yN (by rfl) (by rfl) ?_ | refine yV (yJ _ _) (by rfl) ?_ | refine yN (yJ _ _) (by rfl) ?_)) | (refine uT (by rfl) ?_; try (first | refine vL (by omega) (by omega) ?_ | refine xJ (Nat.le_of_ble_eq_true (by rfl)) ?_ | refine yP (by rfl) (by rfl) (by rfl) (by omega) ?_)))) | refine wV (by rfl) (by rfl) (by rfl) (by rfl) (Nat.le_of_ble_eq_true (by rfl)) ?_ | (refine vT (by rfl) (by rfl) ?_; try (first | refine yP (by rfl) (by rfl) (by rfl) (Nat.le_of_ble_eq_true (by rfl)) ?_ | refine yP (by rfl) (by rfl) (by rfl) (by omega) ?_)) | refine tE (by rfl) (by rfl) ?_ | refine sC (by rfl) (by rfl) (by rfl) ?_ | refine vY (by rfl) ?_ | refine pP (by rfl) ?_)) | (refine d_nil ?_; try (first | refine s_n ?_ | refine s_r ?_ | refine s_e ?_ | refine k_n ?_ | refine k_r ?_ | refine k_e (by rfl) ?_ | refine k_o (by rfl) ?_ | refine l_r ?_ | refine l_e ?_ | refine b_r ?_ | refine b_n ?_)) | refine d_none (by rfl) (by rfl) ?_ | refine d_guard (by rfl) (by rfl) (by rfl) ?_) | (refine g_x ?_; first | (refine x_q (by rfl) ?_; try (first | refine q_mv (by rfl) ?_ | refine wN (by rfl) ?_ | (refine uJ ?_; try (first | refine vO (by rfl) (by assumption) ?_ | refine wY (by rfl) (by assumption) ?_ | refine wX (by rfl) ?_ | refine xY (by rfl) ?_ | refine xX (by rfl) ?_)) | (refine uL ?_; try (first | refine vP (by rfl) (by rfl) (by assumption) (by omega) (by omega) ?_ | refine wU (by rfl) (by rfl) (by assumption) (by omega) (by omega) ?_ | refine wR (by rfl) (by rfl) (by decide) (by decide) ?_ | refine yH (by rfl) (by rfl) (by decide) (by decide) ?_ | refine wE (by rfl) (by rfl) (by decide) (by decide) ?_ | refine yH (by rfl) (by rfl) (by omega) (by omega) ?_)) | refine q_cm (by rfl) (by rfl) ?_ | refine q_ar (by rfl) (by rfl) (by rfl) ?_ | refine vE (by rfl) ?_ | (refine uP ?_; try (first | refine wF (by rfl) ?_ | refine wG (by rfl) ?_ | refine wZ (by rfl) ?_)) | refine uO (by rfl) (by rfl) ?_ | refine wM (by rfl) ?_ | refine wO (by rfl) ?_ | refine uC (by rfl) (by rfl) (by first | decide | omega) ?_ | refine uG (by rfl) (by rfl) (by first | decide | omega) ?_ | refine uQ (by rfl) (by rfl) ?_ | refine uR (by rfl) (by rfl) (by rfl) ?_ | refine uI (by rfl) ?_ | refine uH (by rfl) ?_ | refine wA (by rfl) (by rfl) ?_ | refine wB (by rfl) (by rfl) ?_ | refine uF ?_ | refine uK ?_ | refine uN (by rfl) (by rfl) ?_ | refine vD (by rfl) (by rfl) ?_ | refine wD (by rfl) ?_ | refine q_mx (by rfl) (by rfl) ?_ | refine q_mn (by rfl) (by rfl) ?_ | refine uM (by rfl) ?_ | refine vF (by rfl) ?_ | refine vG (by rfl) ?_ | refine wC (by rfl) ?_ | refine wP (by rfl) (by rfl) ?_ | refine wQ (by rfl) (by rfl) ?_)) | (refine pR ?_; try (first | (refine uS (by rfl) ?_; try (first | refine yV (by rfl) (by rfl) ?_ | refine yN (by rfl) (by rfl) ?_ | refine yV (yJ _ _) (by rfl) ?_ | refine yN (yJ _ _) (by rfl) ?_)) | (refine uT (by rfl) ?_; try (first | refine vL (by omega) (by omega) ?_ | refine xJ (Nat.le_of_ble_eq_true (by rfl)) ?_ | refine yP (by rfl) (by rfl) (by rfl) (by omega) ?_)))) | refine uD (by rfl) (by rfl) (by rfl) (by rfl) (Nat.le_of_ble_eq_true (by rfl)) ?_ | (refine sK (by rfl) (by rfl) ?_; try (first | refine yP (by rfl) (by rfl) (by rfl) (Nat.le_of_ble_eq_true (by rfl)) ?_ | refine yP (by rfl) (by rfl) (by rfl) (by omega) ?_)) | refine pS (by rfl) (by rfl) ?_ | refine bA (by rfl) (by rfl) ?_ | refine sW ?_ | refine x_frzSl (by rfl) ?_ | refine gJ ?_ | refine pQ ?_ | refine sU ?_ | refine sV (by rfl) (by rfl) (by rfl) (by rfl) ?_ | refine tX (by rfl) (by rfl) (by rfl) ?_) | (refine g_q ?_; first | refine q_mv (by rfl) ?_ | refine wN (by rfl) ?_ | (refine uJ ?_; try (first | refine vO (by rfl) (by assumption) ?_ | refine wY (by rfl) (by assumption) ?_ | refine wX (by rfl) ?_ | refine xY (by rfl) ?_ | refine xX (by rfl) ?_)) | (refine uL ?_; try (first | refine vP (by rfl) (by rfl) (by assumption) (by omega) (by omega) ?_ | refine wU (by rfl) (by rfl) (by assumption) (by omega) (by omega) ?_ | refine wR (by rfl) (by rfl) (by decide) (by decide) ?_ | refine yH (by rfl) (by rfl) (by decide) (by decide) ?_ | refine wE (by rfl) (by rfl) (by decide) (by decide) ?_ | refine yH (by rfl) (by rfl) (by omega) (by omega) ?_)) | refine q_cm (by rfl) (by rfl) ?_ | refine q_ar (by rfl) (by rfl) (by rfl) ?_ | refine vE (by rfl) ?_ | (refine uP ?_; try (first | refine wF (by rfl) ?_ | refine wG (by rfl) ?_ | refine wZ (by rfl) ?_)) | refine uO (by rfl) (by rfl) ?_ | refine wM (by rfl) ?_ | refine wO (by rfl) ?_ | refine uC (by rfl) (by rfl) (by first | decide | omega) ?_ | refine uG (by rfl) (by rfl) (by first | decide | omega) ?_ | refine uQ (by rfl) (by rfl) ?_ | refine uR (by rfl) (by rfl) (by rfl) ?_ | refine uI (by rfl) ?_ | refine uH (by rfl) ?_ | refine wA (by rfl) (by rfl) ?_ | refine wB (by rfl) (by rfl) ?_ | refine uF ?_ | refine uK ?_ | refine uN (by rfl) (by rfl) ?_ | refine vD (by rfl) (by rfl) ?_ | refine wD (by rfl) ?_ | refine q_mx (by rfl) (by rfl) ?_ | refine q_mn (by rfl) (by rfl) ?_ | refine uM (by rfl) ?_ | refine vF (by rfl) ?_ | refine vG (by rfl) ?_ | refine wC (by rfl) ?_ | refine wP (by rfl) (by rfl) ?_ | refine wQ (by rfl) (by rfl) ?_) | (refine g_c ?_; first | refine c_t (by rfl) ?_ | refine c_f (by rfl) ?_) | (refine g_k ?_; first | refine k_n ?_ | refine k_r ?_ | refine k_e (by rfl) ?_ | refine k_o (by rfl) ?_) | (refine g_lo ?_; first | refine l_r ?_ | refine l_e ?_) | (refine g_xd ?_; first | (refine xd_q (by rfl) ?_; try (first | refine q_mv (by rfl) ?_ | refine wN (by rfl) ?_ | (refine uJ ?_; try (first | refine vO (by rfl) (by assumption) ?_ | refine wY (by rfl) (by assumption) ?_ | refine wX (by rfl) ?_ | refine xY (by rfl) ?_ | refine xX (by rfl) ?_)) | (refine uL ?_; try (first | refine vP (by rfl) (by rfl) (by assumption) (by omega) (by omega) ?_ | refine wU (by rfl) (by rfl) (by assumption) (by omega) (by omega) ?_ | refine wR (by rfl) (by rfl) (by decide) (by decide) ?_ | refine yH (by rfl) (by rfl) (by decide) (by decide) ?_ | refine wE (by rfl) (by rfl) (by decide) (by decide) ?_ | refine yH (by rfl) (by rfl) (by omega) (by omega) ?_)) | refine q_cm (by rfl) (by rfl) ?_ | refine q_ar (by rfl) (by rfl) (by rfl) ?_ | refine vE (by rfl) ?_ | (refine uP ?_; try (first | refine wF (by rfl) ?_ | refine wG (by rfl) ?_ | refine wZ (by rfl) ?_)) | refine uO (by rfl) (by rfl) ?_ | refine wM (by rfl) ?_ | refine wO (by rfl) ?_ | refine uC (by rfl) (by rfl) (by first | decide | omega) ?_ | refine uG (by rfl) (by rfl) (by first | decide | omega) ?_ | refine uQ (by rfl) (by rfl) ?_ | refine uR (by rfl) (by rfl) (by rfl) ?_ | refine uI (by rfl) ?_ | refine uH (by rfl) ?_ | refine wA (by rfl) (by rfl) ?_ | refine wB (by rfl) (by rfl) ?_ | refine uF ?_ | refine uK ?_ | refine uN (by rfl) (by rfl) ?_ | refine vD (by rfl) (by rfl) ?_ | refine wD (by rfl) ?_ | refine q_mx (by rfl) (by rfl) ?_ | refine q_mn (by rfl) (by rfl) ?_ | refine uM (by rfl) ?_ | refine vF (by rfl) ?_ | refine vG (by rfl) ?_ | refine wC (by rfl) ?_ | refine wP (by rfl) (by rfl) ?_ | refine wQ (by rfl) (by rfl) ?_)) | (refine tD ?_; try (first | (refine uS (by rfl) ?_; try (first | refine yV (by rfl) (by rfl) ?_ | refine yN (by rfl) (by rfl) ?_ | refine yV (yJ _ _) (by rfl) ?_ | refine yN (yJ _ _) (by rfl) ?_)) | (refine uT (by rfl) ?_; try (first | refine vL (by omega) (by omega) ?_ | refine xJ (Nat.le_of_ble_eq_true (by rfl)) ?_ | refine yP (by rfl) (by rfl) (by rfl) (by omega) ?_)))) | refine wV (by rfl) (by rfl) (by rfl) (by rfl) (Nat.le_of_ble_eq_true (by rfl)) ?_ | (refine vT (by rfl) (by rfl) ?_; try (first | refine yP (by rfl) (by rfl) (by rfl) (Nat.le_of_ble_eq_true (by rfl)) ?_ | refine yP (by rfl) (by rfl) (by rfl) (by omega) ?_)) | refine tE (by rfl) (by rfl) ?_ | refine sC (by rfl) (by rfl) (by rfl) ?_ | refine vY (by rfl) ?_ | refine pP (by rfl) ?_) | (refine g_l ?_; first | (refine uS (by rfl) ?_; try (first | refine yV (by rfl) (by rfl) ?_ | refine yN (by rfl) (by rfl) ?_ | refine yV (yJ _ _) (by rfl) ?_ | refine yN (yJ _ _) (by rfl) ?_)) | (refine uT (by rfl) ?_; try (first | refine vL (by omega) (by omega) ?_ | refine xJ (Nat.le_of_ble_eq_true (by rfl)) ?_ | refine yP (by rfl) (by rfl) (by rfl) (by omega) ?_))) | (refine g_len ?_; first | refine vO (by rfl) (by assumption) ?_ | refine wY (by rfl) (by assumption) ?_ | refine wX (by rfl) ?_ | refine xY (by rfl) ?_ | refine xX (by rfl) ?_) | (refine g_nil ?_; first | refine wF (by rfl) ?_ | refine wG (by rfl) ?_ | refine wZ (by rfl) ?_) | (refine g_iad ?_; first | refine vP (by rfl) (by rfl) (by assumption) (by omega) (by omega) ?_ | refine wU (by rfl) (by rfl) (by assumption) (by omega) (by omega) ?_ | refine wR (by rfl) (by rfl) (by decide) (by decide) ?_ | refine yH (by rfl) (by rfl) (by decide) (by decide) ?_ | refine wE (by rfl) (by rfl) (by decide) (by decide) ?_ | refine yH (by rfl) (by rfl) (by omega) (by omega) ?_) | (refine g_box ?_; first | refine yV (by rfl) (by rfl) ?_ | refine yN (by rfl) (by rfl) ?_ | refine yV (yJ _ _) (by rfl) ?_ | refine yN (yJ _ _) (by rfl) ?_) | (refine g_cells ?_; first | refine vL (by omega) (by omega) ?_ | refine xJ (Nat.le_of_ble_eq_true (by rfl)) ?_) | (refine g_st ?_; first | refine yP (by rfl) (by rfl) (by rfl) (Nat.le_of_ble_eq_true (by rfl)) ?_) | (refine g_b ?_; first | refine b_r ?_ | refine b_n ?_) | (refine g_r ?_; first | refine r_tmp (by rfl) ?_ | refine r_cell ?_ | refine r_nil ?_))
 exact hgo.out) : A := h ⟨k⟩
def sJ (l : List R2) : Prop := ∀ p ∈ l, tU p.1 p.2
def tK (l : List Rat) : Prop := ∀ i (h : i + 1 < l.length), l[i] < l[i + 1]
theorem qU {α : Type} {l : List α} {i : Nat} (h : i < l.length) : l.take (i + 1) = l.take i ++ [l[i]] := by
 rw [List.take_succ_eq_append_getElem h]
theorem ne_pair (p q : R2) (X : Bool) : (bif true then !(p.1 == q.1 && (p.2 == q.2 && true)) else X) = !(dec (p = q)) := by
 cases h : dec (p = q)
 ·have h' := yK.1 h
  cases h1 : p.1 == q.1 && (p.2 == q.2 && true)
  ·rfl
  ·simp at h1
   exact absurd (Prod.ext h1.1 h1.2) h'
 ·have h' := yI.1 h
  subst h'
  simp
section
variable {α : Type} {E : El α}
structure Fill (E : El α) (z : List C) (n : Nat) (cells : List C) (l : List α) : Prop where
 out : ∃ ds, cells = ds ++ (List.replicate (n - l.length) z).flatten ∧ Els E ds l
 le : l.length ≤ n
 z : z.length = E.s
theorem flat_len (z : List C) (n : Nat) : (List.replicate n z).flatten.length = n * z.length := by simp
theorem Fill.zero {z : List C} {n : Nat} (hz : z.length = E.s) : Fill E z n (List.replicate n z).flatten [] := ⟨⟨[], by simp, .nil⟩, by simp, hz⟩
theorem Fill.len {z : List C} {n : Nat} {cells : List C} {l : List α} (h : Fill E z n cells l) : cells.length = n * E.s := by
 obtain ⟨ds, rfl, h1⟩ := h.out
 have := h.le
 rw [List.length_append, h1.len, flat_len, h.z, ← Nat.add_mul]
 congr 1
 omega
theorem Fill.put {z : List C} {n : Nat} {cells cs : List C} {l : List α} {a : α} (h : Fill E z n cells l) (hl : l.length < n) (ha : E.p cs a) : Fill E z n (splice cells (l.length * E.s) cs) (l ++ [a]) := by
 obtain ⟨ds, rfl, h1⟩ := h.out
 refine ⟨⟨ds ++ cs, ?_, h1.snoc ha⟩, by simp; omega, h.z⟩
 have e : n - l.length = (n - (l ++ [a]).length) + 1 := by simp; omega
 have hd := h1.len
 have hcs := E.len ha
 rw [e, List.replicate_succ, List.flatten_cons]
 unfold splice
 rw [← hd, List.take_left, List.drop_append, List.drop_of_length_le (by omega), Nat.add_sub_cancel_left, List.nil_append, hcs, ← h.z, List.drop_left]
theorem Fill.done {z : List C} {n : Nat} {cells : List C} {l : List α} (h : Fill E z n cells l) (hl : l.length = n) : Els E cells l := by
 obtain ⟨ds, rfl, h1⟩ := h.out
 rw [hl, Nat.sub_self]
 simpa using h1
end
theorem map_take' {l : List R2} {i : Nat} (h : i < l.length) : (l.take (i + 1)).map rt = (l.take i).map rt ++ [rt l[i]] := by
 rw [qU h, List.map_append]
 rfl
theorem sJ.step {l : List R2} {i : Nat} (h : i < l.length) (h1 : sJ (l.take i)) (h2 : tU l[i].1 l[i].2) : sJ (l.take (i + 1)) := by
 intro p hp
 rw [qU h] at hp
 rcases List.mem_append.1 hp with hp | hp
 ·exact h1 p hp
 ·simp at hp
  subst hp
  exact h2
attribute [local irreducible] yA semH semC qLen qNil qIad qSlc qIdx xA yM xH appX appI slcX awpF yQ xM xopF xT qval lval seqQ xO wT wL wI cnd arith IntKind.wrap
theorem num_AllValid {c : C} {l : List R2} (hc : Ls elP c l) (hl : l.length < 1073741824) : semC Tryz.prog n_num_AllValid [.c c] (uU (sJ l)) := by
 refine yC ok_num_AllValid rfl (show HFVs [.c c] from ⟨hc.hf, trivial⟩) ?_
 refine go5 ?_
 refine yS (fun n vs H => ∃ i : Nat, vs = [.c c, i64 l.length, i64 i] ∧ n = l.length - i ∧ i ≤ l.length ∧ sJ (l.take i)) (by rfl) ⟨0, rfl, rfl, by omega, by intro p hp; simp at hp⟩ ?_
 rintro n vs H ⟨i, rfl, rfl, h1, h2⟩
 refine go5 ?_
 cases hq : yA Cm.lss (i : Int) (l.length : Int)
 ·simp [yA] at hq
  have ei : i = l.length := by omega
  subst ei
  rw [List.take_length] at h2
  refine go5 ?_
  exact uU.fz ⟨fun _ => h2, fun _ => rfl⟩
 ·simp [yA] at hq
  refine go5 ?_
  refine xW hc hq (by omega) rfl (fun cs hcs => ?_)
  obtain rfl := hcs
  refine go5 ?_
  refine yB (num_Valid l[i].1 l[i].2) (fun u hu => ?_)
  obtain ⟨z, rfl, hz⟩ := hu
  cases z
  ·refine go5 ?_
   exact uU.fz ⟨fun h => (by cases h), fun h => absurd (hz.2 (h _ (sP hq))) (by decide)⟩
  ·refine go5 ?_
   rw [xD i (by omega)]
   exact l_n (by rfl) (by omega) ⟨i + 1, rfl, rfl, by omega, h2.step hq (hz.1 rfl)⟩
theorem ref01_Are {c : C} {l : List R2} (hc : Ls elP c l) (hl : l.length < 1073741824) : semC Tryz.prog n_ref01_Are [.c c] (uU (sJ l)) := by
 refine yC ok_ref01_Are rfl (show HFVs [.c c] from ⟨hc.hf, trivial⟩) ?_
 refine go5 ?_
 refine yS (fun n vs H => ∃ i : Nat, vs = [.c c, i64 i] ∧ n = l.length - i ∧ i ≤ l.length ∧ sJ (l.take i)) (by rfl) ⟨0, rfl, rfl, by omega, by intro p hp; simp at hp⟩ ?_
 rintro n vs H ⟨i, rfl, rfl, h1, h2⟩
 refine go5 ?_
 cases hq : yA Cm.lss (i : Int) (l.length : Int)
 ·simp [yA] at hq
  have ei : i = l.length := by omega
  subst ei
  rw [List.take_length] at h2
  refine go5 ?_
  exact uU.fz ⟨fun _ => h2, fun _ => rfl⟩
 ·simp [yA] at hq
  refine go5 ?_
  refine xW hc hq (by omega) rfl (fun cs hcs => ?_)
  obtain rfl := hcs
  refine go5 ?_
  refine yB (ref01_Is l[i].1 l[i].2) (fun u hu => ?_)
  obtain ⟨z, rfl, hz⟩ := hu
  cases z
  ·refine go5 ?_
   exact uU.fz ⟨fun h => (by cases h), fun h => absurd (hz.2 (h _ (sP hq))) (by decide)⟩
  ·refine go5 ?_
   rw [xD i (by omega)]
   exact l_n (by rfl) (by omega) ⟨i + 1, rfl, rfl, by omega, h2.step hq (hz.1 rfl)⟩
theorem ref02_Same {c d : C} {l m : List R2} (hc : Ls elP c l) (hd : Ls elP d m) (hl : l.length < 1073741824) (hm : m.length < 1073741824) : semC Tryz.prog n_ref02_Same [.c c, .c d] (uU (l = m)) := by
 refine yC ok_ref02_Same rfl (show HFVs [.c c, .c d] from ⟨hc.hf, hd.hf, trivial⟩) ?_
 refine go5 ?_
 refine yS (fun n vs H => ∃ i : Nat, vs = [.c c, .c d, i64 i] ∧ n = l.length - i ∧ i ≤ l.length ∧ i ≤ m.length ∧ l.take i = m.take i) (by rfl) ⟨0, rfl, rfl, by omega, by omega, rfl⟩ ?_
 rintro n vs H ⟨i, rfl, rfl, h1, h1', h2⟩
 refine go5 ?_
 cases hq : yA Cm.lss (i : Int) (l.length : Int)
 ·simp [yA] at hq
  have ei : i = l.length := by omega
  refine go5 ?_
  cases hr : yA Cm.eql (l.length : Int) (m.length : Int)
  ·simp [yA] at hr
   exact uU.fz ⟨fun h => (by cases h), fun h => absurd (congrArg List.length h) (by omega)⟩
  ·simp [yA] at hr
   refine uU.fz ⟨fun _ => ?_, fun _ => rfl⟩
   rwa [List.take_of_length_le (by omega), List.take_of_length_le (by omega)] at h2
 ·simp [yA] at hq
  refine go5 ?_
  cases hq2 : yA Cm.lss (i : Int) (m.length : Int)
  ·simp [yA] at hq2
   refine go5 ?_
   cases hr : yA Cm.eql (l.length : Int) (m.length : Int)
   ·simp [yA] at hr
    exact uU.fz ⟨fun h => (by cases h), fun h => absurd (congrArg List.length h) (by omega)⟩
   ·simp [yA] at hr
    omega
  ·simp [yA] at hq2
   refine go5 ?_
   refine xW hc hq (by omega) rfl (fun cs hcs => ?_)
   obtain rfl := hcs
   refine go5 ?_
   refine xW hd hq2 (by omega) rfl (fun cs hcs => ?_)
   obtain rfl := hcs
   refine go5 ?_
   rw [ne_pair]
   cases he : dec (l[i] = m[i])
   ·refine go5 ?_
    refine uU.fz ⟨fun h => (by cases h), fun h => absurd ?_ (yK.1 he)⟩
    subst h
    rfl
   ·refine go5 ?_
    rw [xD i (by omega)]
    refine l_n (by rfl) (by omega) ⟨i + 1, rfl, rfl, by omega, by omega, ?_⟩
    rw [qU hq, qU hq2, h2, yI.1 he]
theorem num_In {c : C} {l : List R2} (hc : Ls elP c l) (hv : sJ l) (hl : l.length < 1073741824) : semC Tryz.prog n_num_In [.c c] (LsK (elQ 2) (l.map rt)) := by
 refine yC ok_num_In rfl (show HFVs [.c c] from ⟨hc.hf, trivial⟩) ?_
 refine go5 ?_
 refine vM (by rfl) (by rfl) ⟨by omega, by omega, by omega, by omega⟩ ?_
 refine go5 ?_
 refine yS (fun n vs H => ∃ (i : Nat) (cells : List C) (R : Hp), vs = [.c (.sl 0 0 l.length (some l.length) 6), .c c, i64 l.length, i64 i] ∧ H = .live ⟨cells, wS, .rw⟩ :: R ∧ n = l.length - i ∧ i ≤ l.length ∧ Fill (elQ 2) zeroQ l.length cells ((l.take i).map rt)) (by rfl) ⟨0, _, _, rfl, rfl, rfl, by omega, .zero rfl⟩ ?_
 rintro n vs H ⟨i, cells, R, rfl, rfl, rfl, h1, h2⟩
 refine go5 ?_
 cases hq : yA Cm.lss (i : Int) (l.length : Int)
 ·simp [yA] at hq
  have ei : i = l.length := by omega
  subst ei
  rw [List.take_length] at h2
  have h3 := h2.done (by simp)
  refine go5 ?_
  have h4 := Ls.imm h3
  rw [List.length_map] at h4
  exact ⟨_, .c (.sl (bx := ⟨cells, wS, .rw⟩) (by rfl) (by simp) (by simp) (by
   rw [List.drop_zero, List.take_of_length_le (by rw [h2.len]; exact Nat.le_refl _)]
   exact .hf h3.hf)), _, rfl, h4⟩
 ·simp [yA] at hq
  refine go5 ?_
  refine xW hc hq (by omega) rfl (fun cs hcs => ?_)
  obtain rfl := hcs
  refine go5 ?_
  refine yB (q_Of (hv _ (sP hq))) (fun u hu => ?_)
  obtain ⟨ds, rfl, hd⟩ := hu
  obtain ⟨_, _, _, _, _, _, rfl⟩ := id hd.six
  have hlen : cells.length = l.length * 6 := h2.len
  have htl : ((l.take i).map rt).length = i := by simp; omega
  refine go5 ?_
  rw [xD i (by omega)]
  have h3 := h2.put (by omega) hd
  rw [htl, ← map_take' hq] at h3
  exact l_n (by rfl) (by omega) ⟨i + 1, _, R ++ [_], rfl, rfl, rfl, by omega, by rw [show 0 + ((i : Nat) : Int).toNat * 6 = i * 6 by omega]; exact h3⟩
theorem num_Q_IsZero {k : Nat} {cs : List C} {q : Rat} (hx : IQ k cs q) : semC Tryz.prog n_num_Q_IsZero [.agg cs] (uU (q = 0)) := by
 refine yC ok_num_Q_IsZero rfl (show HFVs [.agg cs] from ⟨hx.hf, trivial⟩) ?_
 obtain ⟨a, b, c, d, e, f, rfl, h1, h2⟩ := hx.is.six
 refine go5 ?_
 refine yB (pG h1) (fun u hu => ?_)
 obtain rfl := hu
 refine go5 ?_
 refine uU.fz ?_
 have : yA Cm.eql (sgn (rp q).1) 0 = true ↔ sgn (rp q).1 = 0 := by simp [yA]
 rw [this, sgn_zero_iff]
 exact Rat.num_eq_zero
theorem qF {k : Nat} {cs : List C} {q : Rat} (hx : IR k cs q) : semC Tryz.prog n_ref01_Q_IsZero [.agg cs] (uU (q = 0)) := by
 refine yC ok_ref01_Q_IsZero rfl (show HFVs [.agg cs] from ⟨hx.hf, trivial⟩) ?_
 obtain ⟨a, b, c, d, x, rfl, h1, h2, e⟩ := hx.is.four
 refine go5 ?_
 refine yB (tZ h1) (fun u hu => ?_)
 obtain ⟨z, rfl, hz⟩ := hu
 refine go5 ?_
 exact uU.fz (hz.trans Rat.num_eq_zero)
theorem ref01_List {c : C} {l : List R2} (hc : Ls elP c l) (hv : sJ l) (hl : l.length < 1073741824) : semC Tryz.prog n_ref01_List [.c c] (LsK (elR 2) (l.map rt)) := by
 refine yC ok_ref01_List rfl (show HFVs [.c c] from ⟨hc.hf, trivial⟩) ?_
 refine go5 ?_
 refine yS (fun n vs H => ∃ (i : Nat) (o : C), vs = [.c c, .c o, i64 i] ∧ n = l.length - i ∧ i ≤ l.length ∧ Out (elR 2) yF 0 H o ((l.take i).map rt)) (by rfl) ⟨0, _, rfl, rfl, by omega, .nil⟩ ?_
 rintro n vs H ⟨i, o, rfl, rfl, h1, h2⟩
 refine go5 ?_
 cases hq : yA Cm.lss (i : Int) (l.length : Int)
 ·simp [yA] at hq
  have ei : i = l.length := by omega
  subst ei
  rw [List.take_length] at h2
  refine go5 ?_
  exact h2.done
 ·simp [yA] at hq
  refine go5 ?_
  refine xW hc hq (by omega) rfl (fun cs hcs => ?_)
  obtain rfl := hcs
  refine go5 ?_
  refine yB (r_Of (hv _ (sP hq))) (fun u hu => ?_)
  obtain ⟨ds, rfl, hd⟩ := hu
  obtain ⟨_, _, _, _, rfl⟩ := id hd.four
  have htl : ((l.take i).map rt).length = i := by simp; omega
  refine go5 ?_
  refine app_one (F := []) (R := H) rfl h2 (by rfl) (by rfl) rfl rfl hd (by rw [htl]; omega) (fun R' o' h3 => ?_)
  rw [← map_take' hq] at h3
  refine go5 ?_
  rw [xD i (by omega)]
  exact l_n (by rfl) (by omega) ⟨i + 1, o', rfl, rfl, by omega, h3⟩
theorem rises_take {l : List Rat} {i : Nat} (h : i < l.length) (h1 : ∀ j (h : j + 1 < l.length), j + 1 < i → l[j] < l[j + 1]) (h2 : ∀ (h0 : 0 < i), l[i - 1]'(by omega) < l[i]) : ∀ j (h : j + 1 < l.length), j + 1 < i + 1 → l[j] < l[j + 1] := by
 intro j hj hlt
 rcases Nat.lt_or_ge (j + 1) i with h3 | h3
 ·exact h1 j hj h3
 ·have e : j + 1 = i := by omega
  subst e
  exact h2 (by omega)
theorem ref24_rises {c : C} {l : List R2} (hc : Ls elP c l) (hv : sJ l) (hl : l.length < 1073741824) : semC Tryz.prog n_ref24_rises [.c c] (uU (tK (l.map rt))) := by
 refine yC ok_ref24_rises rfl (show HFVs [.c c] from ⟨hc.hf, trivial⟩) ?_
 refine go5 ?_
 refine yS (fun n vs H => ∃ i : Nat, vs = [.c c, i64 i] ∧ n = l.length + 1 - i ∧ 1 ≤ i ∧ i ≤ l.length + 1 ∧ ∀ j (h : j + 1 < (l.map rt).length), j + 1 < i → (l.map rt)[j] < (l.map rt)[j + 1]) (by rfl) ⟨1, rfl, rfl, by omega, by omega, fun j _ h => by omega⟩ ?_
 rintro n vs H ⟨i, rfl, rfl, h1, h2, h3⟩
 refine go5 ?_
 cases hq : yA Cm.lss (i : Int) (l.length : Int)
 ·simp [yA] at hq
  refine go5 ?_
  exact uU.fz ⟨fun _ j hj => h3 j hj (by simp at hj; omega), fun _ => rfl⟩
 ·simp [yA] at hq
  refine go5 ?_
  rw [show arith .sub .i64 (i : Int) 1 = ((i - 1 : Nat) : Int) by rw [xV, yE (by omega) (by omega)]; omega]
  refine go5 ?_
  have hq1 : i - 1 < l.length := by omega
  refine xW hc hq1 (by omega) rfl (fun cs hcs => ?_)
  obtain rfl := hcs
  refine go5 ?_
  refine xW hc hq (by omega) rfl (fun cs hcs => ?_)
  obtain rfl := hcs
  refine go5 ?_
  refine yG (r_Of (hv _ (sP hq1))) (fun u hu => ?_)
  obtain ⟨ds, rfl, hd⟩ := hu
  refine go5 ?_
  refine yG (r_Of (hv _ (sP hq))) (fun u hu => ?_)
  obtain ⟨es, rfl, he⟩ := hu
  refine go5 ?_
  refine yG (r_Cmp hd he (by decide)) (fun u hu => ?_)
  obtain rfl := hu
  refine go5 ?_
  rw [cq_geq]
  cases hg : dec (rt l[i] ≤ rt l[i - 1])
  ·refine go5 ?_
   rw [xD i (by omega)]
   refine l_n (by rfl) (by omega) ⟨i + 1, rfl, rfl, by omega, by omega, ?_⟩
   refine rises_take (by simpa using hq) h3 (fun h0 => ?_)
   have := yK.1 hg
   simp only [List.getElem_map]
   exact Rat.not_le.1 this
  ·refine go5 ?_
   refine uU.fz ⟨fun h => (by cases h), fun h => ?_⟩
   have h5 := h (i - 1) (by simp; omega)
   simp only [List.getElem_map, show i - 1 + 1 = i by omega] at h5
   exact absurd (yI.1 hg) (Rat.not_le.2 h5)
end Go.Proofs.YtjncgcnofiaiaaaGreat

set_option linter.unusedVariables false
set_option linter.unusedSimpArgs false
namespace Go.Proofs.YtjncgcnofiaiaaaGreat
open Go.RowKit
set_option maxRecDepth 20000
section
variable {α : Type} {E : El α}
theorem Out.le {el : TypeId} {m m' : Nat} {H : Hp} {c : C} {l : List α} (h : Out E el m H c l) (hm : m' ≤ m) : Out E el m' H c l := by
 cases h with
 | nil => exact .nil
 | sl h1 hb hn hc h => exact .sl (by omega) hb hn hc h
end
def delayL (size : Nat) (first : R2) (l : List R2) : List R2 := (List.replicate size first ++ l).take l.length
noncomputable def delayR (size : Int) (first : R2) (l : List R2) : List R2 × Int :=
 bif dec (size < 0 ∨ 64 < size) then ([], 1) else bif dec (64 < l.length) then ([], 3) else bif dec (tU first.1 first.2 ∧ sJ l) then (delayL size.toNat first l, 0) else ([], 1)
def DelK (size : Int) (first : R2) (l : List R2) (u : V) : Prop := ∃ c, u = .tup [.c c, i64 (delayR size first l).2] ∧ Ls elP c (delayR size first l).1
theorem DelK.bad {size : Int} {first : R2} {l : List R2} {H : Hp} {e : Int} (h : delayR size first l = ([], e)) : ∃ d, FzV H (.tup [.c .nilSl, i64 e]) d ∧ DelK size first l d :=
 ⟨_, .tup (.cons (.c (.hf trivial)) (.cons (.c (.hf trivial)) .nil)), .nilSl, by rw [h]; rfl, by rw [h]; exact .nil⟩
theorem DelK.ok {size : Int} {first : R2} {l m : List R2} {H : Hp} {c : C} {el : TypeId} (h : delayR size first l = (m, 0)) (ho : Out elP el 0 H c m) : ∃ d, FzV H (.tup [.c c, i64 0]) d ∧ DelK size first l d := by
 obtain ⟨d, h1, h2⟩ := ho.fz (p := (· ≠ .bor)) (by simp)
 exact ⟨_, .tup (.cons (.c h1) (.cons (.c (.hf trivial)) .nil)), d, by rw [h]; rfl, by rw [h]; exact h2⟩
attribute [local irreducible] yA semH semC qLen qNil qIad qSlc qIdx xA yM xH appX appI slcX awpF yQ xM xopF xT qval lval seqQ xO wT wL wI cnd arith IntKind.wrap
end Go.Proofs.YtjncgcnofiaiaaaGreat

set_option linter.unusedVariables false
set_option linter.unusedSimpArgs false
namespace Go.Proofs.YtjncgcnofiaiaaaGreat
open Go.RowKit
set_option maxRecDepth 20000
def ev : List Rat → Rat → Rat
 | [], _ => 0
 | a :: l, x => a + x * ev l x
theorem sH : ∀ (l m : List Rat) (x : Rat), ev (l ++ m) x = ev l x + x ^ l.length * ev m x
 | [], m, x => by
  simp only [List.nil_append, List.length_nil, ev, Rat.pow_zero]
  grind
 | a :: l, m, x => by
  simp only [List.cons_append, List.length_cons, ev, sH l m x, Rat.pow_succ]
  grind
theorem pY (a x : Rat) : ev [a] x = a := by
 simp only [ev]
 grind
theorem ev_zeros : ∀ (n : Nat) (x : Rat), ev (List.replicate n 0) x = 0
 | 0, x => rfl
 | n + 1, x => by
  rw [List.replicate_succ]
  simp only [ev, ev_zeros n x]
  grind
theorem ev_take {l : List Rat} {i : Nat} (h : i < l.length) (x : Rat) : ev (l.take (i + 1)) x = ev (l.take i) x + x ^ i * l[i] := by
 rw [qU h, sH, pY, List.length_take, Nat.min_eq_left (by omega)]
theorem ev_drop {l : List Rat} {i : Nat} (h : i < l.length) (x : Rat) : ev (l.drop i) x = l[i] + x * ev (l.drop (i + 1)) x := by
 rw [List.drop_eq_getElem_cons h]
 rfl
theorem ev_set : ∀ {l : List Rat} {i : Nat} (h : i < l.length) (b x : Rat), ev (l.set i b) x = ev l x + x ^ i * (b - l[i])
 | a :: l, 0, h, b, x => by
  simp only [List.set_cons_zero, ev, List.getElem_cons_zero, Rat.pow_zero]
  grind
 | a :: l, i + 1, h, b, x => by
  have h' : i < l.length := Nat.lt_of_succ_lt_succ h
  simp only [List.set_cons_succ, ev, List.getElem_cons_succ, ev_set h' b x, Rat.pow_succ]
  grind
def Top (l : List Rat) : Prop := ∀ h : 0 < l.length, l[l.length - 1] ≠ 0
structure Cut (l m : List Rat) : Prop where
 ev : ∀ x, ev m x = ev l x
 len : m.length ≤ l.length
 top : Top m
def vQ (E : El Rat) (R : List Rat → Prop) (u : V) : Prop := ∃ c m, u = .c c ∧ Ls E c m ∧ R m
theorem vQ.fz {E : El Rat} {R : List Rat → Prop} {m : List Rat} {c : C} {H : Hp} (h : Ls E c m) (r : R m) : ∃ d, FzV H (.c c) d ∧ vQ E R d := ⟨_, .c (.hf h.hf), c, m, rfl, h, r⟩
theorem vQ.fzo {E : El Rat} {R : List Rat → Prop} {m : List Rat} {c : C} {H : Hp} {el : TypeId} {j : Nat} (h : Out E el j H c m) (r : R m) : ∃ d, FzV H (.c c) d ∧ vQ E R d := by
 obtain ⟨d, h1, h2⟩ := h.fz (p := (· ≠ .bor)) (by simp)
 exact ⟨_, .c h1, d, m, rfl, h2, r⟩
theorem Sz.mulT {k m : Nat} {a b : Int} (h1 : Sz k a) (h2 : Sz m b) : Sz (k + m) (a * b) := by
 unfold Sz at *
 rw [Int.natAbs_mul, Nat.pow_add]
 exact Nat.mul_lt_mul'' h1 h2
theorem Sz.add2 {k m : Nat} {a b : Int} (h1 : Sz k a) (h2 : Sz k b) (hm : k + 1 ≤ m) : Sz m (a + b) := (h1.add h2).up hm
attribute [local irreducible] yA semH semC qLen qNil qIad qSlc qIdx xA yM xH appX appI slcX awpF yQ xM xopF xT qval lval seqQ xO wT wL wI cnd arith IntKind.wrap
theorem q_Add2 {k m : Nat} {cs ds : List C} {a b : Rat} (hx : IQ k cs a) (hy : IQ m ds b) (hk : k + m + 1 ≤ 134217728) : semC Tryz.prog n_num_Q_Add [.agg cs, .agg ds] (QV (k + m + 1) (a + b)) := by
 have s1 : Sz (k + m + 1) _ := (hx.bd.n.mulT hy.bd.d).add2 ((hy.bd.n.mulT hx.bd.d).up (show m + k ≤ k + m by omega)) (Nat.le_refl _)
 have s2 : Sz (k + m + 1) _ := (hx.bd.d.mulT hy.bd.d).up (by omega)
 have hx' := hx.up (show k ≤ k + m by omega)
 have hy' := hy.up (show m ≤ k + m by omega)
 exact vR (fun u hu => hu.rat (dd_ne a b) (rat_add a b) s1 s2) (num_Q_Add (Sz.cl (by omega)) (quoOk (by omega)) hx.is hy.is hx'.bd hy'.bd (by omega) s1 s2)
theorem gR {k m : Nat} {cs ds : List C} {a b : Rat} (hx : IQ k cs a) (hy : IQ m ds b) (hk : k + m + 1 ≤ 134217728) : semC Tryz.prog n_num_Q_Sub [.agg cs, .agg ds] (QV (k + m + 1) (a - b)) := by
 have s1 : Sz (k + m + 1) _ := (hx.bd.n.mulT hy.bd.d).add2 ((hy.bd.n.neg.mulT hx.bd.d).up (show m + k ≤ k + m by omega)) (Nat.le_refl _)
 have s2 : Sz (k + m + 1) _ := (hx.bd.d.mulT hy.bd.d).up (by omega)
 have hx' := hx.up (show k ≤ k + m by omega)
 have hy' := hy.up (show m ≤ k + m by omega)
 exact vR (fun u hu => hu.rat (dd_ne a b) (rat_sub a b) s1 s2) (num_Q_Sub (Sz.cl (by omega)) (quoOk (by omega)) hx.is hy.is hx'.bd hy'.bd (by omega) s1 s2)
theorem q_Mul2 {k m : Nat} {cs ds : List C} {a b : Rat} (hx : IQ k cs a) (hy : IQ m ds b) (hk : k + m ≤ 134217728) : semC Tryz.prog n_num_Q_Mul [.agg cs, .agg ds] (QV (k + m) (a * b)) := by
 have hx' := hx.up (show k ≤ k + m by omega)
 have hy' := hy.up (show m ≤ k + m by omega)
 exact vR (fun u hu => hu.rat (dd_ne a b) (rat_mul a b) (hx.bd.n.mulT hy.bd.n) (hx.bd.d.mulT hy.bd.d)) (num_Q_Mul (Sz.cl (show k + m ≤ 268435456 by omega)) (quoOk (by omega)) hx.is hy.is hx'.bd hy'.bd (by omega) (hx.bd.n.mulT hy.bd.n) (hx.bd.d.mulT hy.bd.d))
theorem q_Div2 {k m : Nat} {cs ds : List C} {a b : Rat} (hx : IQ k cs a) (hy : IQ m ds b) (hk : k + m ≤ 134217728) (h0 : b ≠ 0) : semC Tryz.prog n_num_Q_Div [.agg cs, .agg ds] (QV (k + m) (a / b)) := by
 have s1 := hx.bd.n.mulT hy.bd.d
 have s2 := hx.bd.d.mulT hy.bd.n
 have hx' := hx.up (show k ≤ k + m by omega)
 have hy' := hy.up (show m ≤ k + m by omega)
 exact vR (fun u hu => hu.rat (Int.mul_ne_zero (Int.ne_of_gt (rp_pos a)) (num_ne h0)) (rat_div a b h0) s1 s2) (num_Q_Div (Sz.cl (show k + m ≤ 268435456 by omega)) (quoOk (by omega)) hx.is hy.is hx'.bd hy'.bd (by omega) (num_ne h0) s1 s2)
theorem q_Cmp2 {k m : Nat} {cs ds : List C} {a b : Rat} (hx : IQ k cs a) (hy : IQ m ds b) (hk : k + m ≤ 268435456) : semC Tryz.prog n_num_Q_Cmp [.agg cs, .agg ds] (IntK (cq a b)) := q_Cmp (hx.up (show k ≤ k + m by omega)) (hy.up (show m ≤ k + m by omega)) hk
theorem r_Add2 {k m : Nat} {cs ds : List C} {a b : Rat} (hx : IR k cs a) (hy : IR m ds b) (hk : k + m + 1 ≤ 134217728) : semC Tryz.prog n_ref01_Q_Add [.agg cs, .agg ds] (RQV (k + m + 1) (a + b)) := by
 have s1 : Sz (k + m + 1) _ := (hx.bd.n.mulT hy.bd.d).add2 ((hy.bd.n.mulT hx.bd.d).up (show m + k ≤ k + m by omega)) (Nat.le_refl _)
 have s2 : Sz (k + m + 1) _ := (hx.bd.d.mulT hy.bd.d).up (by omega)
 have hx' := hx.up (show k ≤ k + m by omega)
 have hy' := hy.up (show m ≤ k + m by omega)
 exact vR (fun u hu => hu.rat (dd_ne a b) (rat_add a b) s1 s2) (ref01_Q_Add hx.is hy.is hx'.bd hy'.bd (by omega))
theorem r_Sub2 {k m : Nat} {cs ds : List C} {a b : Rat} (hx : IR k cs a) (hy : IR m ds b) (hk : k + m + 1 ≤ 134217728) : semC Tryz.prog n_ref01_Q_Sub [.agg cs, .agg ds] (RQV (k + m + 1) (a - b)) := by
 have s1 : Sz (k + m + 1) _ := (hx.bd.n.mulT hy.bd.d).add2 ((hy.bd.n.neg.mulT hx.bd.d).up (show m + k ≤ k + m by omega)) (Nat.le_refl _)
 have s2 : Sz (k + m + 1) _ := (hx.bd.d.mulT hy.bd.d).up (by omega)
 have hx' := hx.up (show k ≤ k + m by omega)
 have hy' := hy.up (show m ≤ k + m by omega)
 exact vR (fun u hu => hu.rat (dd_ne a b) (rat_sub a b) s1 s2) (ref01_Q_Sub hx.is hy.is hx'.bd hy'.bd (by omega))
theorem gQ {k m : Nat} {cs ds : List C} {a b : Rat} (hx : IR k cs a) (hy : IR m ds b) (hk : k + m ≤ 134217727) : semC Tryz.prog n_ref01_Q_Mul [.agg cs, .agg ds] (RQV (k + m) (a * b)) := by
 have hx' := hx.up (show k ≤ k + m by omega)
 have hy' := hy.up (show m ≤ k + m by omega)
 exact vR (fun u hu => hu.rat (dd_ne a b) (rat_mul a b) (hx.bd.n.mulT hy.bd.n) (hx.bd.d.mulT hy.bd.d)) (ref01_Q_Mul hx.is hy.is hx'.bd hy'.bd (by omega))
theorem r_Div2 {k m : Nat} {cs ds : List C} {a b : Rat} (hx : IR k cs a) (hy : IR m ds b) (hk : k + m ≤ 134217727) (h0 : b ≠ 0) : semC Tryz.prog n_ref01_Q_Div [.agg cs, .agg ds] (RQV (k + m) (a / b)) := by
 have s1 := hx.bd.n.mulT hy.bd.d
 have s2 := hx.bd.d.mulT hy.bd.n
 have hx' := hx.up (show k ≤ k + m by omega)
 have hy' := hy.up (show m ≤ k + m by omega)
 exact vR (fun u hu => hu.rat (Int.mul_ne_zero (Int.ne_of_gt (rp_pos a)) (num_ne h0)) (rat_div a b h0) s1 s2) (ref01_Q_Div hx.is hy.is hx'.bd hy'.bd (by omega) (num_ne h0))
theorem r_Cmp2 {k m : Nat} {cs ds : List C} {a b : Rat} (hx : IR k cs a) (hy : IR m ds b) (hk : k + m ≤ 268435456) : semC Tryz.prog n_ref01_Q_Cmp [.agg cs, .agg ds] (IntK (cq a b)) := r_Cmp (hx.up (show k ≤ k + m by omega)) (hy.up (show m ≤ k + m by omega)) hk
theorem qp_Trim {k : Nat} {c : C} {l : List Rat} (hc : Ls (elQ k) c l) (hl : l.length < 1073741824) : semC Tryz.prog n_qp_Trim [.c c] (vQ (elQ k) (Cut l)) := by
 refine yC ok_qp_Trim rfl (show HFVs [.c c] from ⟨hc.hf, trivial⟩) ?_
 refine go5 ?_
 refine yS (fun n vs H => ∃ (c : C) (m : List Rat), vs = [.c c] ∧ n = m.length ∧ Ls (elQ k) c m ∧ (∀ x, ev m x = ev l x) ∧ m.length ≤ l.length) (by rfl) ⟨c, l, rfl, rfl, hc, fun _ => rfl, Nat.le_refl _⟩ ?_
 clear hc
 rintro n vs H ⟨c, m, rfl, rfl, hc, h1, h2⟩
 refine go5 ?_
 cases hq : yA Cm.gtr (m.length : Int) 0
 ·simp [yA] at hq
  subst hq
  refine go5 ?_
  exact vQ.fz hc ⟨h1, h2, fun h => absurd h (by simp)⟩
 ·simp [yA] at hq
  have hq0 : 0 < m.length := hq
  have e1 : arith .sub .i64 (m.length : Int) 1 = ((m.length - 1 : Nat) : Int) := by rw [xV, yE (by omega) (by omega)]; omega
  refine go5 ?_
  rw [e1]
  refine go5 ?_
  refine xW hc (i := m.length - 1) (by omega) (by omega) rfl (fun cs hcs => ?_)
  refine go5 ?_
  refine yB (num_Q_IsZero hcs) (fun u hu => ?_)
  obtain ⟨z, rfl, hz⟩ := hu
  cases z
  ·refine go5 ?_
   exact vQ.fz hc ⟨h1, h2, fun h e => absurd (hz.2 e) (by decide)⟩
  ·have hz := hz.1 rfl
   refine go5 ?_
   rw [e1]
   refine go5 ?_
   refine pE (l := m) (b := ((m.length - 1 : Nat) : Int)) (by rfl) hc rfl (by rfl) (by rfl) (by omega) (by omega) (by omega) (fun c' hc' => ?_)
   refine go5 ?_
   have e2 : (m.drop (0 : Int).toNat).take (((m.length - 1 : Nat) : Int).toNat - (0 : Int).toNat) = m.take (m.length - 1) := by simp
   rw [e2] at hc'
   refine l_n (by rfl) (n' := m.length - 1) (by omega) ⟨c', m.take (m.length - 1), rfl, by simp, hc', fun x => ?_, by simp; omega⟩
   have h3 := ev_take (l := m) (i := m.length - 1) (by omega) x
   rw [hz, show m.length - 1 + 1 = m.length by omega, List.take_length] at h3
   rw [← h1 x, h3]
   grind
theorem qp_Const {k : Nat} {cs : List C} {q : Rat} (hx : IQ k cs q) : semC Tryz.prog n_qp_Const [.agg cs] (vQ (elQ k) (Cut [q])) := by
 refine yC ok_qp_Const rfl (show HFVs [.agg cs] from ⟨hx.hf, trivial⟩) ?_
 obtain ⟨a, b, c, d, e, f, rfl⟩ := id hx.six
 refine go5 ?_
 simp only [uA, vW, ratC, uX, uW, List.set_cons_zero, List.set_cons_succ, List.nil_append, List.cons_append, List.append_nil, List.replicate_succ, List.replicate_zero, List.length_cons, List.length_nil, splice, List.take_succ_cons, List.take_zero, List.drop_succ_cons, List.drop_zero, List.take_nil, List.drop_nil, Nat.zero_add, Nat.reduceAdd, Nat.reduceMul, Int.reduceToNat, xS, List.getElem?_cons_succ, List.getElem?_cons_zero]
 have h1 : Els (elQ k) [a, b, c, d, e, f] [q] := .one hx
 refine yR [1] (.cons (.c (fz_sl (ds := [a, b, c, d, e, f]) (by rfl) (by rfl) (by simp) (by rfl) hx.hf)) .nil) (qp_Trim (.imm h1) (by simp)) (fun u hu => ?_)
 obtain ⟨c', m, rfl, h2, h3⟩ := hu
 refine go5 ?_
 exact vQ.fz h2 h3
def evK (k m n : Nat) : Nat := n * (k + m + 1) + 1
theorem jY {k m i n : Nat} (h : i ≤ n) : evK k m i ≤ evK k m n := by
 unfold evK
 have := Nat.mul_le_mul_right (k + m + 1) h
 omega
theorem bW (k m n : Nat) : evK k m (n + 1) = evK k m n + (k + m + 1) := by
 unfold evK
 rw [Nat.succ_mul]
 omega
theorem qp_Eval {k m : Nat} {c : C} {cs : List C} {l : List Rat} {x : Rat} (hc : Ls (elQ k) c l) (hx : IQ m cs x) (hl : l.length < 1073741824) (hk : evK k m l.length ≤ 134217728) : semC Tryz.prog n_qp_P_Eval [.c c, .agg cs] (QV (evK k m l.length) (ev l x)) := by
 refine yC ok_qp_P_Eval rfl (show HFVs [.c c, .agg cs] from ⟨hc.hf, hx.hf, trivial⟩) ?_
 obtain ⟨a, b, c1, d, e, f, rfl⟩ := id hx.six
 refine go5 ?_
 refine yB (hU (g := 0) (by decide)) (fun u hu => ?_)
 obtain ⟨es, rfl, h1⟩ := hu
 obtain ⟨_, _, _, _, _, _, rfl⟩ := id h1.six
 refine go5 ?_
 rw [show arith .sub .i64 (l.length : Int) 1 = (l.length : Int) - 1 by rw [xV, yE (by omega) (by omega)]]
 refine go5 ?_
 simp only [uA, vW, ratC, uX, uW, List.set_cons_zero, List.set_cons_succ, List.nil_append, List.cons_append, List.append_nil, List.replicate_succ, List.replicate_zero, List.length_cons, List.length_nil, splice, List.take_succ_cons, List.take_zero, List.drop_succ_cons, List.drop_zero, List.take_nil, List.drop_nil, Nat.zero_add, Nat.reduceAdd, Nat.reduceMul, Int.reduceToNat, xS, List.getElem?_cons_succ, List.getElem?_cons_zero]
 refine yS (fun n vs H => ∃ (i : Nat) (es : List C) (y : Rat), vs = [.c c, .c (.ptr 0 0), .c (.ptr 1 0), .c (.ptr 2 0), i64 ((i : Int) - 1)] ∧ H = [.live ⟨[a, b, c1, d, e, f], wS, .rw⟩, .live ⟨zeroQ, wS, .rw⟩, .live ⟨es, wS, .rw⟩] ∧ n = i ∧ i ≤ l.length ∧ IQ (evK k m (l.length - i)) es y ∧ y = ev (l.drop i) x) (by rfl) ⟨l.length, _, 0, rfl, rfl, rfl, Nat.le_refl _, h1.up (by unfold evK; omega), by rw [List.drop_length]; rfl⟩ ?_
 clear h1
 rintro n vs H ⟨i, es, y, rfl, rfl, rfl, h2, h3, h4⟩
 obtain ⟨_, _, _, _, _, _, rfl⟩ := id h3.six
 refine go5 ?_
 cases hq : yA Cm.geq ((n : Int) - 1) 0
 ·simp [yA] at hq
  have ei : n = 0 := by omega
  subst ei
  subst h4
  refine go5 ?_
  exact QV.fz h3
 ·simp [yA] at hq
  obtain ⟨j, rfl⟩ : ∃ j, n = j + 1 := ⟨n - 1, by omega⟩
  have hj : j < l.length := by omega
  have ek : l.length - j = (l.length - (j + 1)) + 1 := by omega
  have hle : evK k m (l.length - j) ≤ 134217728 := Nat.le_trans (jY (by omega)) hk
  rw [ek, bW] at hle
  rw [show (((j + 1 : Nat) : Int) - 1) = (j : Int) by omega]
  refine go5 ?_
  refine xW hc (i := j) hj (by omega) rfl (fun ds hds => ?_)
  refine go5 ?_
  refine yG (q_Mul2 h3 hx (by omega)) (fun u hu => ?_)
  obtain ⟨fs, rfl, h5⟩ := hu
  refine go5 ?_
  refine yG (q_Add2 h5 hds (by omega)) (fun u hu => ?_)
  obtain ⟨gs, rfl, h6⟩ := hu
  obtain ⟨_, _, _, _, _, _, rfl⟩ := id h6.six
  refine go5 ?_
  rw [show arith .sub .i64 (j : Int) 1 = (j : Int) - 1 by rw [xV, yE (by omega) (by omega)]]
  refine l_n (by rfl) (n' := j) (by omega) ⟨j, _, _, rfl, rfl, rfl, by omega, h6.up (by rw [ek, bW]; omega), ?_⟩
  rw [ev_drop hj, h4]
  grind
end Go.Proofs.YtjncgcnofiaiaaaGreat

set_option linter.unusedVariables false
set_option linter.unusedSimpArgs false
namespace Go.Proofs.YtjncgcnofiaiaaaGreat
open Go.RowKit
set_option maxRecDepth 20000
section
variable {α : Type} {E : El α}
theorem ld_boxE {s : Option Slot} {size off j : Nat} {bx : Box} {L : List α} {K : V → Prop} (hb : s = some (.live bx)) (h : Els E bx.cells L) (hj : j < L.length) (hoff : off = j * E.s) (he : E.s = size) (k : ∀ cs, E.p cs L[j] → K (.agg cs)) : xA s true size off K := by
 subst hoff he
 obtain ⟨cs, r, h1, h2⟩ := h.get hj
 have hl := E.len h1
 have hlen := congrArg List.length h2
 rw [List.length_drop, List.length_append, hl] at hlen
 have h5 := h.len
 have h6 : j * E.s + E.s ≤ L.length * E.s := by
  rw [← Nat.succ_mul]
  exact Nat.mul_le_mul_right _ hj
 refine yN hb (Nat.ble_eq_true_of_le (by omega)) ?_
 rw [h2, List.take_left' hl]
 exact k cs h1
end
theorem get_splice {cells cs : List C} {off n : Nat} (h : off ≤ cells.length) (hn : cs.length = n) : ((splice cells off cs).drop off).take n = cs := by
 subst hn
 unfold splice
 rw [List.append_assoc, List.drop_append, List.drop_of_length_le (by simp; omega), List.nil_append, List.length_take, Nat.min_eq_left h, Nat.sub_self, List.drop_zero, List.take_left]
theorem splice_twice {cells cs ds : List C} {off : Nat} (h : off ≤ cells.length) (hl : cs.length = ds.length) : splice (splice cells off cs) off ds = splice cells off ds := by
 unfold splice
 have e1 : (cells.take off ++ cs ++ cells.drop (off + cs.length)).take off = cells.take off := by
  rw [List.append_assoc, List.take_left' (by simp; omega)]
 have e2 : (cells.take off ++ cs ++ cells.drop (off + cs.length)).drop (off + ds.length) = cells.drop (off + ds.length) := by
  rw [← hl]
  have : (cells.take off ++ cs).length = off + cs.length := by simp; omega
  rw [List.drop_left' this]
 rw [e1, e2]
theorem pC {cells cs : List C} {off : Nat} (h : off + cs.length ≤ cells.length) : (splice cells off cs).length = cells.length := by
 unfold splice
 simp
 omega
def sumC (p q : List Rat) (j : Nat) : Rat := p.getD j 0 + q.getD j 0
theorem uB {α : Type} (f : Nat → α) (i : Nat) : (List.range (i + 1)).map f = (List.range i).map f ++ [f i] := by
 rw [List.range_succ, List.map_append]
 rfl
theorem ev_range_add (f g : Nat → Rat) (x : Rat) : ∀ n, ev ((List.range n).map fun j => f j + g j) x = ev ((List.range n).map f) x + ev ((List.range n).map g) x
 | 0 => by simp only [List.range_zero, List.map_nil, ev]; grind
 | n + 1 => by
  rw [uB, uB, uB, sH, sH, sH, ev_range_add f g x n, pY, pY, pY]
  simp only [List.length_map, List.length_range]
  grind
theorem range_getD {l : List Rat} {n : Nat} (h : l.length ≤ n) : (List.range n).map (l.getD · 0) = l ++ List.replicate (n - l.length) 0 := by
 apply List.ext_getElem
 ·simp; omega
 ·intro i h1 h2
  simp only [List.getElem_map, List.getElem_range]
  by_cases hi : i < l.length
  ·rw [List.getElem_append_left hi]
   simp [hi]
  ·rw [List.getElem_append_right (by omega), List.getElem_replicate]
   simp [hi]
theorem ev_range_getD {l : List Rat} {n : Nat} (h : l.length ≤ n) (x : Rat) : ev ((List.range n).map (l.getD · 0)) x = ev l x := by
 rw [range_getD h, sH, ev_zeros]
 grind
theorem ev_sumC {p q : List Rat} {n : Nat} (hp : p.length ≤ n) (hq : q.length ≤ n) (x : Rat) : ev ((List.range n).map (sumC p q)) x = ev p x + ev q x := by
 have := ev_range_add (p.getD · 0) (q.getD · 0) x n
 rw [ev_range_getD hp, ev_range_getD hq] at this
 exact this
structure IsSum (p q m : List Rat) : Prop where
 ev : ∀ x, ev m x = ev p x + ev q x
 len : m.length ≤ max p.length q.length
 top : Top m
structure IsProd (p q m : List Rat) : Prop where
 ev : ∀ x, ev m x = ev p x * ev q x
 len : m.length ≤ p.length + q.length - 1
 nil : p = [] ∨ q = [] → m = []
 top : Top m
theorem IsProd.none {p q : List Rat} (h : p = [] ∨ q = []) : IsProd p q [] := by
 refine ⟨fun x => ?_, by simp, fun _ => rfl, fun h => absurd h (by simp)⟩
 rcases h with rfl | rfl <;> simp only [Go.Proofs.YtjncgcnofiaiaaaGreat.ev] <;> grind
theorem pow_add' (x : Rat) (i : Nat) : ∀ j, x ^ (i + j) = x ^ i * x ^ j
 | 0 => by rw [Nat.add_zero, Rat.pow_zero]; grind
 | j + 1 => by
  rw [← Nat.add_assoc, Rat.pow_succ, Rat.pow_succ, pow_add' x i j]
  grind
theorem addII {a b : Nat} (h : a + b < 9223372036854775808) : arith .add .i64 (a : Int) (b : Int) = ((a + b : Nat) : Int) := by
 rw [yW, yE (by omega) (by omega)]
 omega
theorem yX {l : List Rat} {i : Nat} (h : i < l.length) : l.getD i 0 = l[i] := by simp [h]
theorem getD_ge {l : List Rat} {i : Nat} (h : l.length ≤ i) : l.getD i 0 = 0 := by simp [h]
structure Row (p q : List Rat) (i k : Nat) (L : List Rat) : Prop where
 ev : ∀ x, ev L x = ev (p.take i) x * ev q x + x ^ i * (p.getD i 0 * ev (q.take k) x)
theorem Row.first {p q : List Rat} {n : Nat} : Row p q 0 0 (List.replicate n 0) := ⟨fun x => by
 rw [ev_zeros]
 simp only [List.take_zero, Go.Proofs.YtjncgcnofiaiaaaGreat.ev]
 grind⟩
theorem Row.step {p q L : List Rat} {i k : Nat} (h : Row p q i k L) (hi : i < p.length) (hk : k < q.length) (hL : i + k < L.length) : Row p q i (k + 1) (L.set (i + k) (L[i + k] + p[i] * q[k])) := ⟨fun x => by
 rw [ev_set hL, h.ev x, ev_take hk, pow_add', yX hi]
 grind⟩
theorem Row.next {p q L : List Rat} {i : Nat} (h : Row p q i q.length L) (hi : i < p.length) : Row p q (i + 1) 0 L := ⟨fun x => by
 rw [h.ev x, ev_take hi, List.take_length, List.take_zero, yX hi]
 simp only [Go.Proofs.YtjncgcnofiaiaaaGreat.ev]
 grind⟩
theorem Row.done {p q L : List Rat} (h : Row p q p.length 0 L) (x : Rat) : Go.Proofs.YtjncgcnofiaiaaaGreat.ev L x = Go.Proofs.YtjncgcnofiaiaaaGreat.ev p x * Go.Proofs.YtjncgcnofiaiaaaGreat.ev q x := by
 rw [h.ev x, List.take_length, List.take_zero]
 simp only [Go.Proofs.YtjncgcnofiaiaaaGreat.ev]
 grind
theorem Els.up {k m : Nat} {ds : List C} {l : List Rat} (h : Els (elQ k) ds l) (hk : k ≤ m) : Els (elQ m) ds l := h.mono (fun _ _ h => IQ.up h hk)
theorem Ls.up {k m : Nat} {c : C} {l : List Rat} (h : Ls (elQ k) c l) (hk : k ≤ m) : Ls (elQ m) c l := h.mono (fun _ _ h => IQ.up h hk)
theorem Els.up' {k m : Nat} {ds : List C} {l : List Rat} (h : Els (elR k) ds l) (hk : k ≤ m) : Els (elR m) ds l := h.mono (fun _ _ h => IR.up h hk)
theorem Ls.up' {k m : Nat} {c : C} {l : List Rat} (h : Ls (elR k) c l) (hk : k ≤ m) : Ls (elR m) c l := h.mono (fun _ _ h => IR.up h hk)
attribute [local irreducible] yA semH semC qLen qNil qIad qSlc qIdx xA yM xH appX appI slcX awpF yQ xM xopF xT qval lval seqQ xO wT wL wI cnd arith IntKind.wrap
theorem qp_Add {k m : Nat} {c d : C} {p q : List Rat} (hc : Ls (elQ k) c p) (hd : Ls (elQ m) d q) (hp : p.length < 1048576) (hq : q.length < 1048576) (h0 : 1 ≤ k) (hk : k + m + 1 ≤ 134217728) : semC Tryz.prog n_qp_P_Add [.c c, .c d] (vQ (elQ (k + m + 1)) (IsSum p q)) := by
 refine yC ok_qp_P_Add rfl (show HFVs [.c c, .c d] from ⟨hc.hf, hd.hf, trivial⟩) ?_
 refine go5 ?_
 rw [show (if ((q.length : Nat) : Int) > (p.length : Nat) then ((q.length : Nat) : Int) else (p.length : Nat)) = ((max p.length q.length : Nat) : Int) by split <;> omega]
 generalize hn : max p.length q.length = n
 have hnp : p.length ≤ n := by omega
 have hnq : q.length ≤ n := by omega
 refine vM (by rfl) (by rfl) ⟨by omega, by omega, by omega, by omega⟩ ?_
 refine go5 ?_
 refine yS (fun w vs H => ∃ (i : Nat) (cells : List C), vs = [.c c, .c d, .c (.sl 0 0 n (some n) 6), i64 n, i64 i] ∧ H = [.live ⟨cells, wS, .rw⟩] ∧ w = n - i ∧ i ≤ n ∧ Fill (elQ (k + m + 1)) zeroQ n cells ((List.range i).map (sumC p q))) (by rfl) ⟨0, _, rfl, rfl, rfl, by omega, .zero rfl⟩ ?_
 rintro w vs H ⟨i, cells, rfl, rfl, rfl, h1, h2⟩
 have hlen : cells.length = n * 6 := h2.len
 have htl : ((List.range i).map (sumC p q)).length = i := by simp
 refine go5 ?_
 cases hi : yA Cm.lss (i : Int) (n : Int)
 case false =>
  simp [yA] at hi
  have ei : i = n := by omega
  subst ei
  have h3 := h2.done htl
  have h4 := Ls.imm h3
  rw [htl] at h4
  refine go5 ?_
  refine yR [0] (.cons (.c (fz_sl (ds := cells) (by rfl) (by rfl) (by simp) (by rw [List.drop_zero, List.take_of_length_le (by simp only; omega)]) h3.hf)) .nil) (qp_Trim h4 (by simp; omega)) (fun u hu => ?_)
  obtain ⟨c', r, rfl, h5, h6⟩ := hu
  refine go5 ?_
  exact vQ.fz h5 ⟨fun x => by rw [h6.ev, ev_sumC hnp hnq], by have := h6.len; simp at this; omega, h6.top⟩
 simp [yA] at hi
 refine go5 ?_
 refine yB (hU (g := 0) (by decide)) (fun u hu => ?_)
 obtain ⟨es, rfl, g1⟩ := hu
 have g1l := (elQ 1).len g1
 obtain ⟨z1, z2, z3, z4, z5, z6, rfl⟩ := id g1.six
 have e0 : 0 + ((i : Nat) : Int).toNat * 6 = i * 6 := by omega
 have fin : ∀ {cs : List C}, IQ (k + m + 1) cs (sumC p q i) → Fill (elQ (k + m + 1)) zeroQ n (splice cells (0 + ((i : Nat) : Int).toNat * 6) cs) ((List.range (i + 1)).map (sumC p q)) := fun h => by
  have h3 := h2.put (by rw [htl]; omega) h
  rw [htl, ← uB] at h3
  rw [e0]
  exact h3
 refine go5 ?_
 cases hi1 : yA Cm.lss (i : Int) (p.length : Int)
 case false =>
  simp [yA] at hi1
  refine go5 ?_
  cases hi2 : yA Cm.lss (i : Int) (q.length : Int)
  case false =>
   simp [yA] at hi2
   omega
  simp [yA] at hi2
  refine go5 ?_
  refine yN (by rfl) (Nat.ble_eq_true_of_le (by rw [pC (by simp only [List.length_cons, List.length_nil]; omega)]; omega)) ?_
  rw [get_splice (cs := [z1, z2, z3, z4, z5, z6]) (n := 6) (by omega) rfl]
  refine go5 ?_
  refine xW hd (i := i) hi2 (by omega) rfl (fun ds hds => ?_)
  refine go5 ?_
  refine yG (q_Add2 (g1.up h0) hds hk) (fun u hu => ?_)
  obtain ⟨fs, rfl, g2⟩ := hu
  have e : sumC p q i = (0 : Int) + q[i] := by
   unfold sumC
   rw [getD_ge hi1, yX hi2]
   rfl
  rw [← e] at g2
  obtain ⟨y1, y2, y3, y4, y5, y6, rfl⟩ := id g2.six
  refine go5 ?_
  refine yP (by rfl) (by rfl) (by rfl) (by rw [pC (by simp only [List.length_cons, List.length_nil]; omega)]; omega) ?_
  refine go5 ?_
  rw [xD i (by omega)]
  exact l_n (by rfl) (by omega) ⟨i + 1, _, rfl, rfl, rfl, by omega, by rw [splice_twice (cs := [z1, z2, z3, z4, z5, z6]) (ds := [y1, y2, y3, y4, y5, y6]) (by omega) rfl]; exact fin g2⟩
 simp [yA] at hi1
 refine go5 ?_
 refine xW hc (i := i) hi1 (by omega) rfl (fun cs hcs => ?_)
 obtain ⟨x1, x2, x3, x4, x5, x6, rfl⟩ := id hcs.six
 refine go5 ?_
 refine yP (by rfl) (by rfl) (by rfl) (by rw [pC (by simp only [List.length_cons, List.length_nil]; omega)]; omega) ?_
 rw [splice_twice (cs := [z1, z2, z3, z4, z5, z6]) (ds := [x1, x2, x3, x4, x5, x6]) (by omega) rfl]
 refine go5 ?_
 cases hi2 : yA Cm.lss (i : Int) (q.length : Int)
 case false =>
  simp [yA] at hi2
  have e : sumC p q i = p[i] := by
   unfold sumC
   rw [yX hi1, getD_ge hi2]
   grind
  rw [← e] at hcs
  refine go5 ?_
  rw [xD i (by omega)]
  exact l_n (by rfl) (by omega) ⟨i + 1, _, rfl, rfl, rfl, by omega, fin (hcs.up (by omega))⟩
 simp [yA] at hi2
 refine go5 ?_
 refine yN (by rfl) (Nat.ble_eq_true_of_le (by rw [pC (by simp only [List.length_cons, List.length_nil]; omega)]; omega)) ?_
 rw [get_splice (cs := [x1, x2, x3, x4, x5, x6]) (n := 6) (by omega) rfl]
 refine go5 ?_
 refine xW hd (i := i) hi2 (by omega) rfl (fun ds hds => ?_)
 refine go5 ?_
 refine yG (q_Add2 hcs hds hk) (fun u hu => ?_)
 obtain ⟨fs, rfl, g2⟩ := hu
 have e : sumC p q i = p[i] + q[i] := by
  unfold sumC
  rw [yX hi1, yX hi2]
 rw [← e] at g2
 obtain ⟨y1, y2, y3, y4, y5, y6, rfl⟩ := id g2.six
 refine go5 ?_
 refine yP (by rfl) (by rfl) (by rfl) (by rw [pC (by simp only [List.length_cons, List.length_nil]; omega)]; omega) ?_
 refine go5 ?_
 rw [xD i (by omega)]
 exact l_n (by rfl) (by omega) ⟨i + 1, _, rfl, rfl, rfl, by omega, by rw [splice_twice (cs := [x1, x2, x3, x4, x5, x6]) (ds := [y1, y2, y3, y4, y5, y6]) (by omega) rfl]; exact fin g2⟩
theorem qp_Mul {k m : Nat} {c d : C} {p q : List Rat} (hc : Ls (elQ k) c p) (hd : Ls (elQ m) d q) (hp : p.length < 1048576) (hq : q.length < 1048576) (hk : evK k m (p.length * q.length) ≤ 134217728) : semC Tryz.prog n_qp_P_Mul [.c c, .c d] (vQ (elQ (evK k m (p.length * q.length))) (IsProd p q)) := by
 refine yC ok_qp_P_Mul rfl (show HFVs [.c c, .c d] from ⟨hc.hf, hd.hf, trivial⟩) ?_
 refine go5 ?_
 cases h1 : yA Cm.eql (p.length : Int) 0
 case true =>
  simp [yA] at h1
  refine go5 ?_
  exact vQ.fz .nil (.none (.inl h1))
 simp [yA] at h1
 refine go5 ?_
 cases h2 : yA Cm.eql (q.length : Int) 0
 case true =>
  simp [yA] at h2
  refine go5 ?_
  exact vQ.fz .nil (.none (.inr h2))
 simp [yA] at h2
 have hp0 : 0 < p.length := List.length_pos_iff.2 h1
 have hq0 : 0 < q.length := List.length_pos_iff.2 h2
 refine go5 ?_
 generalize hn : p.length + q.length - 1 = n
 rw [show arith .sub .i64 (arith .add .i64 (p.length : Int) (q.length : Int)) 1 = (n : Int) by rw [addII (by omega), xV, yE (by omega) (by omega)]; omega]
 refine vM (by rfl) (by rfl) ⟨by omega, by omega, by omega, by omega⟩ ?_
 refine go5 ?_
 refine yS (fun w vs H => ∃ (i : Nat) (cells : List C), vs = [.c c, .c d, .c (.sl 0 0 n (some n) 6), i64 n, i64 i] ∧ H = [.live ⟨cells, wS, .rw⟩] ∧ w = n - i ∧ i ≤ n ∧ Fill (elQ 1) zeroQ n cells (List.replicate i 0)) (by rfl) ⟨0, _, rfl, rfl, rfl, by omega, .zero rfl⟩ ?_
 rintro w vs H ⟨i, cells, rfl, rfl, rfl, h3, h4⟩
 have hlen : cells.length = n * 6 := h4.len
 refine go5 ?_
 cases hi : yA Cm.lss (i : Int) (n : Int)
 case true =>
  simp [yA] at hi
  refine go5 ?_
  refine yB (hU (g := 0) (by decide)) (fun u hu => ?_)
  obtain ⟨es, rfl, g1⟩ := hu
  obtain ⟨z1, z2, z3, z4, z5, z6, rfl⟩ := id g1.six
  refine go5 ?_
  rw [xD i (by omega)]
  have h5 := h4.put (by simpa using hi) g1
  rw [List.length_replicate, show List.replicate i (0 : Rat) ++ [((0 : Int) : Rat)] = List.replicate (i + 1) 0 from (List.replicate_succ' ..).symm] at h5
  exact l_n (by rfl) (by omega) ⟨i + 1, _, rfl, rfl, rfl, by omega, by rw [show 0 + ((i : Nat) : Int).toNat * 6 = i * 6 by omega]; exact h5⟩
 simp [yA] at hi
 have ei : i = n := by omega
 subst ei
 have h5 := h4.done (by simp)
 clear h4 h3 hi
 refine go5 ?_
 refine yS (fun w vs H => ∃ (j : Nat) (cells : List C) (L : List Rat), vs = [.c c, .c d, .c (.sl 0 0 i (some i) 6), i64 p.length, i64 j] ∧ H = [.live ⟨cells, wS, .rw⟩] ∧ w = p.length - j ∧ j ≤ p.length ∧ L.length = i ∧ Els (elQ (evK k m (j * q.length))) cells L ∧ Row p q j 0 L) (by rfl) ⟨0, cells, _, rfl, rfl, rfl, by omega, List.length_replicate, h5.up (by unfold evK; omega), .first⟩ ?_
 clear h5 hlen cells
 rintro w vs H ⟨j, cells, L, rfl, rfl, rfl, h3, h4, h5, h6⟩
 refine go5 ?_
 cases hj : yA Cm.lss (j : Int) (p.length : Int)
 case false =>
  simp [yA] at hj
  have ej : j = p.length := by omega
  subst ej
  have h7 := Ls.imm h5
  have hlen := h5.len
  rw [h4] at h7
  refine go5 ?_
  refine yR [0] (.cons (.c (fz_sl (ds := cells) (by rfl) (by rfl) (by simp) (by rw [List.drop_zero, List.take_of_length_le (by simp only; rw [hlen, h4]; exact Nat.le_refl _)]) h5.hf)) .nil) (qp_Trim h7 (by omega)) (fun u hu => ?_)
  obtain ⟨c', r, rfl, h8, h9⟩ := hu
  refine go5 ?_
  exact vQ.fz h8 ⟨fun x => by rw [h9.ev, h6.done], by have := h9.len; omega, fun h => (by rcases h with h | h <;> contradiction), h9.top⟩
 simp [yA] at hj
 refine go5 ?_
 refine yS (fun w vs H => ∃ (o : Nat) (cells : List C) (L : List Rat), vs = [.c c, .c d, .c (.sl 0 0 i (some i) 6), i64 j, i64 p.length, i64 j, i64 q.length, i64 o] ∧ H = [.live ⟨cells, wS, .rw⟩] ∧ w = q.length - o ∧ o ≤ q.length ∧ L.length = i ∧ Els (elQ (evK k m (j * q.length + o))) cells L ∧ Row p q j o L) (by rfl) ⟨0, cells, L, rfl, rfl, rfl, by omega, h4, h5, h6⟩ ?_
 clear h4 h5 h6 L cells
 rintro w vs H ⟨o, cells, L, rfl, rfl, rfl, h4, h5, h6, h7⟩
 have hlen : cells.length = i * 6 := by rw [h6.len, h5]; rfl
 refine go5 ?_
 cases ho : yA Cm.lss (o : Int) (q.length : Int)
 case false =>
  simp [yA] at ho
  have eo : o = q.length := by omega
  subst eo
  refine go5 ?_
  rw [xD j (by omega)]
  exact l_n (by rfl) (by omega) ⟨j + 1, cells, L, rfl, rfl, rfl, by omega, h5, by rw [Nat.succ_mul]; exact h6, h7.next hj⟩
 simp [yA] at ho
 have hjo : j + o < L.length := by omega
 have hle : j * q.length + o + 1 ≤ p.length * q.length := by
  have := Nat.mul_le_mul_right q.length (show j + 1 ≤ p.length by omega)
  rw [Nat.succ_mul] at this
  omega
 have hke := Nat.le_trans (jY (k := k) (m := m) hle) hk
 rw [bW] at hke
 have eo : evK k m (j * q.length + (o + 1)) = evK k m (j * q.length + o) + (k + m + 1) := bW k m (j * q.length + o)
 refine go5 ?_
 rw [addII (show j + o < 9223372036854775808 by omega)]
 refine go5 ?_
 refine ld_boxE (by rfl) h6 hjo (by show _ = (j + o) * 6; omega) rfl (fun cs hcs => ?_)
 refine go5 ?_
 refine xW hc (i := j) hj (by omega) rfl (fun ds hds => ?_)
 refine go5 ?_
 refine xW hd (i := o) ho (by omega) rfl (fun es hes => ?_)
 refine go5 ?_
 refine yG (q_Mul2 hds hes (by omega)) (fun u hu => ?_)
 obtain ⟨fs, rfl, g1⟩ := hu
 refine go5 ?_
 refine yG (q_Add2 hcs g1 (by omega)) (fun u hu => ?_)
 obtain ⟨gs, rfl, g2⟩ := hu
 obtain ⟨y1, y2, y3, y4, y5, y6, rfl⟩ := id g2.six
 refine go5 ?_
 rw [xD o (by omega)]
 have g3 : IQ (evK k m (j * q.length + (o + 1))) _ _ := g2.up (by rw [eo]; omega)
 exact l_n (by rfl) (by omega) ⟨o + 1, _, _, rfl, rfl, rfl, by omega, by rw [List.length_set]; exact h5, by
  rw [show 0 + ((j + o : Nat) : Int).toNat * 6 = (j + o) * 6 by omega]
  exact (h6.up (by rw [eo]; omega)).set hjo g3, h7.step hj ho hjo⟩
end Go.Proofs.YtjncgcnofiaiaaaGreat

set_option linter.unusedVariables false
set_option linter.unusedSimpArgs false
namespace Go.Proofs.YtjncgcnofiaiaaaGreat
open Go.RowKit
set_option maxRecDepth 20000
theorem go9 {A B : Prop} (k : B) (h : Held B → A := by
 intro hgo
 repeat (first | (refine g_o ?_; first | (refine o_some ?_; try (first | (refine x_q (by rfl) ?_; try (first | refine q_mv (by rfl) ?_ | refine wN (by rfl) ?_ | (refine uJ ?_; try (first | refine vO (by rfl) (by assumption) ?_ | refine wY (by rfl) (by assumption) ?_ | refine wX (by rfl) ?_ | refine xY (by rfl) ?_ | refine xX (by rfl) ?_)) | (refine uL ?_; try (first | refine vP (by rfl) (by rfl) (by assumption) (by omega) (by omega) ?_ | refine wU (by rfl) (by rfl) (by assumption) (by omega) (by omega) ?_ | refine wR (by rfl) (by rfl) (by decide) (by decide) ?_ | refine yH (by rfl) (by rfl) (by decide) (by decide) ?_ | refine wE (by rfl) (by rfl) (by decide) (by decide) ?_ | refine yH (by rfl) (by rfl) (by omega) (by omega) ?_)) | refine q_cm (by rfl) (by rfl) ?_ | refine q_ar (by rfl) (by rfl) (by rfl) ?_ | refine vE (by rfl) ?_ | (refine uP ?_; try (first | refine wF (by rfl) ?_ | refine wG (by rfl) ?_ | refine wZ (by rfl) ?_)) | refine uO (by rfl) (by rfl) ?_ | refine wM (by rfl) ?_ | refine wO (by rfl) ?_ | refine uC (by rfl) (by rfl) (by first | decide | omega) ?_ | refine uG (by rfl) (by rfl) (by first | decide | omega) ?_ | refine uQ (by rfl) (by rfl) ?_ | refine uR (by rfl) (by rfl) (by rfl) ?_ | refine uI (by rfl) ?_ | refine uH (by rfl) ?_ | refine wA (by rfl) (by rfl) ?_ | refine wB (by rfl) (by rfl) ?_ | refine uF ?_ | refine uK ?_ | refine uN (by rfl) (by rfl) ?_ | refine vD (by rfl) (by rfl) ?_ | refine wD (by rfl) ?_ | refine q_mx (by rfl) (by rfl) ?_ | refine q_mn (by rfl) (by rfl) ?_ | refine uM (by rfl) ?_ | refine vF (by rfl) ?_ | refine vG (by rfl) ?_ | refine wC (by rfl) ?_ | refine wP (by rfl) (by rfl) ?_ | refine wQ (by rfl) (by rfl) ?_)) | (refine pR ?_; try (first | (refine uS (by rfl) ?_; try (first | refine yV (by rfl) (by rfl) ?_ | refine yN (by rfl) (by rfl) ?_ | refine yV (yJ _ _) (by rfl) ?_ | refine yN (yJ _ _) (by rfl) ?_)) | (refine uT (by rfl) ?_; try (first | refine vL (by omega) (by omega) ?_ | refine xJ (Nat.le_of_ble_eq_true (by rfl)) ?_ | refine yP (by rfl) (by rfl) (by rfl) (by omega) ?_)))) | refine uD (by rfl) (by rfl) (by rfl) (by rfl) (Nat.le_of_ble_eq_true (by rfl)) ?_ | (refine sK (by rfl) (by rfl) ?_; try (first | refine yP (by rfl) (by rfl) (by rfl) (Nat.le_of_ble_eq_true (by rfl)) ?_ | refine yP (by rfl) (by rfl) (by rfl) (by omega) ?_)) | refine pS (by rfl) (by rfl) ?_ | refine bA (by rfl) (by rfl) ?_ | refine sW ?_ | refine x_frzSl (by rfl) ?_ | refine gJ ?_ | refine pQ ?_ | refine sU ?_ | refine sV (by rfl) (by rfl) (by rfl) (by rfl) ?_ | refine tX (by rfl) (by rfl) (by rfl) ?_)) | (refine o_nil ?_; try (first | refine s_n ?_ | refine s_r ?_ | refine s_e ?_ | refine k_n ?_ | refine k_r ?_ | refine k_e (by rfl) ?_ | refine k_o (by rfl) ?_ | refine l_r ?_ | refine l_e ?_ | refine b_r ?_ | refine b_n ?_)) | refine o_guard (by rfl) ?_ | refine gS (by rfl) ?_ | refine o_none ?_ | refine gT (by rfl) ?_) | (refine g_f ?_; first | refine f_seq ?_ | refine f_reg ?_ | (refine f_cond (by rfl) ?_; try (first | refine c_t (by rfl) ?_ | refine c_f (by rfl) ?_)) | refine f_block ?_ | refine f_skip ?_ | refine f_ret ?_ | refine f_exit ?_ | refine f_regD0 ?_ | refine f_regD ?_) | (refine g_s ?_; first | refine s_n ?_ | refine s_r ?_ | refine s_e ?_) | (refine g_d ?_; first | refine d_late (T := none) (by rfl) (by rfl) (by rfl) (by rfl) ?_ | (refine pH (T := none) (by rfl) (by rfl) ?_; try (first | (refine xd_q (by rfl) ?_; try (first | refine q_mv (by rfl) ?_ | refine wN (by rfl) ?_ | (refine uJ ?_; try (first | refine vO (by rfl) (by assumption) ?_ | refine wY (by rfl) (by assumption) ?_ | refine wX (by rfl) ?_ | refine xY (by rfl) ?_ | refine xX (by rfl) ?_)) | (refine uL ?_; try (first | refine vP (by rfl) (by rfl) (by assumption) (by omega) (by omega) ?_ | refine wU (by rfl) (by rfl) (by assumption) (by omega) (by omega) ?_ | refine wR (by rfl) (by rfl) (by decide) (by decide) ?_ | refine yH (by rfl) (by rfl) (by decide) (by decide) ?_ | refine wE (by rfl) (by rfl) (by decide) (by decide) ?_ | refine yH (by rfl) (by rfl) (by omega) (by omega) ?_)) | refine q_cm (by rfl) (by rfl) ?_ | refine q_ar (by rfl) (by rfl) (by rfl) ?_ | refine vE (by rfl) ?_ | (refine uP ?_; try (first | refine wF (by rfl) ?_ | refine wG (by rfl) ?_ | refine wZ (by rfl) ?_)) | refine uO (by rfl) (by rfl) ?_ | refine wM (by rfl) ?_ | refine wO (by rfl) ?_ | refine uC (by rfl) (by rfl) (by first | decide | omega) ?_ | refine uG (by rfl) (by rfl) (by first | decide | omega) ?_ | refine uQ (by rfl) (by rfl) ?_ | refine uR (by rfl) (by rfl) (by rfl) ?_ | refine uI (by rfl) ?_ | refine uH (by rfl) ?_ | refine wA (by rfl) (by rfl) ?_ | refine wB (by rfl) (by rfl) ?_ | refine uF ?_ | refine uK ?_ | refine uN (by rfl) (by rfl) ?_ | refine vD (by rfl) (by rfl) ?_ | refine wD (by rfl) ?_ | refine q_mx (by rfl) (by rfl) ?_ | refine q_mn (by rfl) (by rfl) ?_ | refine uM (by rfl) ?_ | refine vF (by rfl) ?_ | refine vG (by rfl) ?_ | refine wC (by rfl) ?_ | refine wP (by rfl) (by rfl) ?_ | refine wQ (by rfl) (by rfl) ?_)) | (refine tD ?_; try (first | (refine uS (by rfl) ?_; try (first | refine yV (by rfl) (by rfl) ?_ | refine yN (by rfl) (by rfl) ?_ | refine yV (yJ _ _) (by rfl) ?_ | refine yN (yJ _ _) (by rfl) ?_)) | (refine uT (by rfl) ?_; try (first | refine vL (by omega) (by omega) ?_ | refine xJ (Nat.le_of_ble_eq_true (by rfl)) ?_ | refine yP (by rfl) (by rfl) (by rfl) (by omega) ?_)))) | refine wV (by rfl) (by rfl) (by rfl) (by rfl) (Nat.le_of_ble_eq_true (by rfl)) ?_ | (refine vT (by rfl) (by rfl) ?_; try (first | refine yP (by rfl) (by rfl) (by rfl) (Nat.le_of_ble_eq_true (by rfl)) ?_ | refine yP (by rfl) (by rfl) (by rfl) (by omega) ?_)) | refine tE (by rfl) (by rfl) ?_ | refine sC (by rfl) (by rfl) (by rfl) ?_ | refine vY (by rfl) ?_ | refine pP (by rfl) ?_)) | (refine pH (by rfl) (by rfl) ?_; try (first | (refine xd_q (by rfl) ?_; try (first | refine q_mv (by rfl) ?_ | refine wN (by rfl) ?_ | (refine uJ ?_; try (first | refine vO (by rfl) (by assumption) ?_ | refine wY (by rfl) (by assumption) ?_ | refine wX (by rfl) ?_ | refine xY (by rfl) ?_ | refine xX (by rfl) ?_)) | (refine uL ?_; try (first | refine vP (by rfl) (by rfl) (by assumption) (by omega) (by omega) ?_ | refine wU (by rfl) (by rfl) (by assumption) (by omega) (by omega) ?_ | refine wR (by rfl) (by rfl) (by decide) (by decide) ?_ | refine yH (by rfl) (by rfl) (by decide) (by decide) ?_ | refine wE (by rfl) (by rfl) (by decide) (by decide) ?_ | refine yH (by rfl) (by rfl) (by omega) (by omega) ?_)) | refine q_cm (by rfl) (by rfl) ?_ | refine q_ar (by rfl) (by rfl) (by rfl) ?_ | refine vE (by rfl) ?_ | (refine uP ?_; try (first | refine wF (by rfl) ?_ | refine wG (by rfl) ?_ | refine wZ (by rfl) ?_)) | refine uO (by rfl) (by rfl) ?_ | refine wM (by rfl) ?_ | refine wO (by rfl) ?_ | refine uC (by rfl) (by rfl) (by first | decide | omega) ?_ | refine uG (by rfl) (by rfl) (by first | decide | omega) ?_ | refine uQ (by rfl) (by rfl) ?_ | refine uR (by rfl) (by rfl) (by rfl) ?_ | refine uI (by rfl) ?_ | refine uH (by rfl) ?_ | refine wA (by rfl) (by rfl) ?_ | refine wB (by rfl) (by rfl) ?_ | refine uF ?_ | refine uK ?_ | refine uN (by rfl) (by rfl) ?_ | refine vD (by rfl) (by rfl) ?_ | refine wD (by rfl) ?_ | refine q_mx (by rfl) (by rfl) ?_ | refine q_mn (by rfl) (by rfl) ?_ | refine uM (by rfl) ?_ | refine vF (by rfl) ?_ | refine vG (by rfl) ?_ | refine wC (by rfl) ?_ | refine wP (by rfl) (by rfl) ?_ | refine wQ (by rfl) (by rfl) ?_)) | (refine tD ?_; try (first | (refine uS (by rfl) ?_; try (first | refine yV (by rfl) (by rfl) ?_ | refine yN (by rfl) (by rfl) ?_ | refine yV (yJ _ _) (by rfl) ?_ | refine yN (yJ _ _) (by rfl) ?_)) | (refine uT (by rfl) ?_; try (first | refine vL (by omega) (by omega) ?_ | refine xJ (Nat.le_of_ble_eq_true (by rfl)) ?_ | refine yP (by rfl) (by rfl) (by rfl) (by omega) ?_)))) | refine wV (by rfl) (by rfl) (by rfl) (by rfl) (Nat.le_of_ble_eq_true (by rfl)) ?_ | (refine vT (by rfl) (by rfl) ?_; try (first | refine yP (by rfl) (by rfl) (by rfl) (Nat.le_of_ble_eq_true (by rfl)) ?_ | refine yP (by rfl) (by rfl) (by rfl) (by omega) ?_)) | refine tE (by rfl) (by rfl) ?_ | refine sC (by rfl) (by rfl) (by rfl) ?_ | refine vY (by rfl) ?_ | refine pP (by rfl) ?_)) | (refine d_nil ?_; try (first | refine s_n ?_ | refine s_r ?_ | refine s_e ?_ | refine k_n ?_ | refine k_r ?_ | refine k_e (by rfl) ?_ | refine k_o (by rfl) ?_ | refine l_r ?_ | refine l_e ?_ | refine b_r ?_ | refine b_n ?_)) | refine d_none (by rfl) (by rfl) ?_ | refine d_guard (by rfl) (by rfl) (by rfl) ?_) | (refine g_x ?_; first | (refine x_q (by rfl) ?_; try (first | refine q_mv (by rfl) ?_ | refine wN (by rfl) ?_ | (refine uJ ?_; try (first | refine vO (by rfl) (by assumption) ?_ | refine wY (by rfl) (by assumption) ?_ | refine wX (by rfl) ?_ | refine xY (by rfl) ?_ | refine xX (by rfl) ?_)) | (refine uL ?_; try (first | refine vP (by rfl) (by rfl) (by assumption) (by omega) (by omega) ?_ | refine wU (by rfl) (by rfl) (by assumption) (by omega) (by omega) ?_ | refine wR (by rfl) (by rfl) (by decide) (by decide) ?_ | refine yH (by rfl) (by rfl) (by decide) (by decide) ?_ | refine wE (by rfl) (by rfl) (by decide) (by decide) ?_ | refine yH (by rfl) (by rfl) (by omega) (by omega) ?_)) | refine q_cm (by rfl) (by rfl) ?_ | refine q_ar (by rfl) (by rfl) (by rfl) ?_ | refine vE (by rfl) ?_ | (refine uP ?_; try (first | refine wF (by rfl) ?_ | refine wG (by rfl) ?_ | refine wZ (by rfl) ?_)) | refine uO (by rfl) (by rfl) ?_ | refine wM (by rfl) ?_ | refine wO (by rfl) ?_ | refine uC (by rfl) (by rfl) (by first | decide | omega) ?_ | refine uG (by rfl) (by rfl) (by first | decide | omega) ?_ | refine uQ (by rfl) (by rfl) ?_ | refine uR (by rfl) (by rfl) (by rfl) ?_ | refine uI (by rfl) ?_ | refine uH (by rfl) ?_ | refine wA (by rfl) (by rfl) ?_ | refine wB (by rfl) (by rfl) ?_ | refine uF ?_ | refine uK ?_ | refine uN (by rfl) (by rfl) ?_ | refine vD (by rfl) (by rfl) ?_ | refine wD (by rfl) ?_ | refine q_mx (by rfl) (by rfl) ?_ | refine q_mn (by rfl) (by rfl) ?_ | refine uM (by rfl) ?_ | refine vF (by rfl) ?_ | refine vG (by rfl) ?_ | refine wC (by rfl) ?_ | refine wP (by rfl) (by rfl) ?_ | refine wQ (by rfl) (by rfl) ?_)) | (refine pR ?_; try (first | (refine uS (by rfl) ?_; try (first | refine yV (by rfl) (by rfl) ?_ | refine yN (by rfl) (by rfl) ?_ | refine yV (yJ _ _) (by rfl) ?_ | refine yN (yJ _ _) (by rfl) ?_)) | (refine uT (by rfl) ?_; try (first | refine vL (by omega) (by omega) ?_ | refine xJ (Nat.le_of_ble_eq_true (by rfl)) ?_ | refine yP (by rfl) (by rfl) (by rfl) (by omega) ?_)))) | refine uD (by rfl) (by rfl) (by rfl) (by rfl) (Nat.le_of_ble_eq_true (by rfl)) ?_ | (refine sK (by rfl) (by rfl) ?_; try (first | refine yP (by rfl) (by rfl) (by rfl) (Nat.le_of_ble_eq_true (by rfl)) ?_ | refine yP (by rfl) (by rfl) (by rfl) (by omega) ?_)) | refine pS (by rfl) (by rfl) ?_ | refine bA (by rfl) (by rfl) ?_ | refine sW ?_ | refine x_frzSl (by rfl) ?_ | refine gJ ?_ | refine pQ ?_ | refine sU ?_ | refine sV (by rfl) (by rfl) (by rfl) (by rfl) ?_ | refine tX (by rfl) (by rfl) (by rfl) ?_) | (refine g_q ?_; first | refine q_mv (by rfl) ?_ | refine wN (by rfl) ?_ | (refine uJ ?_; try (first | refine vO (by rfl) (by assumption) ?_ | refine wY (by rfl) (by assumption) ?_ | refine wX (by rfl) ?_ | refine xY (by rfl) ?_ | refine xX (by rfl) ?_)) | (refine uL ?_; try (first | refine vP (by rfl) (by rfl) (by assumption) (by omega) (by omega) ?_ | refine wU (by rfl) (by rfl) (by assumption) (by omega) (by omega) ?_ | refine wR (by rfl) (by rfl) (by decide) (by decide) ?_ | refine yH (by rfl) (by rfl) (by decide) (by decide) ?_ | refine wE (by rfl) (by rfl) (by decide) (by decide) ?_ | refine yH (by rfl) (by rfl) (by omega) (by omega) ?_)) | refine q_cm (by rfl) (by rfl) ?_ | refine q_ar (by rfl) (by rfl) (by rfl) ?_ | refine vE (by rfl) ?_ | (refine uP ?_; try (first | refine wF (by rfl) ?_ | refine wG (by rfl) ?_ | refine wZ (by rfl) ?_)) | refine uO (by rfl) (by rfl) ?_ | refine wM (by rfl) ?_ | refine wO (by rfl) ?_ | refine uC (by rfl) (by rfl) (by first | decide | omega) ?_ | refine uG (by rfl) (by rfl) (by first | decide | omega) ?_ | refine uQ (by rfl) (by rfl) ?_ | refine uR (by rfl) (by rfl) (by rfl) ?_ | refine uI (by rfl) ?_ | refine uH (by rfl) ?_ | refine wA (by rfl) (by rfl) ?_ | refine wB (by rfl) (by rfl) ?_ | refine uF ?_ | refine uK ?_ | refine uN (by rfl) (by rfl) ?_ | refine vD (by rfl) (by rfl) ?_ | refine wD (by rfl) ?_ | refine q_mx (by rfl) (by rfl) ?_ | refine q_mn (by rfl) (by rfl) ?_ | refine uM (by rfl) ?_ | refine vF (by rfl) ?_ | refine vG (by rfl) ?_ | refine wC (by rfl) ?_ | refine wP (by rfl) (by rfl) ?_ | refine wQ (by rfl) (by rfl) ?_) | (refine g_c ?_; first | refine c_t (by rfl) ?_ | refine c_f (by rfl) ?_) | (refine g_k ?_; first | refine k_n ?_ | refine k_r ?_ | refine k_e (by rfl) ?_ | refine k_o (by rfl) ?_) | (refine g_lo ?_; first | refine l_r ?_ | refine l_e ?_) | (refine g_xd ?_; first | (refine xd_q (by rfl) ?_; try (first | refine q_mv (by rfl) ?_ | refine wN (by rfl) ?_ | (refine uJ ?_; try (first | refine vO (by rfl) (by assumption) ?_ | refine wY (by rfl) (by assumption) ?_ | refine wX (by rfl) ?_ | refine xY (by rfl) ?_ | refine xX (by rfl) ?_)) | (refine uL ?_; try (first | refine vP (by rfl) (by rfl) (by assumption) (by omega) (by omega) ?_ | refine wU (by rfl) (by rfl) (by assumption) (by omega) (by omega) ?_ | refine wR (by rfl) (by rfl) (by decide) (by decide) ?_ | refine yH (by rfl) (by rfl) (by decide) (by decide) ?_ | refine wE (by rfl) (by rfl) (by decide) (by decide) ?_ | refine yH (by rfl) (by rfl) (by omega) (by omega) ?_)) | refine q_cm (by rfl) (by rfl) ?_ | refine q_ar (by rfl) (by rfl) (by rfl) ?_ | refine vE (by rfl) ?_ | (refine uP ?_; try (first | refine wF (by rfl) ?_ | refine wG (by rfl) ?_ | refine wZ (by rfl) ?_)) | refine uO (by rfl) (by rfl) ?_ | refine wM (by rfl) ?_ | refine wO (by rfl) ?_ | refine uC (by rfl) (by rfl) (by first | decide | omega) ?_ | refine uG (by rfl) (by rfl) (by first | decide | omega) ?_ | refine uQ (by rfl) (by rfl) ?_ | refine uR (by rfl) (by rfl) (by rfl) ?_ | refine uI (by rfl) ?_ | refine uH (by rfl) ?_ | refine wA (by rfl) (by rfl) ?_ | refine wB (by rfl) (by rfl) ?_ | refine uF ?_ | refine uK ?_ | refine uN (by rfl) (by rfl) ?_ | refine vD (by rfl) (by rfl) ?_ | refine wD (by rfl) ?_ | refine q_mx (by rfl) (by rfl) ?_ | refine q_mn (by rfl) (by rfl) ?_ | refine uM (by rfl) ?_ | refine vF (by rfl) ?_ | refine vG (by rfl) ?_ | refine wC (by rfl) ?_ | refine wP (by rfl) (by rfl) ?_ | refine wQ (by rfl) (by rfl) ?_)) | (refine tD ?_; try (first | (refine uS (by rfl) ?_; try (first | refine yV (by rfl) (by rfl) ?_ | refine yN (by rfl) (by rfl) ?_ | refine yV (yJ _ _) (by rfl) ?_ | refine yN (yJ _ _) (by rfl) ?_)) | (refine uT (by rfl) ?_; try (first | refine vL (by omega) (by omega) ?_ | refine xJ (Nat.le_of_ble_eq_true (by rfl)) ?_ | refine yP (by rfl) (by rfl) (by rfl) (by omega) ?_)))) | refine wV (by rfl) (by rfl) (by rfl) (by rfl) (Nat.le_of_ble_eq_true (by rfl)) ?_ | (refine vT (by rfl) (by rfl) ?_; try (first | refine yP (by rfl) (by rfl) (by rfl) (Nat.le_of_ble_eq_true (by rfl)) ?_ | refine yP (by rfl) (by rfl) (by rfl) (by omega) ?_)) | refine tE (by rfl) (by rfl) ?_ | refine sC (by rfl) (by rfl) (by rfl) ?_ | refine vY (by rfl) ?_ | refine pP (by rfl) ?_) | (refine g_l ?_; first | (refine uS (by rfl) ?_; try (first | refine yV (by rfl) (by rfl) ?_ | refine yN (by rfl) (by rfl) ?_ | refine yV (yJ _ _) (by rfl) ?_ | refine yN (yJ _ _) (by rfl) ?_)) | (refine uT (by rfl) ?_; try (first | refine vL (by omega) (by omega) ?_ | refine xJ (Nat.le_of_ble_eq_true (by rfl)) ?_ | refine yP (by rfl) (by rfl) (by rfl) (by omega) ?_))) | (refine g_len ?_; first | refine vO (by rfl) (by assumption) ?_ | refine wY (by rfl) (by assumption) ?_ | refine wX (by rfl) ?_ | refine xY (by rfl) ?_ | refine xX (by rfl) ?_) | (refine g_nil ?_; first | refine wF (by rfl) ?_ | refine wG (by rfl) ?_ | refine wZ (by rfl) ?_) | (refine g_iad ?_; first | refine vP (by rfl) (by rfl) (by assumption) (by omega) (by omega) ?_ | refine wU (by rfl) (by rfl) (by assumption) (by omega) (by omega) ?_ | refine wR (by rfl) (by rfl) (by decide) (by decide) ?_ | refine yH (by rfl) (by rfl) (by decide) (by decide) ?_ | refine wE (by rfl) (by rfl) (by decide) (by decide) ?_ | refine yH (by rfl) (by rfl) (by omega) (by omega) ?_) | (refine g_box ?_; first | refine yV (by rfl) (by rfl) ?_ | refine yN (by rfl) (by rfl) ?_ | refine yV (yJ _ _) (by rfl) ?_ | refine yN (yJ _ _) (by rfl) ?_) | (refine g_cells ?_; first | refine vL (by omega) (by omega) ?_ | refine xJ (Nat.le_of_ble_eq_true (by rfl)) ?_) | (refine g_st ?_; first | refine yP (by rfl) (by rfl) (by rfl) (Nat.le_of_ble_eq_true (by rfl)) ?_) | (refine g_b ?_; first | refine b_r ?_ | refine b_n ?_) | (refine g_r ?_; first | refine r_tmp (by rfl) ?_ | refine r_cell ?_ | refine r_nil ?_))
 exact hgo.out) : A := h ⟨k⟩
section
variable {α : Type} {E : El α}
theorem Out.grow {el : TypeId} {m : Nat} {H X : Hp} {c : C} {l : List α} (h : Out E el m H c l) : Out E el m (H ++ X) c l := by
 cases h with
 | nil => exact .nil
 | sl hm hb hn hc h => exact .sl hm (by rw [List.getElem?_append_left (lt_of_getElem? hb)]; exact hb) hn hc h
theorem gF {F R : Hp} {el : TypeId} {es bytes : Nat} {s x : Option V} {K : V → Hp → Prop} {c : C} {out : List α} {cs : List C} {a : α} {H : Hp} (hH : H = F ++ R) (ho : Out E el F.length (F ++ R) c out) (hs : s = some (.c c)) (hx : x = some (.c (.imm 1 cs))) (he : E.s = es) (ha : E.p cs a) (hl : (out.length + 1) * bytes ≤ 140737488355328 ∧ out.length + 1 ≤ 140737488355328)
  (k : ∀ R' c', Out E el F.length (F ++ R') c' (out ++ [a]) → K (.c c') (F ++ R')) : appX H el es bytes s x K := by
 subst hH hs hx he
 have hlen := E.len ha
 have hxs : tF (F ++ R) E.s (.imm 1 cs) = some cs := by
  simp only [tF]
  rw [Nat.one_mul, List.take_of_length_le (Nat.le_of_eq hlen)]
 cases ho with
 | nil =>
  simp only [appX, hxs, gO]
  refine yZ (by simp [hlen]) (sT rfl (yZ ?_ ?_))
  ·simp only [List.length_nil, Nat.zero_add] at hl
   simp only [Bool.and_eq_true, yI]
   exact hl
  ·have := k (R ++ [.live ⟨cs, el, .rw⟩]) (.sl (F ++ R).length 0 1 none E.s) (.sl (cells := cs) (ds := cs) (by simp) (by rw [← List.append_assoc]; exact yJ _ _) rfl (by simp only [List.nil_append, List.length_cons, List.length_nil, Nat.zero_add, Nat.one_mul, List.take_of_length_le (Nat.le_of_eq hlen)]) (.one ha))
   rw [← List.append_assoc] at this
   exact this
 | @sl b n co' cells ds l hm hb hn hc h =>
  subst hn
  have hdl : (cells.take (out.length * E.s)).length = out.length * E.s := by rw [hc]; exact h.len
  have hle : out.length * E.s ≤ cells.length := by
   rw [List.length_take] at hdl
   omega
  have hlt := lt_of_getElem? hb
  refine app_sl (cs := cells) (xs := cs) (m := 1) rfl rfl hxs rfl (by rw [hlen, Nat.one_mul]) hb hle hl.1 hl.2 ?_
  have e : (F ++ R).set b .dead = F ++ R.set (b - F.length) .dead := List.set_append_right _ _ hm
  have e' : (F ++ R).length = (F ++ R.set (b - F.length) .dead).length := by simp
  rw [e, e', List.append_assoc]
  refine k _ _ (.sl (cells := cells.take (out.length * E.s) ++ cs) (ds := ds ++ cs) (by simp) (by rw [← List.append_assoc]; exact yJ _ _) (by simp) ?_ (h.snoc ha))
  rw [hc]
  exact List.take_of_length_le (by rw [List.length_append, h.len, hlen]; simp [Nat.add_mul])
end
def coK (k m : Nat) : Nat → Nat
 | 0 => 1
 | n + 1 => evK (coK k m n) m (n * 2) + k + 1
theorem coK_mono {k m i n : Nat} (h : i ≤ n) : coK k m i ≤ coK k m n := by
 induction h with
 | refl => exact Nat.le_refl _
 | @step n _ ih =>
  refine Nat.le_trans ih ?_
  cases n with
  | zero =>
   simp only [coK, evK]
   omega
  | succ n =>
   simp only [coK, evK]
   have := Nat.le_mul_of_pos_left (evK (coK k m n) m (n * 2) + k + 1 + m + 1) (show 0 < (n + 1) * 2 by omega)
   simp only [evK] at this
   omega
structure IsComp (p q m : List Rat) : Prop where
 ev : ∀ x, ev m x = ev p (Go.Proofs.YtjncgcnofiaiaaaGreat.ev q x)
 len : m.length ≤ p.length
 top : Top m
def integ (p : List Rat) : List Rat := 0 :: (List.range p.length).map (fun i => p.getD i 0 / (((i + 1 : Nat) : Int) : Rat))
structure IsInt (p m : List Rat) : Prop where
 ev : ∀ x, ev m x = ev (integ p) x
 len : m.length ≤ p.length + 1
theorem nat_ne (i : Nat) : (((i + 1 : Nat) : Int) : Rat) ≠ 0 := by
 intro h
 have h2 : ((i + 1 : Nat) : Int) = 0 := Rat.intCast_inj.1 (by simpa using h)
 omega
theorem evK_le {k m n : Nat} : 1 ≤ evK k m n := by
 unfold evK
 omega
attribute [local irreducible] yA semH semC qLen qNil qIad qSlc qIdx xA yM xH appX appI slcX awpF yQ xM xopF xT qval lval seqQ xO wT wL wI cnd arith IntKind.wrap
theorem qp_Compose {k m : Nat} {c d : C} {p q : List Rat} (hc : Ls (elQ k) c p) (hd : Ls (elQ m) d q) (hp : p.length < 1048576) (hq : q.length ≤ 2) (hk : coK k m p.length ≤ 134217728) : semC Tryz.prog n_qp_P_Compose [.c c, .c d] (vQ (elQ (coK k m p.length)) (IsComp p q)) := by
 refine yC ok_qp_P_Compose rfl (show HFVs [.c c, .c d] from ⟨hc.hf, hd.hf, trivial⟩) ?_
 refine go5 ?_
 rw [show arith .sub .i64 (p.length : Int) 1 = (p.length : Int) - 1 by rw [xV, yE (by omega) (by omega)]]
 refine go5 ?_
 refine yS (fun w vs H => ∃ (i : Nat) (o : C) (l : List Rat), vs = [.c c, .c d, .c o, i64 ((i : Int) - 1)] ∧ w = i ∧ i ≤ p.length ∧ Ls (elQ (coK k m (p.length - i))) o l ∧ l.length ≤ p.length - i ∧ (∀ x, ev l x = ev (p.drop i) (ev q x)) ∧ Top l) (by rfl) ⟨p.length, _, [], rfl, rfl, Nat.le_refl _, .nil, by simp, fun x => by rw [List.drop_length]; rfl, fun h => absurd h (by simp)⟩ ?_
 rintro w vs H ⟨i, o, l, rfl, rfl, h2, h3, h4, h5, h6⟩
 refine go5 ?_
 cases hi : yA Cm.geq ((w : Int) - 1) 0
 case false =>
  simp [yA] at hi
  have ei : w = 0 := by omega
  subst ei
  refine go5 ?_
  exact vQ.fz h3 ⟨h5, by omega, h6⟩
 simp [yA] at hi
 obtain ⟨j, rfl⟩ : ∃ j, w = j + 1 := ⟨w - 1, by omega⟩
 have hj : j < p.length := by omega
 have ek : p.length - j = (p.length - (j + 1)) + 1 := by omega
 have hk1 := Nat.le_trans (coK_mono (k := k) (m := m) (show p.length - j ≤ p.length by omega)) hk
 rw [ek] at hk1
 simp only [coK] at hk1
 have hle : l.length * q.length ≤ (p.length - (j + 1)) * 2 := Nat.mul_le_mul h4 hq
 have hk2 := jY (k := coK k m (p.length - (j + 1))) (m := m) hle
 rw [show (((j + 1 : Nat) : Int) - 1) = (j : Int) by omega]
 refine go5 ?_
 refine xW hc (i := j) hj (by omega) rfl (fun cs hcs => ?_)
 refine go5 ?_
 refine yG (qp_Mul h3 hd (by omega) (by omega) (by omega)) (fun u hu => ?_)
 obtain ⟨c1, r1, rfl, g1, g2⟩ := hu
 refine go5 ?_
 refine yG (qp_Const hcs) (fun u hu => ?_)
 obtain ⟨c2, r2, rfl, g3, g4⟩ := hu
 have l1 := g2.len
 have l2 := g4.len
 simp only [List.length_cons, List.length_nil] at l2
 refine go5 ?_
 refine yG (qp_Add g1 g3 (by omega) (by omega) evK_le (by omega)) (fun u hu => ?_)
 obtain ⟨c3, r3, rfl, g5, g6⟩ := hu
 refine go5 ?_
 rw [show arith .sub .i64 (j : Int) 1 = (j : Int) - 1 by rw [xV, yE (by omega) (by omega)]]
 refine l_n (by rfl) (n' := j) (by omega) ⟨j, c3, r3, rfl, rfl, by omega, by rw [ek]; simp only [coK]; exact g5.up (by omega), ?_, fun x => ?_, g6.top⟩
 ·have l3 := g6.len
  rcases Nat.eq_zero_or_pos l.length with h0 | h0
  ·have := g2.nil (.inl (List.eq_nil_of_length_eq_zero h0))
   subst this
   simp only [List.length_nil] at l3
   omega
  ·omega
 ·rw [g6.ev, g2.ev, g4.ev, h5, ev_drop hj, pY]
  grind
theorem qp_Integral {k : Nat} {c : C} {p : List Rat} (hc : Ls (elQ k) c p) (hp : p.length < 1048576) (hk : k + 1 ≤ 134217728) : semC Tryz.prog n_qp_P_Integral [.c c] (vQ (elQ (k + 1)) (IsInt p)) := by
 refine yC ok_qp_P_Integral rfl (show HFVs [.c c] from ⟨hc.hf, trivial⟩) ?_
 refine go6 ?_
 cases h1 : yA Cm.eql (p.length : Int) 0
 case true =>
  simp [yA] at h1
  subst h1
  refine go6 ?_
  exact vQ.fz .nil ⟨fun x => by simp only [integ, List.length_nil, List.range_zero, List.map_nil, ev]; grind, by simp⟩
 simp [yA] at h1
 refine go6 ?_
 refine yB (hU (g := 0) (by decide)) (fun u hu => ?_)
 obtain ⟨es, rfl, g1⟩ := hu
 obtain ⟨z1, z2, z3, z4, z5, z6, rfl⟩ := id g1.six
 refine go6 ?_
 simp only [uA, vW, ratC, uX, uW, List.set_cons_zero, List.set_cons_succ, List.nil_append, List.cons_append, List.append_nil, List.replicate_succ, List.replicate_zero, List.length_cons, List.length_nil, splice, List.take_succ_cons, List.take_zero, List.drop_succ_cons, List.drop_zero, List.take_nil, List.drop_nil, Nat.zero_add, Nat.reduceAdd, Nat.reduceMul, Int.reduceToNat, xS, List.getElem?_cons_succ, List.getElem?_cons_zero]
 refine yS (fun w vs H => ∃ (i : Nat) (o : C), vs = [.c c, .c o, i64 p.length, i64 i] ∧ w = p.length - i ∧ i ≤ p.length ∧ Out (elQ (k + 1)) wS 0 H o ((integ p).take (i + 1))) (by rfl) ⟨0, _, rfl, rfl, by omega, ?_⟩ ?_
 ·exact .sl (Nat.zero_le _) (by rfl) (by simp [integ]) (by rfl) (.one (g1.up (by omega)))
 rintro w vs H ⟨i, o, rfl, rfl, h2, h3⟩
 have hli : (integ p).length = p.length + 1 := by simp [integ]
 refine go9 ?_
 cases hi : yA Cm.lss (i : Int) (p.length : Int)
 case false =>
  simp [yA] at hi
  have ei : i = p.length := by omega
  subst ei
  rw [List.take_of_length_le (by omega)] at h3
  refine go9 ?_
  exact vQ.fzo h3 ⟨fun _ => rfl, by omega⟩
 simp [yA] at hi
 refine go9 ?_
 refine xW hc (i := i) hi (by omega) rfl (fun cs hcs => ?_)
 refine go9 ?_
 rw [xD i (by omega)]
 refine go9 ?_
 refine yB (hU (g := ((i + 1 : Nat) : Int)) (by omega)) (fun u hu => ?_)
 obtain ⟨ds, rfl, g2⟩ := hu
 refine go9 ?_
 refine yB (q_Div2 hcs g2 (by omega) (nat_ne i)) (fun u hu => ?_)
 obtain ⟨fs, rfl, g3⟩ := hu
 obtain ⟨y1, y2, y3, y4, y5, y6, rfl⟩ := id g3.six
 refine go9 ?_
 refine gF (F := []) (R := H ++ [.unb]) rfl h3.grow (by rfl) (by rfl) rfl g3 (by simp; omega) (fun R' o' h4 => ?_)
 refine go9 ?_
 have e : (integ p).take (i + 1) ++ [p[i] / (((i + 1 : Nat) : Int) : Rat)] = (integ p).take (i + 1 + 1) := by
  rw [qU (l := integ p) (i := i + 1) (by omega)]
  congr 2
  simp [integ, hi]
 rw [e] at h4
 rw [xD i (by omega)]
 exact l_n (by rfl) (by omega) ⟨i + 1, o', rfl, rfl, by omega, h4⟩
end Go.Proofs.YtjncgcnofiaiaaaGreat

set_option linter.unusedVariables false
set_option linter.unusedSimpArgs false
namespace Go.Proofs.YtjncgcnofiaiaaaGreat
open Go.RowKit
def dq : List Rat → Rat → List Rat
 | [], _ => []
 | [_], _ => []
 | _ :: b :: t, r => ev (b :: t) r :: dq (b :: t) r
theorem dq_ev : ∀ (l : List Rat) (r x : Rat), ev l x - ev l r = (x - r) * ev (dq l r) x
 | [], r, x => by
  simp only [dq, ev]
  grind
 | [a], r, x => by
  simp only [dq, ev]
  grind
 | a :: b :: t, r, x => by
  have ih := dq_ev (b :: t) r x
  rw [show ev (a :: b :: t) x = a + x * ev (b :: t) x from rfl, show ev (a :: b :: t) r = a + r * ev (b :: t) r from rfl, show ev (dq (a :: b :: t) r) x = ev (b :: t) r + x * ev (dq (b :: t) r) x from rfl]
  generalize ev (b :: t) x = y at *
  generalize ev (b :: t) r = z at *
  generalize ev (dq (b :: t) r) x = w at *
  grind
theorem dq_len : ∀ (l : List Rat) (r : Rat), (dq l r).length = l.length - 1
 | [], r => rfl
 | [a], r => rfl
 | a :: b :: t, r => by
  have := dq_len (b :: t) r
  simp only [dq, List.length_cons] at *
  omega
theorem dq_all0 : ∀ (l : List Rat) (r : Rat), (∀ a ∈ dq l r, a = 0) → ev l r = 0 → ∀ a ∈ l, a = 0
 | [], r, _, _ => fun a h => by cases h
 | [b], r, _, h => fun a ha => by
  simp at ha
  subst ha
  rw [pY] at h
  exact h
 | b :: c :: t, r, h, h2 => by
  have h3 : ev (c :: t) r = 0 := h _ (by simp [dq])
  have h4 := dq_all0 (c :: t) r (fun a ha => h a (by simp [dq, ha])) h3
  intro a ha
  rcases List.mem_cons.1 ha with rfl | ha
  ·rw [show ev (a :: c :: t) r = a + r * ev (c :: t) r from rfl, h3] at h2
   grind
  ·exact h4 a ha
theorem cast_ne {a b : Nat} (h : a < b) : ((b : Int) : Rat) - ((a : Int) : Rat) ≠ 0 := by
 intro e
 have h2 : ((b : Int) : Rat) = ((a : Int) : Rat) := by grind
 have := Rat.intCast_inj.1 h2
 omega
theorem ev_roots : ∀ (n : Nat) (l : List Rat) (c : Nat), l.length ≤ n → (∀ k : Nat, c ≤ k → ev l ((k : Int) : Rat) = 0) → ∀ a ∈ l, a = 0
 | 0, l, c, h, _ => by
  have : l = [] := List.eq_nil_of_length_eq_zero (by omega)
  subst this
  intro a ha
  cases ha
 | n + 1, l, c, h, hz => by
  refine dq_all0 l ((c : Int) : Rat) ?_ (hz c (Nat.le_refl _))
  refine ev_roots n _ (c + 1) (by rw [dq_len]; omega) (fun k hk => ?_)
  have h1 := dq_ev l ((c : Int) : Rat) ((k : Int) : Rat)
  rw [hz k (by omega), hz c (Nat.le_refl _)] at h1
  have h2 := cast_ne (a := c) (b := k) (by omega)
  generalize ev (dq l ((c : Int) : Rat)) ((k : Int) : Rat) = y at *
  generalize ((k : Int) : Rat) - ((c : Int) : Rat) = z at *
  have h3 : z * y = 0 := by grind
  rcases Rat.mul_eq_zero.1 h3 with h4 | h4
  ·exact absurd h4 h2
  ·exact h4
theorem ev_zero {l : List Rat} (h : ∀ x, ev l x = 0) : ∀ a ∈ l, a = 0 := ev_roots l.length l 0 (Nat.le_refl _) (fun k _ => h _)
theorem zero_nil {l : List Rat} (ht : Top l) (h : ∀ x, ev l x = 0) : l = [] := by
 rcases Nat.eq_zero_or_pos l.length with h0 | h0
 ·exact List.eq_nil_of_length_eq_zero h0
 ·exact absurd (ev_zero h _ (List.getElem_mem _)) (ht h0)
theorem ev_range_sub (f g : Nat → Rat) (x : Rat) : ∀ n, ev ((List.range n).map fun j => f j - g j) x = ev ((List.range n).map f) x - ev ((List.range n).map g) x
 | 0 => by simp only [List.range_zero, List.map_nil, ev]; grind
 | n + 1 => by
  have e : ∀ h : Nat → Rat, (List.range (n + 1)).map h = (List.range n).map h ++ [h n] := fun h => by rw [List.range_succ, List.map_append]; rfl
  rw [e, e, e, sH, sH, sH, ev_range_sub f g x n, pY, pY, pY]
  simp only [List.length_map, List.length_range]
  grind
theorem getD_range {l : List Rat} {n : Nat} (h : l.length ≤ n) : (List.range n).map (l.getD · 0) = l ++ List.replicate (n - l.length) 0 := by
 apply List.ext_getElem
 ·simp; omega
 ·intro i h1 h2
  simp only [List.getElem_map, List.getElem_range]
  by_cases hi : i < l.length
  ·rw [List.getElem_append_left hi]
   simp [hi]
  ·rw [List.getElem_append_right (by omega), List.getElem_replicate]
   simp [hi]
theorem ev_getD_range {l : List Rat} {n : Nat} (h : l.length ≤ n) (x : Rat) : ev ((List.range n).map (l.getD · 0)) x = ev l x := by
 rw [getD_range h, sH, ev_zeros]
 grind
theorem coef_eq {l m : List Rat} (h : ∀ x, ev l x = ev m x) (j : Nat) : l.getD j 0 = m.getD j 0 := by
 have h1 : ∀ x, ev ((List.range (l.length + m.length + j + 1)).map fun j => l.getD j 0 - m.getD j 0) x = 0 := fun x => by
  rw [ev_range_sub (l.getD · 0) (m.getD · 0), ev_getD_range (by omega), ev_getD_range (by omega), h x]
  grind
 have h2 := ev_zero h1 (l.getD j 0 - m.getD j 0) (List.mem_map.2 ⟨j, List.mem_range.2 (by omega), rfl⟩)
 grind
end Go.Proofs.YtjncgcnofiaiaaaGreat

set_option linter.unusedVariables false
set_option linter.unusedSimpArgs false
namespace Go.Proofs.YtjncgcnofiaiaaaGreat
open Go.RowKit
set_option maxRecDepth 20000
theorem pJ : IR 1 zeroRQ 0 := by
 have e : rp (0 : Rat) = (0, 1) := rp_int 0
 refine ⟨?_, ?_⟩
 ·rw [e]
  exact IsRQ.mk (n := [.nilSl, .bool false]) (d := [.nilSl, .bool false]) rw_zero rw_zero
 ·rw [e]
  exact one_bd (k := 0) (n := 0) (by decide)
section
variable {α : Type} {E : El α}
theorem app_copyE {H : Hp} {el : TypeId} {es bytes : Nat} {s x : Option V} {c : C} {L : List α} {K : V → Hp → Prop} (hs : s = some (.c .nilSl)) (hx : x = some (.c c)) (hc : Ls E c L) (he : E.s = es) (hz : L.length * bytes ≤ 140737488355328 ∧ L.length ≤ 140737488355328)
  (k : ∀ H' c', Out E el 0 H' c' L → K (.c c') H') : appX H el es bytes s x K := by
 subst hs hx he
 cases hc with
 | nil =>
  simp only [appX, tF, gO]
  exact yZ (by simp) (jA rfl (k _ _ .nil))
 | @imm ds l h =>
  have hl := h.len
  have hxs : tF H E.s (.imm L.length ds) = some ds := by
   simp only [tF]
   rw [List.take_of_length_le (by omega)]
  simp only [appX, hxs, gO]
  refine yZ (by simp [hl]) ?_
  rcases Nat.eq_zero_or_pos L.length with h0 | h0
  ·have : L = [] := List.eq_nil_of_length_eq_zero h0
   subst this
   exact jA rfl (k _ _ .nil)
  ·refine sT (by cases hL : L.length; omega; rfl) (yZ (by simp only [Bool.and_eq_true, yI]; exact hz) (k _ _ ?_))
   exact .sl (cells := ds) (by omega) (yJ _ _) rfl (by rw [List.take_of_length_le (by omega)]) h
end
structure IsScale (x : Rat) (p m : List Rat) : Prop where
 ev : ∀ y, ev m y = ev p y * x
 len : m.length ≤ p.length
 top : Top m
theorem ev_scale (x y : Rat) : ∀ l, ev (l.map (· * x)) y = ev l y * x
 | [] => by
  simp only [List.map_nil, ev]
  grind
 | a :: l => by
  simp only [List.map_cons, ev, ev_scale x y l]
  grind
def vaK (k m : Nat) : Nat → Nat
 | 0 => 1
 | n + 1 => vaK k m n + (k + (n * m + 1)) + 1
theorem vaK_mono {k m i n : Nat} (h : i ≤ n) : vaK k m i ≤ vaK k m n := by
 induction h with
 | refl => exact Nat.le_refl _
 | step _ ih =>
  simp only [vaK]
  omega
theorem pow_succ' (x : Rat) (i : Nat) : x ^ (i + 1) = x ^ i * x := Rat.pow_succ x i
attribute [local irreducible] yA semH semC qLen qNil qIad qSlc qIdx xA yM xH appX appI slcX awpF yQ xM xopF xT qval lval seqQ xO wT wL wI cnd arith IntKind.wrap
theorem pF {k : Nat} {c : C} {l : List Rat} (hc : Ls (elR k) c l) (hl : l.length < 1048576) : semC Tryz.prog n_ref02_Trim [.c c] (vQ (elR k) (Cut l)) := by
 refine yC ok_ref02_Trim rfl (show HFVs [.c c] from ⟨hc.hf, trivial⟩) ?_
 refine go6 ?_
 refine yS (fun w vs H => ∃ (n : Nat), vs = [.c c, i64 n] ∧ w = n ∧ n ≤ l.length ∧ ∀ x, ev (l.take n) x = ev l x) (by rfl) ⟨l.length, rfl, rfl, Nat.le_refl _, fun x => by rw [List.take_length]⟩ ?_
 rintro w vs H ⟨n, rfl, rfl, h1, h2⟩
 refine go6 ?_
 cases hq : yA Cm.gtr (w : Int) 0
 ·simp [yA] at hq
  have hn : w = 0 := by omega
  subst hn
  refine go6 ?_
  refine pE (l := l) (b := ((0 : Nat) : Int)) (by rfl) hc rfl (by rfl) (by rfl) (by omega) (by omega) (by omega) (fun c' hc' => ?_)
  have e2 : (l.drop (0 : Int).toNat).take (((0 : Nat) : Int).toNat - (0 : Int).toNat) = l.take 0 := by simp
  rw [e2] at hc'
  refine go6 ?_
  refine app_copyE (by rfl) (by rfl) hc' rfl (by simp) (fun H' c2 h3 => ?_)
  refine go6 ?_
  exact vQ.fzo h3 ⟨h2, by simp, fun h => absurd h (by simp)⟩
 ·simp [yA] at hq
  have e1 : arith .sub .i64 (w : Int) 1 = ((w - 1 : Nat) : Int) := by rw [xV, yE (by omega) (by omega)]; omega
  refine go6 ?_
  rw [e1]
  refine go6 ?_
  refine xW hc (i := w - 1) (by omega) (by omega) rfl (fun cs hcs => ?_)
  refine go6 ?_
  refine yB (qF hcs) (fun u hu => ?_)
  obtain ⟨z, rfl, hz⟩ := hu
  cases z
  ·refine go6 ?_
   refine pE (l := l) (b := (w : Int)) (by rfl) hc rfl (by rfl) (by rfl) (by omega) (by omega) (by omega) (fun c' hc' => ?_)
   have e2 : (l.drop (0 : Int).toNat).take ((w : Int).toNat - (0 : Int).toNat) = l.take w := by simp
   rw [e2] at hc'
   have hlw : (l.take w).length = w := by simp; omega
   refine go6 ?_
   refine app_copyE (by rfl) (by rfl) hc' rfl (by rw [hlw]; omega) (fun H' c2 h3 => ?_)
   refine go6 ?_
   refine vQ.fzo h3 ⟨h2, by omega, fun h e => ?_⟩
   simp only [hlw, List.getElem_take] at e
   exact absurd (hz.2 e) (by decide)
  ·have hz := hz.1 rfl
   refine go6 ?_
   rw [e1]
   refine l_n (by rfl) (n' := w - 1) (by omega) ⟨w - 1, rfl, rfl, by omega, fun x => ?_⟩
   have h3 := ev_take (l := l) (i := w - 1) (by omega) x
   rw [hz, show w - 1 + 1 = w by omega] at h3
   rw [← h2 x, h3]
   grind
theorem ref02_At {k : Nat} {c : C} {l : List Rat} (i : Nat) (hc : Ls (elR k) c l) (hl : l.length < 1048576) (hi : i < 1048576) (hk : 1 ≤ k) : semC Tryz.prog n_ref02_Poly_At [.c c, i64 i] (RQV k (l.getD i 0)) := by
 refine yC ok_ref02_Poly_At rfl (show HFVs [.c c, i64 i] from ⟨hc.hf, trivial, trivial⟩) ?_
 refine go5 ?_
 cases h0 : yA Cm.lss (i : Int) 0
 case true =>
  simp [yA] at h0
  omega
 refine go5 ?_
 cases h1 : yA Cm.geq (i : Int) (l.length : Int)
 ·simp [yA] at h1
  refine go5 ?_
  refine xW hc (i := i) h1 (by omega) rfl (fun cs hcs => ?_)
  obtain ⟨_, _, _, _, rfl⟩ := id hcs.four
  refine go5 ?_
  refine RQV.fz ?_
  rw [yX h1]
  exact hcs
 ·simp [yA] at h1
  refine go5 ?_
  refine RQV.fz (IR.up (k := 1) ?_ hk)
  rw [getD_ge h1]
  exact pJ
theorem ref02_Plus {k m : Nat} {c d : C} {p q : List Rat} (hc : Ls (elR k) c p) (hd : Ls (elR m) d q) (hp : p.length < 524288) (hq : q.length < 524288) (h0 : 1 ≤ k) (h1 : 1 ≤ m) (hk : k + m + 1 ≤ 134217728) : semC Tryz.prog n_ref02_Poly_Plus [.c c, .c d] (vQ (elR (k + m + 1)) (IsSum p q)) := by
 refine yC ok_ref02_Poly_Plus rfl (show HFVs [.c c, .c d] from ⟨hc.hf, hd.hf, trivial⟩) ?_
 refine go5 ?_
 rw [show (if ((q.length : Nat) : Int) > (p.length : Nat) then ((q.length : Nat) : Int) else (p.length : Nat)) = ((max p.length q.length : Nat) : Int) by split <;> omega]
 generalize hn : max p.length q.length = n
 have hnp : p.length ≤ n := by omega
 have hnq : q.length ≤ n := by omega
 refine vM (by rfl) (by rfl) ⟨by omega, by omega, by omega, by omega⟩ ?_
 refine go5 ?_
 refine yS (fun w vs H => ∃ (i : Nat) (cells : List C), vs = [.c c, .c d, .c (.sl 0 0 n (some n) 4), i64 i] ∧ H = [.live ⟨cells, yF, .rw⟩] ∧ w = n - i ∧ i ≤ n ∧ Fill (elR (k + m + 1)) zeroRQ n cells ((List.range i).map (sumC p q))) (by rfl) ⟨0, _, rfl, rfl, rfl, by omega, .zero rfl⟩ ?_
 rintro w vs H ⟨i, cells, rfl, rfl, rfl, h2, h3⟩
 have hlen : cells.length = n * 4 := h3.len
 have htl : ((List.range i).map (sumC p q)).length = i := by simp
 refine go5 ?_
 cases hi : yA Cm.lss (i : Int) (n : Int)
 case false =>
  simp [yA] at hi
  have ei : i = n := by omega
  subst ei
  have h4 := h3.done htl
  have h5 := Ls.imm h4
  rw [htl] at h5
  refine go5 ?_
  refine yR [0] (.cons (.c (fz_sl (ds := cells) (by rfl) (by rfl) (by simp) (by rw [List.drop_zero, List.take_of_length_le (by simp only; omega)]) h4.hf)) .nil) (pF h5 (by simp; omega)) (fun u hu => ?_)
  obtain ⟨c', r, rfl, h6, h7⟩ := hu
  refine go5 ?_
  exact vQ.fz h6 ⟨fun x => by rw [h7.ev, ev_sumC hnp hnq], by have := h7.len; simp at this; omega, h7.top⟩
 simp [yA] at hi
 refine go5 ?_
 refine yB (ref02_At i hc (by omega) (by omega) h0) (fun u hu => ?_)
 obtain ⟨av, rfl, g1⟩ := hu
 refine go5 ?_
 refine yB (ref02_At i hd (by omega) (by omega) h1) (fun u hu => ?_)
 obtain ⟨bs, rfl, g2⟩ := hu
 refine go5 ?_
 refine yB (r_Add2 g1 g2 hk) (fun u hu => ?_)
 obtain ⟨cs, rfl, g3⟩ := hu
 have h8 := h3.put (by rw [htl]; omega) (show (elR (k + m + 1)).p cs (sumC p q i) from g3)
 rw [htl, ← uB] at h8
 obtain ⟨y1, y2, y3, y4, rfl⟩ := id g3.four
 refine go5 ?_
 rw [xD i (by omega)]
 exact l_n (by rfl) (by omega) ⟨i + 1, _, rfl, rfl, rfl, by omega, by rw [show 0 + ((i : Nat) : Int).toNat * 4 = i * 4 by omega]; exact h8⟩
theorem ref02_Times {k m : Nat} {c d : C} {p q : List Rat} (hc : Ls (elR k) c p) (hd : Ls (elR m) d q) (hp : p.length < 524288) (hq : q.length < 524288) (hk : evK k m (p.length * q.length) ≤ 134217727) : semC Tryz.prog n_ref02_Poly_Times [.c c, .c d] (vQ (elR (evK k m (p.length * q.length))) (IsProd p q)) := by
 refine yC ok_ref02_Poly_Times rfl (show HFVs [.c c, .c d] from ⟨hc.hf, hd.hf, trivial⟩) ?_
 refine go5 ?_
 have e0 : arith .sub .i64 (arith .add .i64 (p.length : Int) (q.length : Int)) 1 = (p.length : Int) + q.length - 1 := by rw [addII (by omega), xV, yE (by omega) (by omega)]; omega
 rw [e0]
 generalize hn : p.length + q.length - 1 = n
 rw [show (if (p.length : Int) + q.length - 1 > 0 then (p.length : Int) + q.length - 1 else 0) = (n : Int) by split <;> omega]
 refine vM (by rfl) (by rfl) ⟨by omega, by omega, by omega, by omega⟩ ?_
 refine go5 ?_
 refine yS (fun w vs H => ∃ (j : Nat) (cells : List C) (L : List Rat), vs = [.c c, .c d, .c (.sl 0 0 n (some n) 4), i64 j] ∧ H = [.live ⟨cells, yF, .rw⟩] ∧ w = p.length - j ∧ j ≤ p.length ∧ L.length = n ∧ Els (elR (evK k m (j * q.length))) cells L ∧ Row p q j 0 L) (by rfl) ⟨0, _, _, rfl, rfl, rfl, by omega, List.length_replicate, (Els.rep (E := elR 1) pJ n).up' (by unfold evK; omega), .first⟩ ?_
 rintro w vs H ⟨j, cells, L, rfl, rfl, rfl, h3, h4, h5, h6⟩
 refine go5 ?_
 cases hj : yA Cm.lss (j : Int) (p.length : Int)
 case false =>
  simp [yA] at hj
  have ej : j = p.length := by omega
  subst ej
  have h7 := Ls.imm h5
  have hlen := h5.len
  rw [h4] at h7
  refine go5 ?_
  refine yR [0] (.cons (.c (fz_sl (ds := cells) (by rfl) (by rfl) (by simp) (by rw [List.drop_zero, List.take_of_length_le (by simp only; rw [hlen, h4]; exact Nat.le_refl _)]) h5.hf)) .nil) (pF h7 (by omega)) (fun u hu => ?_)
  obtain ⟨c', r, rfl, h8, h9⟩ := hu
  refine go5 ?_
  refine vQ.fz h8 ⟨fun x => by rw [h9.ev, h6.done], by have := h9.len; omega, fun h => ?_, h9.top⟩
  refine zero_nil h9.top (fun x => ?_)
  rw [h9.ev, h6.done]
  rcases h with rfl | rfl <;> simp only [ev] <;> grind
 simp [yA] at hj
 refine go5 ?_
 refine yS (fun w vs H => ∃ (o : Nat) (cells : List C) (L : List Rat), vs = [.c c, .c d, .c (.sl 0 0 n (some n) 4), i64 j, i64 o] ∧ H = [.live ⟨cells, yF, .rw⟩] ∧ w = q.length - o ∧ o ≤ q.length ∧ L.length = n ∧ Els (elR (evK k m (j * q.length + o))) cells L ∧ Row p q j o L) (by rfl) ⟨0, cells, L, rfl, rfl, rfl, by omega, h4, h5, h6⟩ ?_
 clear h4 h5 h6 L cells
 rintro w vs H ⟨o, cells, L, rfl, rfl, rfl, h4, h5, h6, h7⟩
 have hlen : cells.length = n * 4 := by rw [h6.len, h5]; rfl
 refine go5 ?_
 cases ho : yA Cm.lss (o : Int) (q.length : Int)
 case false =>
  simp [yA] at ho
  have eo : o = q.length := by omega
  subst eo
  refine go5 ?_
  rw [xD j (by omega)]
  exact l_n (by rfl) (by omega) ⟨j + 1, cells, L, rfl, rfl, rfl, by omega, h5, by rw [Nat.succ_mul]; exact h6, h7.next hj⟩
 simp [yA] at ho
 have hjo : j + o < L.length := by omega
 have hle : j * q.length + o + 1 ≤ p.length * q.length := by
  have := Nat.mul_le_mul_right q.length (show j + 1 ≤ p.length by omega)
  rw [Nat.succ_mul] at this
  omega
 have hke := Nat.le_trans (jY (k := k) (m := m) hle) hk
 rw [bW] at hke
 have eo : evK k m (j * q.length + (o + 1)) = evK k m (j * q.length + o) + (k + m + 1) := bW k m (j * q.length + o)
 refine go5 ?_
 rw [addII (show j + o < 9223372036854775808 by omega)]
 refine go5 ?_
 refine ld_boxE (by rfl) h6 hjo (by show _ = (j + o) * 4; omega) rfl (fun cs hcs => ?_)
 refine go5 ?_
 refine xW hc (i := j) hj (by omega) rfl (fun ds hds => ?_)
 refine go5 ?_
 refine xW hd (i := o) ho (by omega) rfl (fun es hes => ?_)
 refine go5 ?_
 refine yG (gQ hds hes (by omega)) (fun u hu => ?_)
 obtain ⟨fs, rfl, g1⟩ := hu
 refine go5 ?_
 refine yG (r_Add2 hcs g1 (by omega)) (fun u hu => ?_)
 obtain ⟨gs, rfl, g2⟩ := hu
 obtain ⟨y1, y2, y3, y4, rfl⟩ := id g2.four
 refine go5 ?_
 rw [xD o (by omega)]
 have g3 : IR (evK k m (j * q.length + (o + 1))) _ _ := g2.up (by rw [eo]; omega)
 exact l_n (by rfl) (by omega) ⟨o + 1, _, _, rfl, rfl, rfl, by omega, by rw [List.length_set]; exact h5, by
  rw [show 0 + ((j + o : Nat) : Int).toNat * 4 = (j + o) * 4 by omega]
  exact (h6.up' (by rw [eo]; omega)).set hjo g3, h7.step hj ho hjo⟩
theorem ref02_Scale {k m : Nat} {c : C} {xs : List C} {p : List Rat} {x : Rat} (hc : Ls (elR k) c p) (hx : IR m xs x) (hp : p.length < 524288) (hk : k + m ≤ 134217727) : semC Tryz.prog n_ref02_Poly_Scale [.c c, .agg xs] (vQ (elR (k + m)) (IsScale x p)) := by
 refine yC ok_ref02_Poly_Scale rfl (show HFVs [.c c, .agg xs] from ⟨hc.hf, hx.hf, trivial⟩) ?_
 obtain ⟨a, b, c1, d, rfl⟩ := id hx.four
 refine go5 ?_
 refine vM (by rfl) (by rfl) ⟨by omega, by omega, by omega, by omega⟩ ?_
 refine go5 ?_
 refine yS (fun w vs H => ∃ (i : Nat) (cells : List C), vs = [.c c, .c (.ptr 0 0), .c (.sl 1 0 p.length (some p.length) 4), i64 i] ∧ H = [.live ⟨[a, .bool b, c1, .bool d], yF, .rw⟩, .live ⟨cells, yF, .rw⟩] ∧ w = p.length - i ∧ i ≤ p.length ∧ Fill (elR (k + m)) zeroRQ p.length cells ((p.take i).map (· * x))) (by rfl) ⟨0, _, rfl, rfl, rfl, by omega, .zero rfl⟩ ?_
 rintro w vs H ⟨i, cells, rfl, rfl, rfl, h2, h3⟩
 have hlen : cells.length = p.length * 4 := h3.len
 refine go5 ?_
 cases hi : yA Cm.lss (i : Int) (p.length : Int)
 case false =>
  simp [yA] at hi
  have ei : i = p.length := by omega
  subst ei
  rw [List.take_length] at h3
  have h4 := h3.done (by simp)
  have h5 := Ls.imm h4
  rw [List.length_map] at h5
  refine go5 ?_
  refine yR [1] (.cons (.c (fz_sl (ds := cells) (by rfl) (by rfl) (by simp) (by rw [List.drop_zero, List.take_of_length_le (by simp only; omega)]) h4.hf)) .nil) (pF h5 (by simp; omega)) (fun u hu => ?_)
  obtain ⟨c', r, rfl, h6, h7⟩ := hu
  refine go5 ?_
  exact vQ.fz h6 ⟨fun y => by rw [h7.ev, ev_scale], by have := h7.len; simpa using this, h7.top⟩
 simp [yA] at hi
 have htl : ((p.take i).map (· * x)).length = i := by simp; omega
 refine go5 ?_
 refine xW hc (i := i) hi (by omega) rfl (fun cs hcs => ?_)
 refine go5 ?_
 refine yG (gQ hcs hx hk) (fun u hu => ?_)
 obtain ⟨es, rfl, g3⟩ := hu
 have h8 := h3.put (by rw [htl]; omega) (show (elR (k + m)).p es (p[i] * x) from g3)
 rw [htl, show (p.take i).map (· * x) ++ [p[i] * x] = (p.take (i + 1)).map (· * x) by rw [qU hi, List.map_append]; rfl] at h8
 obtain ⟨y1, y2, y3, y4, rfl⟩ := id g3.four
 refine go5 ?_
 rw [xD i (by omega)]
 exact l_n (by rfl) (by omega) ⟨i + 1, _, rfl, rfl, rfl, by omega, by rw [show 0 + ((i : Nat) : Int).toNat * 4 = i * 4 by omega]; exact h8⟩
theorem ref02_Value {k m : Nat} {c : C} {xs : List C} {p : List Rat} {x : Rat} (hc : Ls (elR k) c p) (hx : IR m xs x) (hp : p.length < 524288) (hk : vaK k m p.length ≤ 134217727) (hm : p.length * m + 1 ≤ 134217727) : semC Tryz.prog n_ref02_Poly_Value [.c c, .agg xs] (RQV (vaK k m p.length) (ev p x)) := by
 refine yC ok_ref02_Poly_Value rfl (show HFVs [.c c, .agg xs] from ⟨hc.hf, hx.hf, trivial⟩) ?_
 obtain ⟨a, b, c1, d, rfl⟩ := id hx.four
 refine go5 ?_
 refine yB (r_Int (g := 1) (by decide)) (fun u hu => ?_)
 obtain ⟨es, rfl, g1⟩ := hu
 obtain ⟨e1, e2, e3, e4, rfl⟩ := id g1.four
 refine go5 ?_
 simp only [uA, vW, ratC, uX, uW, List.set_cons_zero, List.set_cons_succ, List.nil_append, List.cons_append, List.append_nil, List.replicate_succ, List.replicate_zero, List.length_cons, List.length_nil, splice, List.take_succ_cons, List.take_zero, List.drop_succ_cons, List.drop_zero, List.take_nil, List.drop_nil, Nat.zero_add, Nat.reduceAdd, Nat.reduceMul, Int.reduceToNat, xS, List.getElem?_cons_succ, List.getElem?_cons_zero]
 refine yS (fun w vs H => ∃ (i : Nat) (os ps : List C), vs = [.c c, .c (.ptr 0 0), .c (.ptr 1 0), .c (.ptr 2 0), .c (.ptr 3 0), i64 i] ∧ H = [.live ⟨[a, .bool b, c1, .bool d], yF, .rw⟩, .live ⟨zeroRQ, yF, .rw⟩, .live ⟨os, yF, .rw⟩, .live ⟨ps, yF, .rw⟩] ∧ w = p.length - i ∧ i ≤ p.length ∧ IR (vaK k m i) os (ev (p.take i) x) ∧ IR (i * m + 1) ps (x ^ i)) (by rfl) ⟨0, _, _, rfl, rfl, rfl, by omega, pJ, ?_⟩ ?_
 ·rw [Rat.pow_zero, Nat.zero_mul]
  exact g1
 rintro w vs H ⟨i, os, ps, rfl, rfl, rfl, h2, h3, h4⟩
 obtain ⟨o1, o2, o3, o4, rfl⟩ := id h3.four
 obtain ⟨p1, p2, p3, p4, rfl⟩ := id h4.four
 refine go5 ?_
 cases hi : yA Cm.lss (i : Int) (p.length : Int)
 case false =>
  simp [yA] at hi
  have ei : i = p.length := by omega
  subst ei
  rw [List.take_length] at h3
  refine go5 ?_
  exact RQV.fz h3
 simp [yA] at hi
 have k1 := Nat.le_trans (vaK_mono (k := k) (m := m) (show i + 1 ≤ p.length by omega)) hk
 simp only [vaK] at k1
 have k2 : i * m + m ≤ p.length * m := by
  have := Nat.mul_le_mul_right m (show i + 1 ≤ p.length by omega)
  rwa [Nat.succ_mul] at this
 refine go5 ?_
 refine xW hc (i := i) hi (by omega) rfl (fun cs hcs => ?_)
 refine go5 ?_
 refine yG (gQ hcs h4 (by omega)) (fun u hu => ?_)
 obtain ⟨fs, rfl, g2⟩ := hu
 refine go5 ?_
 refine yG (r_Add2 h3 g2 (by omega)) (fun u hu => ?_)
 obtain ⟨gs, rfl, g3⟩ := hu
 obtain ⟨y1, y2, y3, y4, rfl⟩ := id g3.four
 refine go5 ?_
 refine yG (gQ h4 hx (by omega)) (fun u hu => ?_)
 obtain ⟨hs, rfl, g4⟩ := hu
 obtain ⟨z1, z2, z3, z4, rfl⟩ := id g4.four
 refine go5 ?_
 rw [xD i (by omega)]
 refine l_n (by rfl) (by omega) ⟨i + 1, _, _, rfl, rfl, rfl, by omega, ?_, ?_⟩
 ·rw [ev_take hi]
  have e : x ^ i * p[i] = p[i] * x ^ i := by grind
  rw [e]
  exact g3
 ·rw [pow_succ']
  exact g4.up (by rw [Nat.succ_mul]; omega)
end Go.Proofs.YtjncgcnofiaiaaaGreat

set_option linter.unusedVariables false
set_option linter.unusedSimpArgs false
namespace Go.Proofs.YtjncgcnofiaiaaaGreat
open Go.RowKit
def tA (f : Nat → Rat) : Nat → Rat
 | 0 => 0
 | n + 1 => tA f n + f n
theorem sumTo_congr {f g : Nat → Rat} : ∀ {n : Nat}, (∀ j, j < n → f j = g j) → tA f n = tA g n
 | 0, _ => rfl
 | n + 1, h => by
  simp only [tA]
  rw [sumTo_congr (fun j hj => h j (by omega)), h n (by omega)]
theorem sumTo_mul (f : Nat → Rat) (k : Rat) : ∀ n, tA (fun j => f j * k) n = tA f n * k
 | 0 => by simp only [tA]; grind
 | n + 1 => by
  simp only [tA, sumTo_mul f k n]
  grind
theorem sumTo_sub (f g : Nat → Rat) : ∀ n, tA (fun j => f j - g j) n = tA f n - tA g n
 | 0 => by simp only [tA]; grind
 | n + 1 => by
  simp only [tA, sumTo_sub f g n]
  grind
theorem sumTo_zero {f : Nat → Rat} : ∀ {n : Nat}, (∀ j, j < n → f j = 0) → tA f n = 0
 | 0, _ => rfl
 | n + 1, h => by
  simp only [tA]
  rw [sumTo_zero (fun j hj => h j (by omega)), h n (by omega)]
  grind
theorem sumTo_one {f : Nat → Rat} {p : Nat} : ∀ {n : Nat}, p < n → (∀ j, j < n → j ≠ p → f j = 0) → tA f n = f p
 | 0, h, _ => by omega
 | n + 1, h, h2 => by
  simp only [tA]
  by_cases e : p = n
  ·subst e
   rw [sumTo_zero (fun j hj => h2 j (by omega) (by omega))]
   grind
  ·rw [sumTo_one (p := p) (by omega) (fun j hj hne => h2 j (by omega) hne), h2 n (by omega) (fun x => e x.symm)]
   grind
theorem sumTo_two {f : Nat → Rat} {p q : Nat} (hpq : p ≠ q) : ∀ {n : Nat}, p < n → q < n → (∀ j, j < n → j ≠ p → j ≠ q → f j = 0) → tA f n = f p + f q
 | 0, h, _, _ => by omega
 | n + 1, h, h', h2 => by
  simp only [tA]
  by_cases e : p = n
  ·subst e
   rw [sumTo_one (p := q) (by omega) (fun j hj hne => h2 j (by omega) (by omega) hne)]
   grind
  ·by_cases e' : q = n
   ·subst e'
    rw [sumTo_one (p := p) (by omega) (fun j hj hne => h2 j (by omega) hne (by omega))]
   ·rw [sumTo_two hpq (by omega) (by omega) (fun j hj a b => h2 j (by omega) a b), h2 n (by omega) (fun x => e x.symm) (fun x => e' x.symm)]
    grind
def qK (m c : Nat) (A : Nat → Nat → Rat) (v : Nat → Rat) : Prop := ∀ i, i < m → tA (fun j => A i j * v j) c = A i c
def qQ {α : Type} (A : Nat → Nat → α) (r k : Nat) : Nat → Nat → α := fun i => if i = r then A k else if i = k then A r else A i
def scaleA (A : Nat → Nat → Rat) (r : Nat) (f : Rat) : Nat → Nat → Rat := fun i q => if i = r then A i q * f else A i q
def jH (A : Nat → Nat → Rat) (r j : Nat) : Nat → Nat → Rat := fun i q => if i = r then A i q else A i q - A i j * A r q
theorem solves_swap {m c : Nat} {A : Nat → Nat → Rat} {r k : Nat} {v : Nat → Rat} (hr : r < m) (hk : k < m) : qK m c (qQ A r k) v ↔ qK m c A v := by
 constructor
 ·intro h i hi
  by_cases e : i = r
  ·subst e
   have := h k hk
   unfold qQ at this
   by_cases e2 : k = i
   ·simpa [e2] using this
   ·simpa [e2] using this
  ·by_cases e2 : i = k
   ·subst e2
    have := h r hr
    unfold qQ at this
    simpa using this
   ·have := h i hi
    unfold qQ at this
    simpa [e, e2] using this
 ·intro h i hi
  unfold qQ
  by_cases e : i = r
  ·simpa [e] using h k hk
  ·by_cases e2 : i = k
   ·subst e2
    simp only [e, if_false, if_true]
    exact h r hr
   ·simpa [e, e2] using h i hi
theorem solves_scale {m c : Nat} {A : Nat → Nat → Rat} {r : Nat} {f : Rat} {v : Nat → Rat} (hf : f ≠ 0) : qK m c (scaleA A r f) v ↔ qK m c A v := by
 have key : ∀ i, i = r → (tA (fun j => A i j * f * v j) c = A i c * f ↔ tA (fun j => A i j * v j) c = A i c) := by
  intro i _
  have e : tA (fun j => A i j * f * v j) c = tA (fun j => A i j * v j) c * f := by
   rw [← sumTo_mul]
   exact sumTo_congr (fun j _ => by grind)
  rw [e]
  constructor
  ·intro h
   generalize tA (fun j => A i j * v j) c = x at *
   generalize A i c = y at *
   have h2 : (x - y) * f = 0 := by grind
   rcases Rat.mul_eq_zero.1 h2 with h3 | h3
   ·grind
   ·exact absurd h3 hf
  ·intro h
   rw [h]
 constructor
 ·intro h i hi
  have := h i hi
  unfold scaleA at this
  by_cases e : i = r
  ·simp only [e, if_true] at this ⊢
   exact (key r rfl).1 this
  ·simpa [e] using this
 ·intro h i hi
  unfold scaleA
  by_cases e : i = r
  ·simp only [e, if_true]
   have := h i hi
   rw [e] at this
   exact (key r rfl).2 this
  ·simpa [e] using h i hi
theorem solves_elim {m c : Nat} {A : Nat → Nat → Rat} {r j : Nat} {v : Nat → Rat} (hr : r < m) : qK m c (jH A r j) v ↔ qK m c A v := by
 have key : ∀ i, tA (fun q => (A i q - A i j * A r q) * v q) c = tA (fun q => A i q * v q) c - tA (fun q => A r q * v q) c * A i j := by
  intro i
  rw [← sumTo_mul, ← sumTo_sub]
  exact sumTo_congr (fun q _ => by grind)
 constructor
 ·intro h
  have hrow : tA (fun q => A r q * v q) c = A r c := by
   have := h r hr
   unfold jH at this
   simpa using this
  intro i hi
  by_cases e : i = r
  ·subst e
   exact hrow
  ·have := h i hi
   unfold jH at this
   simp only [e, if_false] at this
   rw [key, hrow] at this
   generalize tA (fun q => A i q * v q) c = x at *
   grind
 ·intro h i hi
  unfold jH
  by_cases e : i = r
  ·simp only [e, if_true]
   exact h r hr
  ·simp only [e, if_false]
   rw [key, h r hr, h i hi]
   grind
structure Elim (m c j : Nat) (A0 A : Nat → Nat → Rat) (P : List Nat) : Prop where
 sol : ∀ v, qK m c A0 v ↔ qK m c A v
 lt : ∀ p ∈ P, p < j
 nodup : P.Nodup
 le : P.length ≤ m
 one : ∀ l (h : l < P.length), A l P[l] = 1
 zero : ∀ l (h : l < P.length) i, i < m → i ≠ l → A i P[l] = 0
 rest : ∀ i, P.length ≤ i → i < m → ∀ q, q < j → A i q = 0
theorem Elim.first {m c : Nat} {A : Nat → Nat → Rat} : Elim m c 0 A A [] := ⟨fun _ => Iff.rfl, fun p hp => (by cases hp), List.nodup_nil, Nat.zero_le _, fun l h => absurd h (by simp), fun l h => absurd h (by simp), fun i _ _ q hq => absurd hq (by omega)⟩
theorem Elim.skip {m c j : Nat} {A0 A : Nat → Nat → Rat} {P : List Nat} (h : Elim m c j A0 A P) (hz : ∀ i, P.length ≤ i → i < m → A i j = 0) : Elim m c (j + 1) A0 A P :=
 ⟨h.sol, fun p hp => by have := h.lt p hp; omega, h.nodup, h.le, h.one, h.zero, fun i h1 h2 q hq => by
  by_cases e : q = j
  ·subst e
   exact hz i h1 h2
  ·exact h.rest i h1 h2 q (by omega)⟩
def stepA (A : Nat → Nat → Rat) (r k j : Nat) : Nat → Nat → Rat := jH (scaleA (qQ A r k) r (A k j)⁻¹) r j
theorem Elim.step {m c j : Nat} {A0 A : Nat → Nat → Rat} {P : List Nat} {k : Nat} (h : Elim m c j A0 A P) (hk : P.length ≤ k) (hkm : k < m) (hne : A k j ≠ 0) : Elim m c (j + 1) A0 (stepA A P.length k j) (P ++ [j]) := by
 generalize hr : P.length = r at *
 have hrm : r < m := by omega
 have hinv : (A k j)⁻¹ ≠ 0 := fun e => hne (by
  have := Rat.mul_inv_cancel _ hne
  rw [e] at this
  grind)
 have hcancel := Rat.mul_inv_cancel _ hne
 have rowr : ∀ q, stepA A r k j r q = A k q * (A k j)⁻¹ := fun q => by simp [stepA, jH, scaleA, qQ]
 have rowi : ∀ i q, i ≠ r → stepA A r k j i q = (qQ A r k) i q - (qQ A r k) i j * (A k q * (A k j)⁻¹) := fun i q hi => by simp [stepA, jH, scaleA, hi, qQ]
 have oldp : ∀ l (hl : l < P.length), A k P[l] = 0 := fun l hl => h.zero l hl k hkm (by omega)
 have old : ∀ i q, i < m → i ≠ r → (∀ _ : i = k, True) → A k q = 0 → stepA A r k j i q = (qQ A r k) i q := fun i q _ hi _ hq => by
  rw [rowi i q hi, hq]
  grind
 refine ⟨fun v => ?_, fun p hp => ?_, ?_, by simp; omega, fun l hl => ?_, fun l hl i hi hne2 => ?_, fun i h1 h2 q hq => ?_⟩
 ·rw [h.sol v]
  unfold stepA
  rw [solves_elim hrm, solves_scale hinv, solves_swap hrm hkm]
 ·rcases List.mem_append.1 hp with hp | hp
  ·have := h.lt p hp
   omega
  ·simp at hp
   omega
 ·refine List.nodup_append.2 ⟨h.nodup, by simp, fun a ha b hb => ?_⟩
  simp at hb
  have := h.lt a ha
  omega
 ·rcases Nat.lt_or_ge l P.length with hl2 | hl2
  ·rw [List.getElem_append_left hl2, old l _ (by have := h.le; omega) (by omega) (fun _ => trivial) (oldp l hl2)]
   unfold qQ
   rw [if_neg (by omega), if_neg (by omega)]
   exact h.one l hl2
  ·have e : l = r := by simp at hl; omega
   subst e
   rw [List.getElem_append_right hl2]
   simp only [hr, Nat.sub_self, List.getElem_cons_zero]
   rw [rowr]
   exact hcancel
 ·rcases Nat.lt_or_ge l P.length with hl2 | hl2
  ·rw [List.getElem_append_left hl2]
   by_cases e : i = r
   ·rw [e, rowr, oldp l hl2]
    grind
   ·rw [old i _ hi e (fun _ => trivial) (oldp l hl2)]
    unfold qQ
    rw [if_neg e]
    split
    ·exact h.zero l hl2 r hrm (by omega)
    ·exact h.zero l hl2 i hi hne2
  ·have e : l = r := by simp at hl; omega
   subst e
   rw [List.getElem_append_right hl2]
   simp only [hr, Nat.sub_self, List.getElem_cons_zero]
   rw [rowi i j hne2, hcancel]
   grind
 ·simp at h1
  have hi : i ≠ r := by omega
  by_cases e : q = j
  ·subst e
   rw [rowi i q hi, hcancel]
   grind
  ·have hkq := h.rest k (by omega) hkm q (by omega)
   rw [old i q h2 hi (fun _ => trivial) hkq]
   unfold qQ
   rw [if_neg hi]
   split
   ·exact h.rest r (by omega) hrm q (by omega)
   ·exact h.rest i (by omega) h2 q (by omega)
theorem Elim.last {m c j : Nat} {A0 A : Nat → Nat → Rat} {P : List Nat} (h : Elim m c j A0 A P) (he : j = c ∨ P.length = m) : ∀ i, P.length ≤ i → i < m → ∀ q, q < c → A i q = 0 := by
 intro i h1 h2 q hq
 rcases he with rfl | he
 ·exact h.rest i h1 h2 q hq
 ·omega
def solvAt (A : Nat → Nat → Rat) (c : Nat) (f : Option Nat) (l : Nat) : Rat := match f with
 | none => A l c
 | some j => A l c - A l j
def solv (A : Nat → Nat → Rat) (P : List Nat) (c : Nat) (f : Option Nat) : Nat → Rat := fun q =>
 if q ∈ P then solvAt A c f (P.idxOf q) else if f = some q then 1 else 0
theorem idx_at {P : List Nat} (hn : P.Nodup) {l : Nat} (h : l < P.length) : P.idxOf P[l] = l := List.Nodup.idxOf_getElem hn l h
theorem Elim.solves {m c j : Nat} {A0 A : Nat → Nat → Rat} {P : List Nat} (h : Elim m c j A0 A P) (hj : j ≤ c) (he : j = c ∨ P.length = m) (hc : ∀ i, P.length ≤ i → i < m → A i c = 0) (f : Option Nat) (hf : ∀ q, f = some q → q < c ∧ q ∉ P) : qK m c A0 (solv A P c f) := by
 rw [h.sol]
 intro i hi
 rcases Nat.lt_or_ge i P.length with hip | hip
 ·have hPi : P[i] < c := by have := h.lt _ (List.getElem_mem hip); omega
  have hv : solv A P c f P[i] = solvAt A c f i := by
   unfold solv
   rw [if_pos (List.getElem_mem hip), idx_at h.nodup hip]
  cases f with
  | none =>
   rw [sumTo_one hPi (fun q hq hne => ?_), hv, h.one i hip]
   ·simp only [solvAt]
    grind
   ·by_cases hqP : q ∈ P
    ·obtain ⟨l, hl, rfl⟩ := List.getElem_of_mem hqP
     have hil : i ≠ l := fun e => hne (by subst e; rfl)
     rw [h.zero l hl i hi hil]
     grind
    ·unfold solv
     rw [if_neg hqP, if_neg (by simp)]
     grind
  | some k =>
   obtain ⟨hkc, hkP⟩ := hf k rfl
   have hvk : solv A P c (some k) k = 1 := by
    unfold solv
    rw [if_neg hkP, if_pos rfl]
   have hPk : P[i] ≠ k := fun e => hkP (e ▸ List.getElem_mem hip)
   rw [sumTo_two hPk hPi hkc (fun q hq hne hnk => ?_), hv, hvk, h.one i hip]
   ·simp only [solvAt]
    grind
   ·by_cases hqP : q ∈ P
    ·obtain ⟨l, hl, rfl⟩ := List.getElem_of_mem hqP
     have hil : i ≠ l := fun e => hne (by subst e; rfl)
     rw [h.zero l hl i hi hil]
     grind
    ·unfold solv
     rw [if_neg hqP, if_neg (fun e => hnk (by simpa using (Option.some.inj e).symm))]
     grind
 ·rw [sumTo_zero (fun q hq => by
   rw [h.last he i hip hi q hq]
   grind), hc i hip hi]
theorem Elim.unique {m c j : Nat} {A0 A : Nat → Nat → Rat} {P : List Nat} {s : Nat → Rat} (h : Elim m c j A0 A P) (hj : j ≤ c) (he : j = c ∨ P.length = m) (hs : qK m c A0 s) (hu : ∀ v, qK m c A0 v → ∀ q, q < c → v q = s q) :
  (∀ i, P.length ≤ i → i < m → A i c = 0) ∧ (∀ q, q < c → q ∈ P) ∧ ∀ l (hl : l < P.length), A l c = s P[l] := by
 have hc : ∀ i, P.length ≤ i → i < m → A i c = 0 := by
  intro i h1 h2
  have := (h.sol s).1 hs i h2
  rw [sumTo_zero (fun q hq => by
   rw [h.last he i h1 h2 q hq]
   grind)] at this
  exact this.symm
 refine ⟨hc, fun q hq => Classical.byContradiction fun hqP => ?_, fun l hl => ?_⟩
 ·have h1 := hu _ (h.solves hj he hc none (fun _ e => by cases e)) q hq
  have h2 := hu _ (h.solves hj he hc (some q) (fun k e => by cases e; exact ⟨hq, hqP⟩)) q hq
  unfold solv at h1 h2
  rw [if_neg hqP, if_neg (by simp)] at h1
  rw [if_neg hqP, if_pos rfl] at h2
  rw [← h1] at h2
  exact absurd h2 (by decide)
 ·have hPl : P[l] < c := by have := h.lt _ (List.getElem_mem hl); omega
  have h1 := hu _ (h.solves hj he hc none (fun _ e => by cases e)) P[l] hPl
  unfold solv at h1
  rw [if_pos (List.getElem_mem hl), idx_at h.nodup hl] at h1
  exact h1
end Go.Proofs.YtjncgcnofiaiaaaGreat

set_option linter.unusedVariables false
set_option linter.unusedSimpArgs false
namespace Go.Proofs.YtjncgcnofiaiaaaGreat
open Go.RowKit
set_option maxRecDepth 20000
def rowC (bx : Nat → Nat) (co : Nat → Option Nat) (w i : Nat) : C := .sl (bx i) 0 w (co i) 4
def updA {α : Type} (A : Nat → Nat → α) (i j : Nat) (a : α) : Nat → Nat → α := fun i' j' => if i' = i ∧ j' = j then a else A i' j'
structure Mat (bx : Nat → Nat) (co : Nat → Option Nat) (ds : Nat → List C) (L : Nat) (H : Hp) (m w : Nat) (V : Nat → Nat → Rat) (S : Nat → Nat → Nat) : Prop where
 T : H[0]? = some (.live ⟨(List.range m).map (rowC bx co w), yY, .rw⟩)
 pos : ∀ i, i < m → 0 < bx i ∧ bx i < L
 row : ∀ i, i < m → H[bx i]? = some (.live ⟨ds i, yF, .rw⟩)
 len : ∀ i, i < m → (ds i).length = w * 4
 at_ : ∀ i j, i < m → j < w → IR (S i j) (((ds i).drop (j * 4)).take 4) (V i j)
 inj : ∀ i k, i < m → k < m → bx i = bx k → i = k
theorem Mat.congr {bx : Nat → Nat} {co : Nat → Option Nat} {ds : Nat → List C} {L : Nat} {H : Hp} {m w : Nat} {V V' : Nat → Nat → Rat} {S S' : Nat → Nat → Nat} (h : Mat bx co ds L H m w V S) (hv : ∀ i j, i < m → j < w → V i j = V' i j ∧ S i j ≤ S' i j) : Mat bx co ds L H m w V' S' :=
 ⟨h.T, h.pos, h.row, h.len, fun i j hi hj => by
  obtain ⟨h1, h2⟩ := hv i j hi hj
  rw [← h1]
  exact (h.at_ i j hi hj).up h2, h.inj⟩
theorem Mat.grow {bx : Nat → Nat} {co : Nat → Option Nat} {ds : Nat → List C} {L : Nat} {H X : Hp} {m w : Nat} {V : Nat → Nat → Rat} {S : Nat → Nat → Nat} (h : Mat bx co ds L H m w V S) : Mat bx co ds L (H ++ X) m w V S :=
 ⟨by rw [List.getElem?_append_left (lt_of_getElem? h.T)]; exact h.T, h.pos, fun i hi => by rw [List.getElem?_append_left (lt_of_getElem? (h.row i hi))]; exact h.row i hi, h.len, h.at_, h.inj⟩
theorem splice_same {cells cs : List C} {off : Nat} (h : off + 4 ≤ cells.length) (hl : cs.length = 4) : ((splice cells off cs).drop off).take 4 = cs := get_splice (by omega) hl
theorem splice_other {cells cs : List C} {i j : Nat} (h : j * 4 + 4 ≤ cells.length) (hl : cs.length = 4) (hij : i ≠ j) : ((splice cells (j * 4) cs).drop (i * 4)).take 4 = (cells.drop (i * 4)).take 4 := by
 unfold splice
 apply List.ext_getElem?
 intro n
 simp only [List.getElem?_take, List.getElem?_drop]
 split
 ·rename_i hn
  rcases Nat.lt_or_ge i j with h1 | h1
  ·rw [List.append_assoc, List.getElem?_append_left (by simp; omega), List.getElem?_take, if_pos (by omega)]
  ·rw [List.getElem?_append_right (by simp; omega), List.getElem?_drop]
   congr 1
   simp
   omega
 ·rfl
theorem Mat.put {bx : Nat → Nat} {co : Nat → Option Nat} {ds : Nat → List C} {L : Nat} {H : Hp} {m w : Nat} {V : Nat → Nat → Rat} {S : Nat → Nat → Nat} {i j k : Nat} {a : Rat} {cs : List C} (h : Mat bx co ds L H m w V S) (hi : i < m) (hj : j < w) (hc : IR k cs a) :
  Mat bx co (fun i' => if i' = i then splice (ds i) (j * 4) cs else ds i') L (H.set (bx i) (.live ⟨splice (ds i) (j * 4) cs, yF, .rw⟩)) m w (updA V i j a) (updA S i j k) := by
 have hlt := lt_of_getElem? (h.row i hi)
 have hcl := (elR k).len (show (elR k).p cs a from hc)
 have hle : j * 4 + 4 ≤ (ds i).length := by
  rw [h.len i hi]
  omega
 refine ⟨?_, h.pos, fun i' hi' => ?_, fun i' hi' => ?_, fun i' j' hi' hj' => ?_, h.inj⟩
 ·rw [List.getElem?_set_ne (by have := h.pos i hi; omega)]
  exact h.T
 ·by_cases e : i' = i
  ·subst e
   rw [List.getElem?_set_self hlt, if_pos rfl]
  ·rw [List.getElem?_set_ne (fun x => e (h.inj i' i hi' hi x.symm)), if_neg e]
   exact h.row i' hi'
 ·by_cases e : i' = i
  ·subst e
   rw [if_pos rfl, pC (by rw [hcl]; exact hle)]
   exact h.len i' hi'
  ·rw [if_neg e]
   exact h.len i' hi'
 ·unfold updA
  by_cases e : i' = i
  ·subst e
   rw [if_pos rfl]
   by_cases e2 : j' = j
   ·subst e2
    rw [if_pos ⟨rfl, rfl⟩, if_pos ⟨rfl, rfl⟩, splice_same hle hcl]
    exact hc
   ·rw [if_neg (fun x => e2 x.2), if_neg (fun x => e2 x.2), splice_other hle hcl e2]
    exact h.at_ i' j' hi' hj'
  ·rw [if_neg e, if_neg (fun x => e x.1), if_neg (fun x => e x.1)]
   exact h.at_ i' j' hi' hj'
def sig (r k i : Nat) : Nat := if i = r then k else if i = k then r else i
theorem sig_lt {r k i m : Nat} (hr : r < m) (hk : k < m) (hi : i < m) : sig r k i < m := by
 unfold sig
 split
 ·exact hk
 ·split
  ·exact hr
  ·exact hi
theorem sig_inj {r k i l : Nat} (h : sig r k i = sig r k l) : i = l := by
 unfold sig at h
 split at h <;> split at h <;> (try split at h) <;> (try split at h) <;> omega
def gM {α : Type} (f : Nat → α) (r k : Nat) : Nat → α := fun i => if i = r then f k else if i = k then f r else f i
theorem swapF_sig {α : Type} (f : Nat → α) (r k i : Nat) : gM f r k i = f (sig r k i) := by
 unfold gM sig
 split
 ·rfl
 ·split <;> rfl
theorem Mat.swap {bx : Nat → Nat} {co : Nat → Option Nat} {ds : Nat → List C} {L : Nat} {H : Hp} {m w : Nat} {V : Nat → Nat → Rat} {S : Nat → Nat → Nat} {r k : Nat} (h : Mat bx co ds L H m w V S) (hr : r < m) (hk : k < m) :
  Mat (gM bx r k) (gM co r k) (gM ds r k) L (H.set 0 (.live ⟨splice (splice ((List.range m).map (rowC bx co w)) r [rowC bx co w k]) k [rowC bx co w r], yY, .rw⟩)) m w (qQ V r k) (qQ S r k) := by
 have hlt := lt_of_getElem? h.T
 have sw : ∀ {α : Type} (f : Nat → α) (p : α → Prop) (i : Nat), i < m → (∀ i, i < m → p (f i)) → p (gM f r k i) := by
  intro α f p i hi hp
  unfold gM
  split
  ·exact hp k hk
  ·split
   ·exact hp r hr
   ·exact hp i hi
 have hpos : ∀ i, i < m → 0 < gM bx r k i ∧ gM bx r k i < L := fun i hi => sw bx (fun b => 0 < b ∧ b < L) i hi h.pos
 refine ⟨?_, hpos, fun i hi => ?_, fun i hi => sw ds (fun d => d.length = w * 4) i hi h.len, fun i j hi hj => ?_, fun i l hi hl he => ?_⟩
 ·rw [List.getElem?_set_self hlt]
  congr 3
  have e1 : ∀ (cells : List C) (i : Nat) (c : C), i < cells.length → splice cells i [c] = cells.set i c := by
   intro cells i c hi
   unfold splice
   rw [List.set_eq_take_append_cons_drop, if_pos hi]
   simp
  rw [e1 _ r _ (by simp; omega), e1 _ k _ (by simp; omega)]
  apply List.ext_getElem
  ·simp
  ·intro i h1 h2
   simp only [List.getElem_map, List.getElem_range, List.getElem_set]
   unfold rowC gM
   by_cases e : k = i
   ·subst e
    by_cases e2 : k = r
    ·subst e2
     simp
    ·simp [e2]
   ·by_cases e2 : r = i
    ·subst e2
     simp [e]
    ·simp [e, e2, Ne.symm e, Ne.symm e2, show ¬ i = r from fun x => e2 x.symm, show ¬ i = k from fun x => e x.symm]
 ·rw [List.getElem?_set_ne (by have := hpos i hi; omega)]
  unfold gM
  split
  ·exact h.row k hk
  ·split
   ·exact h.row r hr
   ·exact h.row i hi
 ·unfold gM qQ
  split
  ·exact h.at_ k j hk hj
  ·split
   ·exact h.at_ r j hr hj
   ·exact h.at_ i j hi hj
 ·rw [swapF_sig, swapF_sig] at he
  exact sig_inj (h.inj _ _ (sig_lt hr hk hi) (sig_lt hr hk hl) he)
theorem Mat.ldT {bx : Nat → Nat} {co : Nat → Option Nat} {ds : Nat → List C} {L : Nat} {H : Hp} {m w off : Nat} {V : Nat → Nat → Rat} {S : Nat → Nat → Nat} {i : Nat} {K : Go.Proofs.YtjncgcnofiaiaaaGreat.V → Prop} (h : Mat bx co ds L H m w V S) (hi : i < m) (ho : off = i) (k : K (.c (rowC bx co w i))) : xA H[0]? false 1 off K := by
 subst ho
 refine yV h.T ?_ k
 simp [hi]
theorem Mat.ldE {bx : Nat → Nat} {co : Nat → Option Nat} {ds : Nat → List C} {L : Nat} {H : Hp} {m w off : Nat} {V : Nat → Nat → Rat} {S : Nat → Nat → Nat} {i j : Nat} {K : Go.Proofs.YtjncgcnofiaiaaaGreat.V → Prop} (h : Mat bx co ds L H m w V S) (hi : i < m) (hj : j < w) (ho : off = j * 4) (k : ∀ cs, IR (S i j) cs (V i j) → K (.agg cs)) : xA H[bx i]? true 4 off K := by
 subst ho
 have hl := h.len i hi
 refine yN (h.row i hi) (Nat.ble_eq_true_of_le (by simp only; omega)) (k _ (h.at_ i j hi hj))
theorem Out.low {α : Type} {E : El α} {el : TypeId} {m p : Nat} {H : Hp} {s : Slot} {c : C} {l : List α} (h : Out E el m H c l) (hp : p < m) : Out E el m (H.set p s) c l := by
 cases h with
 | nil => exact .nil
 | sl hm hb hn hc h => exact .sl hm (by rw [List.getElem?_set_ne (by omega)]; exact hb) hn hc h
end Go.Proofs.YtjncgcnofiaiaaaGreat

set_option linter.unusedVariables false
set_option linter.unusedSimpArgs false
namespace Go.Proofs.YtjncgcnofiaiaaaGreat
open Go.RowKit
set_option maxRecDepth 20000
def elI : El Nat := ⟨fun cs n => cs = [.int .i64 n], 1, fun h => by subst h; rfl, fun h => by subst h; exact ⟨trivial, trivial⟩⟩
theorem Mat.agree {bx : Nat → Nat} {co : Nat → Option Nat} {ds : Nat → List C} {L : Nat} {H H' : Hp} {m w : Nat} {V : Nat → Nat → Rat} {S : Nat → Nat → Nat} (h : Mat bx co ds L H m w V S) (hL : 0 < L) (hh : ∀ b, b < L → H'[b]? = H[b]?) : Mat bx co ds L H' m w V S :=
 ⟨by rw [hh 0 hL]; exact h.T, h.pos, fun i hi => by rw [hh _ (h.pos i hi).2]; exact h.row i hi, h.len, h.at_, h.inj⟩
section
variable {α : Type} {E : El α}
theorem len_out {el : TypeId} {m : Nat} {H : Hp} {c : C} {l : List α} {x : Option V} {K : V → Prop} (h : x = some (.c c)) (ho : Out E el m H c l) (k : K (.c (.int .i64 l.length))) : qLen x K := by
 subst h
 cases ho with
 | nil => exact xX rfl k
 | sl hm hb hn hc h =>
  subst hn
  exact wX rfl k
theorem app_copyB {H : Hp} {el : TypeId} {es bytes n : Nat} {s x : Option V} {ds : List C} {K : V → Hp → Prop} (hs : s = some (.c .nilSl)) (hx : x = some (.c (.imm n ds))) (hl : ds.length = n * es) (hn : 0 < n) (hz : n * bytes ≤ 140737488355328 ∧ n ≤ 140737488355328)
  (k : K (.c (.sl H.length 0 n none es)) (H ++ [.live ⟨ds, el, .rw⟩])) : appX H el es bytes s x K := by
 subst hs hx
 have hxs : tF H es (.imm n ds) = some ds := by
  simp only [tF]
  rw [List.take_of_length_le (by omega)]
 simp only [appX, hxs, gO]
 exact yZ (by simp [hl]) (sT (by cases n; omega; rfl) (yZ (by simp only [Bool.and_eq_true, yI]; exact hz) k))
end
structure Tab (ds : Nat → List C) (c : C) (m w : Nat) (V : Nat → Nat → Rat) (S : Nat → Nat → Nat) : Prop where
 eq : c = .imm m ((List.range m).map fun i => .imm w (ds i))
 len : ∀ i, i < m → (ds i).length = w * 4
 at_ : ∀ i j, i < m → j < w → IR (S i j) (((ds i).drop (j * 4)).take 4) (V i j)
theorem gV : ∀ {w : Nat} {ds : List C}, ds.length = w * 4 → (∀ j, j < w → HFL ((ds.drop (j * 4)).take 4)) → HFL ds
 | 0, ds, h, _ => by
  have : ds = [] := List.eq_nil_of_length_eq_zero (by omega)
  subst this
  trivial
 | w + 1, ds, h, h2 => by
  have h3 : HFL (ds.drop 4) := gV (w := w) (by simp; omega) (fun j hj => by
   have := h2 (j + 1) (by omega)
   rw [show (j + 1) * 4 = 4 + j * 4 by omega, ← List.drop_drop] at this
   exact this)
  have h4 := h2 0 (by omega)
  simp only [Nat.zero_mul, List.drop_zero] at h4
  have := HFL_app h4 h3
  rwa [List.take_append_drop] at this
theorem hfl_map {f : Nat → C} : ∀ {l : List Nat}, (∀ i ∈ l, HFC (f i)) → HFL (l.map f)
 | [], _ => trivial
 | a :: l, h => ⟨h a List.mem_cons_self, hfl_map (fun i hi => h i (List.mem_cons_of_mem _ hi))⟩
theorem Tab.hf {ds : Nat → List C} {c : C} {m w : Nat} {V : Nat → Nat → Rat} {S : Nat → Nat → Nat} (h : Tab ds c m w V S) : HFC c := by
 rw [h.eq]
 exact hfl_map (fun i hi => gV (h.len i (by simpa using hi)) (fun j hj => (h.at_ i j (by simpa using hi) hj).hf))
theorem fz_rows {p : BK → Prop} {H : Hp} {bx : Nat → Nat} {co : Nat → Option Nat} {ds : Nat → List C} {w : Nat} (hp : p .rw) : ∀ {l : List Nat}, (∀ i ∈ l, H[bx i]? = some (.live ⟨ds i, yF, .rw⟩) ∧ (ds i).length = w * 4 ∧ HFL (ds i)) → FzL p H (l.map (rowC bx co w)) (l.map fun i => .imm w (ds i))
 | [], _ => .nil
 | a :: l, h => by
  obtain ⟨h1, h2, h3⟩ := h a List.mem_cons_self
  exact .cons (.sl h1 hp (by simp) (by
   simp only [List.drop_zero]
   rw [List.take_of_length_le (by omega)]
   exact .hf h3)) (fz_rows hp (fun i hi => h i (List.mem_cons_of_mem _ hi)))
theorem Mat.fz {p : BK → Prop} {bx : Nat → Nat} {co : Nat → Option Nat} {ds : Nat → List C} {L : Nat} {H : Hp} {m w : Nat} {V : Nat → Nat → Rat} {S : Nat → Nat → Nat} (h : Mat bx co ds L H m w V S) (hp : p .rw) : ∃ d, Fz p H (.sl 0 0 m (some m) 1) d ∧ Tab ds d m w V S := by
 refine ⟨_, .sl h.T hp (by simp) ?_, rfl, h.len, h.at_⟩
 rw [List.drop_zero, List.take_of_length_le (by simp)]
 exact fz_rows hp (fun i hi => ⟨h.row i (by simpa using hi), h.len i (by simpa using hi), gV (h.len i (by simpa using hi)) (fun j hj => (h.at_ i j (by simpa using hi) hj).hf)⟩)
theorem Tab.up {ds : Nat → List C} {c : C} {m w : Nat} {V : Nat → Nat → Rat} {S S' : Nat → Nat → Nat} (h : Tab ds c m w V S) (hs : ∀ i j, S i j ≤ S' i j) : Tab ds c m w V S' := ⟨h.eq, h.len, fun i j hi hj => (h.at_ i j hi hj).up (hs i j)⟩
def gK (K : Nat) : Nat → Nat
 | 0 => K
 | j + 1 => 4 * gK K j + 1
theorem gK_mono {K i j : Nat} (h : i ≤ j) : gK K i ≤ gK K j := by
 induction h with
 | refl => exact Nat.le_refl _
 | step _ ih =>
  simp only [gK]
  omega
theorem splice_next {P : List C} {i m : Nat} {x z : C} (hP : P.length = i) (hi : i < m) : splice (P ++ List.replicate (m - i) z) i [x] = (P ++ [x]) ++ List.replicate (m - (i + 1)) z := by
 unfold splice
 rw [List.take_left' hP, List.drop_append, List.drop_of_length_le (by simp; omega)]
 simp [hP]
 omega
theorem copied_next {ds0 : Nat → List C} {m c i : Nat} (hi : i < m) {n : Nat} (hn : n = i + 1) :
  ((Slot.live ⟨(List.range i).map (rowC (· + 1) (fun _ => none) (c + 1)) ++ List.replicate (m - i) C.nilSl, yY, .rw⟩ :: (List.range i).map (fun i => Slot.live ⟨ds0 i, yF, .rw⟩)) ++ [Slot.live ⟨ds0 i, yF, .rw⟩]).set 0 (Slot.live ⟨splice ((List.range i).map (rowC (· + 1) (fun _ => none) (c + 1)) ++ List.replicate (m - i) C.nilSl) (0 + ((i : Nat) : Int).toNat * 1) [C.sl n 0 (c + 1) none 4], yY, .rw⟩)
  = Slot.live ⟨(List.range (i + 1)).map (rowC (· + 1) (fun _ => none) (c + 1)) ++ List.replicate (m - (i + 1)) C.nilSl, yY, .rw⟩ :: (List.range (i + 1)).map (fun i => Slot.live ⟨ds0 i, yF, .rw⟩) := by
 subst hn
 rw [show 0 + ((i : Nat) : Int).toNat * 1 = i by omega, splice_next (by simp) hi, uB, uB]
 rfl
theorem copied_mat {ds0 : Nat → List C} {m c K : Nat} {V0 : Nat → Nat → Rat} {ct : C} (ht : Tab ds0 ct m (c + 1) V0 (fun _ _ => K)) (hm : 0 < m) :
  Mat (· + 1) (fun _ => none) ds0 (m + 1) (.live ⟨(List.range m).map (rowC (· + 1) (fun _ => none) (c + 1)) ++ List.replicate (m - m) .nilSl, yY, .rw⟩ :: (List.range m).map (fun i => .live ⟨ds0 i, yF, .rw⟩)) m (c + 1) V0 (fun _ _ => K) := by
 refine ⟨by simp, fun i hi => ⟨Nat.succ_pos _, Nat.succ_lt_succ hi⟩, fun i hi => by simp [hi], ht.len, ht.at_, fun i k _ _ h => Nat.succ.inj h⟩
def GaussK (m c K : Nat) (V0 : Nat → Nat → Rat) (u : V) : Prop := ∃ ct cp ds V P j, u = .tup [.c ct, .c cp] ∧ Tab ds ct m (c + 1) V (fun _ _ => gK K c) ∧ Ls elI cp P ∧ Elim m c j V0 V P ∧ j ≤ c ∧ (j = c ∨ P.length = m)
attribute [local irreducible] yA semH semC qLen qNil qIad qSlc qIdx xA yM xH appX appI slcX awpF yQ xM xopF xT qval lval seqQ xO wT wL wI cnd arith IntKind.wrap
theorem ref04_Reduced {ds0 : Nat → List C} {ct : C} {m c K : Nat} {V0 : Nat → Nat → Rat} (ht : Tab ds0 ct m (c + 1) V0 (fun _ _ => K)) (hm : 0 < m) (hm2 : m < 1024) (hc2 : c < 1024) (hK : 1 ≤ K) (hg : gK K c ≤ 134217727) : semC Tryz.prog n_ref04_Reduced [.c ct, i64 c] (GaussK m c K V0) := by
 refine yC ok_ref04_Reduced rfl (show HFVs [.c ct, i64 c] from ⟨ht.hf, trivial, trivial⟩) ?_
 have hteq := ht.eq
 subst hteq
 refine go8 ?_
 refine vM (by rfl) (by rfl) ⟨by omega, by omega, by omega, by omega⟩ ?_
 refine go8 ?_
 refine yS (fun n vs H => ∃ (i : Nat), vs = [.c (.imm m ((List.range m).map fun i => .imm (c + 1) (ds0 i))), i64 c, .c (.sl 0 0 m (some m) 1), i64 i] ∧ H = .live ⟨(List.range i).map (rowC (· + 1) (fun _ => none) (c + 1)) ++ List.replicate (m - i) .nilSl, yY, .rw⟩ :: (List.range i).map (fun i => .live ⟨ds0 i, yF, .rw⟩) ∧ n = m - i ∧ i ≤ m) (by rfl) ⟨0, rfl, by simp, rfl, by omega⟩ ?_
 rintro n vs H ⟨i, rfl, rfl, rfl, h1⟩
 refine go8 ?_
 cases hi : yA Cm.lss (i : Int) (m : Int)
 case true =>
  simp [yA] at hi
  refine go8 ?_
  refine wE (by rfl) (by rfl) (by omega) (by omega) ?_
  refine go8 ?_
  refine gU (c := .imm (c + 1) (ds0 i)) (by simp [hi]) ?_
  refine go8 ?_
  refine app_copyB (by rfl) (by rfl) (ht.len i hi) (by omega) (by omega) ?_
  refine go8 ?_
  refine yP (by rfl) (by rfl) (by rfl) (by simp; omega) ?_
  refine go8 ?_
  rw [xD i (by omega)]
  exact l_n (by rfl) (by omega) ⟨i + 1, rfl, copied_next hi (by simp), rfl, by omega⟩
 simp [yA] at hi
 have ei : m = i := by omega
 subst ei
 have hM := copied_mat ht hm
 have hL : m + 1 ≤ (Slot.live ⟨(List.range m).map (rowC (· + 1) (fun _ => none) (c + 1)) ++ List.replicate (m - m) .nilSl, yY, .rw⟩ :: (List.range m).map (fun i => Slot.live ⟨ds0 i, yF, .rw⟩)).length := by simp
 generalize (Slot.live ⟨(List.range m).map (rowC (· + 1) (fun _ => none) (c + 1)) ++ List.replicate (m - m) .nilSl, yY, .rw⟩ :: (List.range m).map (fun i => Slot.live ⟨ds0 i, yF, .rw⟩)) = H at hM hL
 clear hi h1
 refine go8 ?_
 refine yS (fun n vs H => ∃ (j : Nat) (pv : C) (P : List Nat) (bx : Nat → Nat) (co : Nat → Option Nat) (ds : Nat → List C) (V : Nat → Nat → Rat), vs = [i64 c, .c (.sl 0 0 m (some m) 1), .c pv, i64 j] ∧ n = c - j ∧ j ≤ c ∧ m + 1 ≤ H.length ∧ Mat bx co ds (m + 1) H m (c + 1) V (fun _ _ => gK K j) ∧ Elim m c j V0 V P ∧ Out elI T_int (m + 1) H pv P) (by rfl) ⟨0, _, [], _, _, _, _, rfl, rfl, by omega, hL, hM, .first, .nil⟩ ?_
 clear hM hL H
 rintro n vs H0 ⟨j, pv, P, bx, co, ds, V, rfl, rfl, o1, o2, o3, o4, o5⟩
 refine go8 ?_
 cases hj : yA Cm.lss (j : Int) (c : Int)
 case false =>
  simp [yA] at hj
  have ej : j = c := by omega
  obtain ⟨d1, f1, t1⟩ := o3.fz (p := (· ≠ .bor)) (by simp)
  obtain ⟨d2, f2, l2⟩ := o5.fz (p := (· ≠ .bor)) (by simp)
  refine go8 ?_
  exact ⟨_, .tup (.cons (.c f1) (.cons (.c f2) .nil)), d1, d2, ds, V, P, j, rfl, t1.up (fun _ _ => gK_mono o1), l2, o4, o1, .inl ej⟩
 simp [yA] at hj
 have hgj := Nat.le_trans (gK_mono (K := K) (show j + 1 ≤ c by omega)) hg
 simp only [gK] at hgj
 refine go8 ?_
 refine len_out (by rfl) o5 ?_
 refine go8 ?_
 cases hP : yA Cm.lss (P.length : Int) (m : Int)
 case false =>
  simp [yA] at hP
  have eP : P.length = m := by have := o4.le; omega
  obtain ⟨d1, f1, t1⟩ := o3.fz (p := (· ≠ .bor)) (by simp)
  obtain ⟨d2, f2, l2⟩ := o5.fz (p := (· ≠ .bor)) (by simp)
  refine go8 ?_
  exact ⟨_, .tup (.cons (.c f1) (.cons (.c f2) .nil)), d1, d2, ds, V, P, j, rfl, t1.up (fun _ _ => gK_mono o1), l2, o4, o1, .inr eP⟩
 simp [yA] at hP
 refine go8 ?_
 refine len_out (by rfl) o5 ?_
 refine go8 ?_
 refine yS (fun n vs H' => ∃ (k : Nat), vs = [i64 c, .c (.sl 0 0 m (some m) 1), .c pv, i64 j, i64 P.length, i64 k] ∧ H0 = H' ∧ n = m - k ∧ P.length ≤ k ∧ k ≤ m ∧ ∀ i, P.length ≤ i → i < k → V i j = 0) (by rfl) ⟨P.length, rfl, rfl, rfl, Nat.le_refl _, by omega, fun i a b => by omega⟩ ?_
 rintro n vs H1 ⟨k, rfl, rfl, rfl, k1, k2, k3⟩
 refine go8 ?_
 cases hk : yA Cm.lss (k : Int) (m : Int)
 case false =>
  simp [yA] at hk
  have ek : k = m := by omega
  refine go8 ?_
  refine c_t (by simp [yA]; omega) ?_
  refine go8 ?_
  rw [xD j (by omega)]
  exact l_n (by rfl) (n' := c - (j + 1)) (by omega) ⟨j + 1, pv, P, bx, co, ds, V, rfl, rfl, by omega, o2, o3.congr (fun _ _ _ _ => ⟨rfl, gK_mono (by omega)⟩), o4.skip (fun i a b => k3 i a (by omega)), o5⟩
 simp [yA] at hk
 refine go8 ?_
 refine o3.ldT hk (by omega) ?_
 refine go8 ?_
 refine o3.ldE hk (show j < c + 1 by omega) (by omega) (fun cs hcs => ?_)
 refine go8 ?_
 refine yB (qF hcs) (fun u hu => ?_)
 obtain ⟨z, rfl, hz⟩ := hu
 cases z
 case true =>
  have hz := hz.1 rfl
  refine go8 ?_
  rw [xD k (by omega)]
  exact l_n (by rfl) (n' := m - (k + 1)) (by omega) ⟨k + 1, rfl, rfl, rfl, by omega, by omega, fun i a b => by
   by_cases e : i = k
   ·subst e
    exact hz
   ·exact k3 i a (by omega)⟩
 have hne : V k j ≠ 0 := fun e => absurd (hz.2 e) (by decide)
 clear hz hcs
 refine go8 ?_
 refine c_f (by simp [yA]; omega) ?_
 refine go8 ?_
 refine o3.ldT hk (by omega) ?_
 refine go8 ?_
 refine o3.ldT (i := P.length) hP (by omega) ?_
 refine go8 ?_
 refine yP o3.T (by rfl) (by rfl) (by simp; omega) ?_
 refine go8 ?_
 refine yP (List.getElem?_set_self (lt_of_getElem? o3.T)) (by rfl) (by rfl) (by rw [pC (by simp; omega)]; simp; omega) ?_
 rw [List.set_set, show 0 + ((P.length : Nat) : Int).toNat * 1 = P.length by omega, show 0 + ((k : Nat) : Int).toNat * 1 = k by omega]
 have h2 := o3.swap hP hk
 have o6 := o5.low (p := 0) (s := .live ⟨splice (splice ((List.range m).map (rowC bx co (c + 1))) P.length [rowC bx co (c + 1) k]) k [rowC bx co (c + 1) P.length], yY, .rw⟩) (by omega)
 have o7 : m + 1 ≤ (H0.set 0 (.live ⟨splice (splice ((List.range m).map (rowC bx co (c + 1))) P.length [rowC bx co (c + 1) k]) k [rowC bx co (c + 1) P.length], yY, .rw⟩)).length := by rw [List.length_set]; exact o2
 refine go8 ?_
 generalize H0.set 0 (.live ⟨splice (splice ((List.range m).map (rowC bx co (c + 1))) P.length [rowC bx co (c + 1) k]) k [rowC bx co (c + 1) P.length], yY, .rw⟩) = H1 at h2 o6 o7 ⊢
 generalize gM bx P.length k = bx1 at h2
 generalize gM co P.length k = co1 at h2
 generalize gM ds P.length k = ds1 at h2
 have h2 := h2.congr (V' := qQ V P.length k) (S' := fun _ _ => gK K j) (fun i q _ _ => ⟨rfl, by unfold qQ; split; exact Nat.le_refl _; split <;> exact Nat.le_refl _⟩)
 have erj : qQ V P.length k P.length j = V k j := by simp [qQ]
 refine h2.ldT hP (by omega) ?_
 refine go8 ?_
 refine h2.ldE hP (show j < c + 1 by omega) (by omega) (fun cs hcs => ?_)
 rw [erj] at hcs
 refine go8 ?_
 refine yB (r_Inv hcs (by omega) hne) (fun u hu => ?_)
 obtain ⟨fs, rfl, hfs⟩ := hu
 obtain ⟨f1, f2, f3, f4, rfl⟩ := id hfs.four
 clear hcs
 refine go8 ?_
 simp only [uA, vW, ratC, uX, uW, List.set_cons_zero, List.set_cons_succ, List.nil_append, List.cons_append, List.append_nil, List.replicate_succ, List.replicate_zero, List.length_cons, List.length_nil, splice, List.take_succ_cons, List.take_zero, List.drop_succ_cons, List.drop_zero, List.take_nil, List.drop_nil, Nat.zero_add, Nat.reduceAdd, Nat.reduceMul, Int.reduceToNat, xS, List.getElem?_cons_succ, List.getElem?_cons_zero]
 generalize hr : P.length = r at *
 generalize hp : H1.length = p at *
 have hfb : (H1 ++ [Slot.live ⟨[f1, .bool f2, f3, .bool f4], yF, .rw⟩])[p]? = some (.live ⟨[f1, .bool f2, f3, .bool f4], yF, .rw⟩) := by rw [← hp]; simp
 generalize hA1 : qQ V r k = A1 at *
 generalize hf : (V k j)⁻¹ = f at *
 refine yS (fun n vs H => ∃ (q : Nat) (ds : Nat → List C), vs = [i64 c, .c (.sl 0 0 m (some m) 1), .c pv, i64 j, i64 r, .c (.ptr p 0), i64 q] ∧ n = c + 1 - q ∧ q ≤ c + 1 ∧ m + 1 ≤ H.length ∧ H[p]? = some (.live ⟨[f1, .bool f2, f3, .bool f4], yF, .rw⟩) ∧ Mat bx1 co1 ds (m + 1) H m (c + 1) (fun i q' => if i = r ∧ q' < q then A1 i q' * f else A1 i q') (fun i q' => if i = r ∧ q' < q then gK K j + gK K j else gK K j) ∧ Out elI T_int (m + 1) H pv P) (by rfl) ⟨0, ds1, rfl, rfl, by omega, by simp; omega, hfb, h2.grow.congr (fun i q _ _ => ⟨by rw [if_neg (by omega)], by rw [if_neg (by omega)]; exact Nat.le_refl _⟩), o6.grow⟩ ?_
 rintro n vs H2 ⟨q, ds2, rfl, rfl, q1, q2, q3, q4, q5⟩
 refine go8 ?_
 refine q4.ldT hP (by omega) ?_
 refine go8 ?_
 cases hq : yA Cm.lss (q : Int) ((c + 1 : Nat) : Int)
 case true =>
  simp [yA] at hq
  have hq : q < c + 1 := by omega
  refine go8 ?_
  refine q4.ldT hP (by omega) ?_
  refine go8 ?_
  refine q4.ldT hP (by omega) ?_
  refine go8 ?_
  refine q4.ldE hP hq (by omega) (fun cs hcs => ?_)
  refine go8 ?_
  refine yN q3 (by rfl) ?_
  refine go8 ?_
  simp only [if_true, Nat.lt_irrefl, and_false, if_false] at hcs
  refine yG (gQ hcs hfs (by omega)) (fun u hu => ?_)
  obtain ⟨gs, rfl, hg2⟩ := hu
  obtain ⟨g1, g2, g3, g4, rfl⟩ := id hg2.four
  refine go8 ?_
  refine yP (q4.row r hP) (by rfl) (by rfl) (by rw [q4.len r hP]; omega) ?_
  refine go8 ?_
  rw [xD q (by omega), show 0 + ((q : Nat) : Int).toNat * 4 = q * 4 by omega]
  have hpb : bx1 r ≠ p := by have := (q4.pos r hP).2; omega
  refine l_n (by rfl) (n' := c + 1 - (q + 1)) (by omega) ⟨q + 1, _, rfl, rfl, by omega, by rw [List.length_set]; exact q2, by rw [List.getElem?_set_ne hpb]; exact q3, (q4.put hP hq hg2).congr (fun i q' _ _ => ?_), q5.low (q4.pos r hP).2⟩
  unfold updA
  by_cases e : i = r
  ·subst e
   by_cases e2 : q' = q
   ·subst e2
    simp
   ·by_cases e3 : q' < q
    ·simp [e2, e3, show q' < q + 1 by omega]
    ·simp [e2, e3, show ¬ q' < q + 1 by omega]
  ·simp [e]
 simp [yA] at hq
 have eq : q = c + 1 := by omega
 subst eq
 generalize hA2 : scaleA A1 r f = A2
 have q4 := q4.congr (V' := A2) (S' := fun i _ => if i = r then gK K j + gK K j else gK K j) (fun i q' _ hq' => ⟨by
  rw [← hA2]
  unfold scaleA
  by_cases e : i = r
  ·rw [if_pos ⟨e, hq'⟩, if_pos e]
  ·rw [if_neg (fun x => e x.1), if_neg e], by
  by_cases e : i = r
  ·rw [if_pos ⟨e, hq'⟩, if_pos e]
   exact Nat.le_refl _
  ·rw [if_neg (fun x => e x.1), if_neg e]
   exact Nat.le_refl _⟩)
 clear q1 hq q3
 refine go8 ?_
 refine yS (fun n vs H => ∃ (i0 : Nat) (ds : Nat → List C), vs = [i64 c, .c (.sl 0 0 m (some m) 1), .c pv, i64 j, i64 r, i64 i0] ∧ n = m - i0 ∧ i0 ≤ m ∧ m + 1 ≤ H.length ∧ Mat bx1 co1 ds (m + 1) H m (c + 1) (fun i q => if i < i0 then jH A2 r j i q else A2 i q) (fun i q => if i = r then gK K j + gK K j else if i < i0 then 4 * gK K j + 1 else gK K j) ∧ Out elI T_int (m + 1) H pv P) (by rfl) ⟨0, ds2, rfl, rfl, by omega, q2, q4.congr (fun i q _ _ => ⟨by rw [if_neg (by omega)], by split <;> simp⟩), q5⟩ ?_
 rintro n vs H2 ⟨i0, ds2, rfl, rfl, q1, q2, q4, q5⟩
 refine go8 ?_
 cases hi0 : yA Cm.lss (i0 : Int) (m : Int)
 case false =>
  simp [yA] at hi0
  have e0 : m = i0 := by omega
  subst e0
  have hF : (H2.take (m + 1)).length = m + 1 := by simp; omega
  have hstep : stepA V r k j = jH A2 r j := by
   unfold stepA
   rw [hA1, hf, hA2]
  have hE := o4.step (k := k) (by omega) hk hne
  rw [hr, hstep] at hE
  refine go8 ?_
  refine gF (F := H2.take (m + 1)) (R := H2.drop (m + 1)) (a := j) (List.take_append_drop _ _).symm (by rw [hF, List.take_append_drop]; exact q5) (by rfl) (by rfl) rfl (by rfl) (by omega) (fun R' c' h9 => ?_)
  rw [hF] at h9
  have hag : ∀ b, b < m + 1 → (H2.take (m + 1) ++ R')[b]? = H2[b]? := fun b hb => by
   rw [List.getElem?_append_left (by omega), List.getElem?_take, if_pos hb]
  refine go8 ?_
  rw [xD j (by omega)]
  exact l_n (by rfl) (n' := c - (j + 1)) (by omega) ⟨j + 1, c', P ++ [j], bx1, co1, ds2, jH A2 r j, rfl, rfl, by omega, by rw [List.length_append, hF]; omega, (q4.agree (by omega) hag).congr (fun i q hi _ => ⟨by rw [if_pos hi], by
   simp only [gK]
   split <;> omega⟩), hE, h9⟩
 simp [yA] at hi0
 refine go8 ?_
 refine q4.ldT hi0 (by omega) ?_
 refine go8 ?_
 refine q4.ldE hi0 (show j < c + 1 by omega) (by omega) (fun cs hcs => ?_)
 obtain ⟨g1, g2, g3, g4, rfl⟩ := id hcs.four
 have hgs : i0 ≠ r → IR (gK K j) [g1, .bool g2, g3, .bool g4] (A2 i0 j) := fun e => by simpa [e] using hcs
 have hgz : IR (gK K j + gK K j) [g1, .bool g2, g3, .bool g4] (A2 i0 j) := by
  have := hcs
  rw [if_neg (Nat.lt_irrefl _), if_neg (Nat.lt_irrefl _)] at this
  exact this.up (by split <;> omega)
 clear hcs
 refine go8 ?_
 simp only [uA, vW, ratC, uX, uW, List.set_cons_zero, List.set_cons_succ, List.nil_append, List.cons_append, List.append_nil, List.replicate_succ, List.replicate_zero, List.length_cons, List.length_nil, splice, List.take_succ_cons, List.take_zero, List.drop_succ_cons, List.drop_zero, List.take_nil, List.drop_nil, Nat.zero_add, Nat.reduceAdd, Nat.reduceMul, Int.reduceToNat, xS, List.getElem?_cons_succ, List.getElem?_cons_zero]
 generalize hp2 : H2.length = p2 at *
 have hgb : (H2 ++ [Slot.live ⟨[g1, .bool g2, g3, .bool g4], yF, .rw⟩])[p2]? = some (.live ⟨[g1, .bool g2, g3, .bool g4], yF, .rw⟩) := by rw [← hp2]; simp
 refine yS (fun n vs H => ∃ (q : Nat) (ds : Nat → List C), vs = [i64 c, .c (.sl 0 0 m (some m) 1), .c pv, i64 j, i64 r, i64 i0, .c (.ptr p2 0), i64 q] ∧ n = c + 1 - q ∧ q ≤ c + 1 ∧ m + 1 ≤ H.length ∧ H[p2]? = some (.live ⟨[g1, .bool g2, g3, .bool g4], yF, .rw⟩) ∧ Mat bx1 co1 ds (m + 1) H m (c + 1) (fun i q' => if i < i0 ∨ (i = i0 ∧ q' < q) then jH A2 r j i q' else A2 i q') (fun i q' => if i = r then gK K j + gK K j else if i < i0 ∨ (i = i0 ∧ q' < q) then 4 * gK K j + 1 else gK K j) ∧ Out elI T_int (m + 1) H pv P ∧ (q = 0 ∨ (i0 ≠ r ∧ A2 i0 j ≠ 0))) (by rfl) ⟨0, ds2, rfl, rfl, by omega, by simp; omega, hgb, q4.grow.congr (fun i q _ _ => ⟨by simp, by simp⟩), q5.grow, .inl rfl⟩ ?_
 rintro n vs H3 ⟨q, ds3, rfl, rfl, w1, w2, w3, w4, w5, w6⟩
 have fin : (∀ q', q' < c + 1 → ¬ q' < q → jH A2 r j i0 q' = A2 i0 q') → Mat bx1 co1 ds3 (m + 1) H3 m (c + 1) (fun i q => if i < i0 + 1 then jH A2 r j i q else A2 i q) (fun i q => if i = r then gK K j + gK K j else if i < i0 + 1 then 4 * gK K j + 1 else gK K j) := fun hz => w4.congr (fun i q' _ hq' => by
  by_cases e : i = i0
  ·subst e
   by_cases e2 : q' < q
   ·simp [e2]
   ·simp [e2, hz q' hq' e2]
    split <;> omega
  ·by_cases e2 : i < i0
   ·simp [e2, show i < i0 + 1 by omega]
   ·simp [e, e2, show ¬ i < i0 + 1 by omega])
 refine go8 ?_
 refine w4.ldT hi0 (by omega) ?_
 refine go8 ?_
 cases hq : yA Cm.lss (q : Int) ((c + 1 : Nat) : Int)
 case false =>
  simp [yA] at hq
  have eq : q = c + 1 := by omega
  refine go8 ?_
  rw [xD i0 (by omega)]
  exact l_n (by rfl) (n' := m - (i0 + 1)) (by omega) ⟨i0 + 1, ds3, rfl, rfl, by omega, w2, fin (fun q' a b => absurd a (by omega)), w5⟩
 simp [yA] at hq
 have hq : q < c + 1 := by omega
 refine go8 ?_
 cases hir : yA Cm.neq (i0 : Int) (r : Int)
 case false =>
  simp [yA] at hir
  have hir : i0 = r := by omega
  refine go8 ?_
  rw [xD i0 (by omega)]
  exact l_n (by rfl) (n' := m - (i0 + 1)) (by omega) ⟨i0 + 1, ds3, rfl, rfl, by omega, w2, fin (fun q' a b => by unfold jH; rw [if_pos hir]), w5⟩
 simp [yA] at hir
 have hir : i0 ≠ r := by omega
 refine go8 ?_
 refine yN w3 (by rfl) ?_
 refine go8 ?_
 refine yB (qF (hgs hir)) (fun u hu => ?_)
 obtain ⟨z, rfl, hz⟩ := hu
 cases z
 case true =>
  have hz := hz.1 rfl
  refine go8 ?_
  rw [xD i0 (by omega)]
  exact l_n (by rfl) (n' := m - (i0 + 1)) (by omega) ⟨i0 + 1, ds3, rfl, rfl, by omega, w2, fin (fun q' a b => by
   unfold jH
   rw [if_neg hir, hz]
   grind), w5⟩
 have hgne : A2 i0 j ≠ 0 := fun e => absurd (hz.2 e) (by decide)
 refine go8 ?_
 refine w4.ldT hi0 (by omega) ?_
 refine go8 ?_
 refine w4.ldT hi0 (by omega) ?_
 refine go8 ?_
 refine w4.ldE hi0 hq (by omega) (fun cs hcs => ?_)
 simp only [hir, Nat.lt_irrefl, and_false, or_false, if_false] at hcs
 refine go8 ?_
 refine yN w3 (by rfl) ?_
 refine go8 ?_
 refine w4.ldT hP (by omega) ?_
 refine go8 ?_
 refine w4.ldE hP hq (by omega) (fun es hes => ?_)
 have her : jH A2 r j r q = A2 r q := by simp [jH]
 rw [her] at hes
 simp only [if_true, ite_self] at hes
 refine go8 ?_
 refine yG (gQ (hgs hir) hes (by omega)) (fun u hu => ?_)
 obtain ⟨hs, rfl, hh1⟩ := hu
 refine go8 ?_
 refine yG (r_Sub2 hcs hh1 (by omega)) (fun u hu => ?_)
 obtain ⟨ks, rfl, hh2⟩ := hu
 have hh2 := hh2.up (show _ ≤ 4 * gK K j + 1 by omega)
 obtain ⟨y1, y2, y3, y4, rfl⟩ := id hh2.four
 refine go8 ?_
 refine yP (w4.row i0 hi0) (by rfl) (by rfl) (by rw [w4.len i0 hi0]; omega) ?_
 refine go8 ?_
 rw [xD q (by omega), show 0 + ((q : Nat) : Int).toNat * 4 = q * 4 by omega]
 have hpb : bx1 i0 ≠ p2 := by have := (w4.pos i0 hi0).2; omega
 refine l_n (by rfl) (n' := c + 1 - (q + 1)) (by omega) ⟨q + 1, _, rfl, rfl, by omega, by rw [List.length_set]; exact w2, by rw [List.getElem?_set_ne hpb]; exact w3, (w4.put hi0 hq hh2).congr (fun i q' _ _ => ?_), w5.low (w4.pos i0 hi0).2, .inr ⟨hir, hgne⟩⟩
 unfold updA
 by_cases e : i = i0
 ·subst e
  by_cases e2 : q' = q
  ·subst e2
   simp [hir, jH]
  ·by_cases e3 : q' < q
   ·simp [e2, e3, show q' < q + 1 by omega]
   ·simp [e2, e3, show ¬ q' < q + 1 by omega]
 ·simp [e]
end Go.Proofs.YtjncgcnofiaiaaaGreat

set_option linter.unusedVariables false
set_option linter.unusedSimpArgs false
namespace Go.Proofs.YtjncgcnofiaiaaaGreat
open Go.RowKit
set_option maxRecDepth 20000
theorem ld_lsI {c : C} {l : List Nat} {n i : Nat} {K : V → Prop} (hc : Ls elI c l) (hi : i < l.length) (hn : n = i) (k : K (.c (.int .i64 l[i]))) : yM (c.ds.drop (n * 1)) false 1 K := by
 subst hn
 obtain ⟨cs, r, h1, h2⟩ := hc.els.get hi
 have h1 : cs = [.int .i64 (l[n] : Nat)] := h1
 subst h1
 rw [show n * 1 = n * elI.s from rfl, h2]
 exact gU (c := .int .i64 (l[n] : Nat)) rfl k
theorem find_same : ∀ (es : List (Int × C)) (n : Int) (v : C), pX (upE es n v) n = some v
 | [], n, v => by simp [upE, pX]
 | (k, c) :: r, n, v => by
  by_cases h : n = k
  ·simp [upE, pX, h]
  ·simp [upE, pX, h, find_same r n v]
theorem find_keep : ∀ (es : List (Int × C)) (n k : Int) (v : C), pX es n = some v → pX (upE es k v) n = some v
 | [], n, k, v, h => by simp [pX] at h
 | (a, c) :: r, n, k, v, h => by
  by_cases h1 : k = a
  ·subst h1
   simp only [upE, decide_true, cond_true]
   by_cases h2 : n = k
   ·simp [pX, h2]
   ·simp [pX, h2] at h ⊢
    exact h
  ·simp only [upE, h1, decide_false, cond_false]
   by_cases h2 : n = a
   ·simp [pX, h2] at h ⊢
    exact h
   ·simp [pX, h2] at h ⊢
    exact find_keep r n k v h
theorem gX : ∀ {bs : List Nat} {H : Hp} {b : Nat} {cells : List C} {el : TypeId}, b ∈ bs → H[b]? = some (.live ⟨cells, el, .rw⟩) → (xS H bs)[b]? = some (.live ⟨cells, el, .ro⟩) := by
 have keep : ∀ {bs : List Nat} {H : Hp} {b : Nat} {cells : List C} {el : TypeId} {kd : BK}, H[b]? = some (.live ⟨cells, el, kd⟩) → (xS H bs)[b]? = some (.live ⟨cells, el, kd⟩) ∨ (xS H bs)[b]? = some (.live ⟨cells, el, .ro⟩) := by
  intro bs
  induction bs with
  | nil => intro H b cells el kd h; exact .inl h
  | cons a r ih =>
   intro H b cells el kd h
   have h2 := ih h
   unfold xS
   split
   ·rename_i bx hbx
    split
    ·rename_i hk
     by_cases e : a = b
     ·subst e
      rw [List.getElem?_set_self (lt_of_getElem? hbx)]
      rcases h2 with h2 | h2
      ·rw [h2] at hbx
       cases hbx
       exact .inr rfl
      ·rw [h2] at hbx
       cases hbx
       exact .inr rfl
     ·rw [List.getElem?_set_ne e]
      exact h2
    ·exact h2
   ·exact h2
 intro bs
 induction bs with
 | nil => intro H b cells el hm; cases hm
 | cons a r ih =>
  intro H b cells el hm h
  by_cases e : a = b
  ·subst e
   have h2 := keep (bs := r) h
   unfold xS
   rcases h2 with h2 | h2
   ·rw [h2]
    simp only
    rw [List.getElem?_set_self (lt_of_getElem? h2)]
   ·rw [h2]
    exact h2
  ·have hm : b ∈ r := by
    rcases List.mem_cons.1 hm with h3 | h3
    ·exact absurd h3.symm e
    ·exact h3
   have h2 := ih hm h
   unfold xS
   split
   ·split
    ·rw [List.getElem?_set_ne e]
     exact h2
    ·exact h2
   ·exact h2
theorem fz_rowsK {p : BK → Prop} {kd : BK} {H : Hp} {bx : Nat → Nat} {co : Nat → Option Nat} {ds : Nat → List C} {w : Nat} (hp : p kd) (hb : kd ≠ .bor) : ∀ {l : List Nat}, (∀ i ∈ l, H[bx i]? = some (.live ⟨ds i, yF, kd⟩) ∧ (ds i).length = w * 4 ∧ HFL (ds i)) → FzL p H (l.map (rowC bx co w)) (l.map fun i => .imm w (ds i))
 | [], _ => .nil
 | a :: l, h => by
  obtain ⟨h1, h2, h3⟩ := h a List.mem_cons_self
  exact .cons (.sl h1 hp hb (by
   simp only [List.drop_zero]
   rw [List.take_of_length_le (by omega)]
   exact .hf h3)) (fz_rowsK hp hb (fun i hi => h i (List.mem_cons_of_mem _ hi)))
theorem Mat.close {bx : Nat → Nat} {co : Nat → Option Nat} {ds : Nat → List C} {L : Nat} {H : Hp} {m w : Nat} {V : Nat → Nat → Rat} {S : Nat → Nat → Nat} (h : Mat bx co ds L H m w V S) : ∃ d, Fz (· = .ro) (xS H (0 :: (List.range m).map bx)) (.sl 0 0 m (some m) 1) d ∧ Tab ds d m w V S := by
 refine ⟨_, .sl (gX List.mem_cons_self h.T) rfl (by simp) ?_, rfl, h.len, h.at_⟩
 rw [List.drop_zero, List.take_of_length_le (by simp)]
 exact fz_rowsK (p := (· = .ro)) (H := xS H (0 :: (List.range m).map bx)) (bx := bx) (co := co) (ds := ds) (w := w) (l := List.range m) rfl (by simp) (fun i hi => ⟨gX (List.mem_cons_of_mem _ (List.mem_map_of_mem hi)) (h.row i (by simpa using hi)), h.len i (by simpa using hi), gV (h.len i (by simpa using hi)) (fun j hj => (h.at_ i j (by simpa using hi) hj).hf)⟩)
theorem Tab.ldT {ds : Nat → List C} {c : C} {m w off : Nat} {V : Nat → Nat → Rat} {S : Nat → Nat → Nat} {i : Nat} {K : Go.Proofs.YtjncgcnofiaiaaaGreat.V → Prop} (hi : i < m) (ho : off = i) (k : K (.c (.imm w (ds i)))) : yM (((List.range m).map fun i => C.imm w (ds i)).drop (off * 1)) false 1 K := by
 subst ho
 exact gU (c := .imm w (ds off)) (by simp [hi]) k
theorem Tab.ldE {ds : Nat → List C} {c : C} {m w off : Nat} {V : Nat → Nat → Rat} {S : Nat → Nat → Nat} {i j : Nat} {K : Go.Proofs.YtjncgcnofiaiaaaGreat.V → Prop} (h : Tab ds c m w V S) (hi : i < m) (hj : j < w) (ho : off = j) (k : ∀ cs, IR (S i j) cs (V i j) → K (.agg cs)) : yM ((ds i).drop (off * 4)) true 4 K := by
 subst ho
 have hl := h.len i hi
 refine xJ (by simp; omega) (k _ (h.at_ i off hi hj))
structure MatP (bx : Nat → Nat) (ds : Nat → List C) (H : Hp) (i m w : Nat) (V : Nat → Nat → Rat) (S : Nat → Nat → Nat) : Prop where
 T : H[0]? = some (.live ⟨(List.range i).map (rowC bx (fun _ => none) w) ++ List.replicate (m - i) .nilSl, yY, .rw⟩)
 pos : ∀ l, l < i → 0 < bx l ∧ bx l < H.length
 row : ∀ l, l < i → H[bx l]? = some (.live ⟨ds l, yF, .rw⟩)
 len : ∀ l, l < i → (ds l).length = w * 4
 at_ : ∀ l j, l < i → j < w → IR (S l j) (((ds l).drop (j * 4)).take 4) (V l j)
 inj : ∀ l k, l < i → k < i → bx l = bx k → l = k
theorem MatP.mat {bx : Nat → Nat} {ds : Nat → List C} {H : Hp} {m w : Nat} {V : Nat → Nat → Rat} {S : Nat → Nat → Nat} (h : MatP bx ds H m m w V S) : Mat bx (fun _ => none) ds H.length H m w V S :=
 ⟨by simpa using h.T, h.pos, h.row, h.len, h.at_, h.inj⟩
theorem MatP.next {bx : Nat → Nat} {ds : Nat → List C} {H H' : Hp} {i m w b : Nat} {V : Nat → Nat → Rat} {S : Nat → Nat → Nat} {d : List C} (h : MatP bx ds H i m w V S) (hi : i < m)
  (hT : H'[0]? = some (.live ⟨splice ((List.range i).map (rowC bx (fun _ => none) w) ++ List.replicate (m - i) .nilSl) i [.sl b 0 w none 4], yY, .rw⟩)) (hk : ∀ l, 0 < l → l < H.length → H'[l]? = H[l]?) (hb : H.length ≤ b) (hb2 : H'[b]? = some (.live ⟨d, yF, .rw⟩)) (hl : d.length = w * 4) (hlen : H.length ≤ H'.length) (ha : ∀ j, j < w → IR (S i j) ((d.drop (j * 4)).take 4) (V i j)) :
  MatP (fun l => if l = i then b else bx l) (fun l => if l = i then d else ds l) H' (i + 1) m w V S := by
 have hb3 := lt_of_getElem? hb2
 have hH0 := lt_of_getElem? h.T
 refine ⟨?_, fun l hl2 => ?_, fun l hl2 => ?_, fun l hl2 => ?_, fun l j hl2 hj => ?_, fun l k hl2 hk2 he => ?_⟩
 ·rw [hT, splice_next (by simp) hi, uB]
  congr 3
  congr 1
  ·congr 1
   ·apply List.map_congr_left
    intro l hl2
    have : l ≠ i := by have := List.mem_range.1 hl2; omega
    simp [rowC, this]
   ·simp [rowC]
 ·by_cases e : l = i
  ·simp [e]; omega
  ·have := h.pos l (by omega)
   simp [e]; omega
 ·by_cases e : l = i
  ·simp [e, hb2]
  ·have hp := h.pos l (by omega)
   simp only [e, if_false]
   rw [hk _ hp.1 hp.2]
   exact h.row l (by omega)
 ·by_cases e : l = i
  ·simp [e, hl]
  ·simp only [e, if_false]
   exact h.len l (by omega)
 ·by_cases e : l = i
  ·subst e
   simpa using ha j hj
  ·simp only [e, if_false]
   exact h.at_ l j (by omega) hj
 ·by_cases e1 : l = i <;> by_cases e2 : k = i
  ·omega
  ·simp [e1, e2] at he
   have := h.pos k (by omega)
   omega
  ·simp [e1, e2] at he
   have := h.pos l (by omega)
   omega
  ·simp [e1, e2] at he
   exact h.inj l k (by omega) (by omega) he
def SolK (K c : Nat) (s : Nat → Rat) (u : V) : Prop := ∃ cx, u = .tup [.c cx, .c .nilSl, .c (.bool true)] ∧ Ls (elR K) cx ((List.range c).map s)
attribute [local irreducible] yA semH semC qLen qNil qIad qSlc qIdx xA yM xH appX appI slcX awpF yQ xM xopF xT qval lval seqQ xO wT wL wI cnd arith IntKind.wrap
theorem ref04_basis {ct cp : C} {P : List Nat} {c : Nat} (ht : HFC ct) (hp : Ls elI cp P) (hl : P.length < 1024) (hc : c < 1024) (hall : ∀ q, q < c → q ∈ P) : semC Tryz.prog n_ref04_basis [.c ct, .c cp, i64 c] (EqK (.c .nilSl)) := by
 refine yC ok_ref04_basis rfl (show HFVs [.c ct, .c cp, i64 c] from ⟨ht, hp.hf, trivial, trivial⟩) ?_
 refine go8 ?_
 refine yS (fun n vs H => ∃ (i : Nat) (es : List (Int × C)), vs = [.c ct, .c cp, i64 c, .c (.mp 0), i64 i] ∧ H = [.mp es] ∧ n = P.length - i ∧ i ≤ P.length ∧ ∀ l (h : l < P.length), l < i → pX es (P[l] : Nat) = some (.bool true)) (by rfl) ⟨0, [], rfl, rfl, rfl, by omega, fun l h a => by omega⟩ ?_
 rintro n vs H ⟨i, es, rfl, rfl, rfl, h1, h2⟩
 refine go8 ?_
 cases hi : yA Cm.lss (i : Int) (P.length : Int)
 case true =>
  simp [yA] at hi
  refine go8 ?_
  refine ld_lsI hp hi (by omega) ?_
  refine go8 ?_
  rw [xD i (by omega)]
  refine l_n (by rfl) (by omega) ⟨i + 1, _, rfl, rfl, rfl, by omega, fun l h a => ?_⟩
  by_cases e : l = i
  ·subst e
   exact find_same _ _ _
  ·exact find_keep _ _ _ _ (h2 l h (by omega))
 simp [yA] at hi
 have ei : i = P.length := by omega
 refine go8 ?_
 refine yS (fun n vs H => ∃ (j : Nat), vs = [.c ct, .c cp, i64 c, .c (.mp 0), .c .nilSl, i64 j] ∧ H = [.mp es] ∧ n = c - j ∧ j ≤ c) (by rfl) ⟨0, rfl, rfl, rfl, by omega⟩ ?_
 rintro n vs H ⟨j, rfl, rfl, rfl, h3⟩
 refine go8 ?_
 cases hj : yA Cm.lss (j : Int) (c : Int)
 case false =>
  simp [yA] at hj
  refine go8 ?_
  exact ⟨_, .c (.hf trivial), rfl⟩
 simp [yA] at hj
 obtain ⟨l, hl2, rfl⟩ := List.getElem_of_mem (hall j hj)
 have hf := h2 l hl2 (by omega)
 refine go8 ?_
 unfold lookP
 rw [hf]
 refine go8 ?_
 rw [xD P[l] (by omega)]
 exact l_n (by rfl) (by omega) ⟨P[l] + 1, rfl, rfl, rfl, by omega⟩
end Go.Proofs.YtjncgcnofiaiaaaGreat

set_option linter.unusedVariables false
set_option linter.unusedSimpArgs false
namespace Go.Proofs.YtjncgcnofiaiaaaGreat
open Go.RowKit
set_option maxRecDepth 20000
def pB (A : Nat → Nat → Rat) (b : Nat → Rat) (c : Nat) : Nat → Nat → Rat := fun i j => if j = c then b i else A i j
theorem row_beside {d cs : List C} {c K : Nat} {A : Nat → Nat → Rat} {b : Nat → Rat} {i : Nat} (hl : d.length = c * 4) (ha : ∀ j, j < c → IR K ((d.drop (j * 4)).take 4) (A i j)) (hc : IR K cs (b i)) :
  (d.take (c * 4) ++ cs).length = (c + 1) * 4 ∧ ∀ j, j < c + 1 → IR K (((d.take (c * 4) ++ cs).drop (j * 4)).take 4) (pB A b c i j) := by
 have h4 : cs.length = 4 := (elR K).len hc
 rw [List.take_of_length_le (by omega)]
 refine ⟨by simp [hl, h4]; omega, fun j hj => ?_⟩
 unfold pB
 by_cases e : j = c
 ·subst e
  rw [if_pos rfl, List.drop_append, List.drop_of_length_le (by omega), hl, Nat.sub_self]
  simpa [List.take_of_length_le (Nat.le_of_eq h4)] using hc
 ·rw [if_neg e, List.drop_append_of_le_length (by omega), List.take_append_of_le_length (by simp; omega)]
  exact ha j (by omega)
attribute [local irreducible] yA semH semC qLen qNil qIad qSlc qIdx xA yM xH appX appI slcX awpF yQ xM xopF xT qval lval seqQ xO wT wL wI cnd arith IntKind.wrap
theorem ref04_Solution {ds0 : Nat → List C} {ct cb : C} {m c K : Nat} {A : Nat → Nat → Rat} {b s : Nat → Rat} (ht : Tab ds0 ct m c A (fun _ _ => K)) (hb : Ls (elR K) cb ((List.range m).map b)) (hm : 0 < m) (hm2 : m < 1024) (hc : 0 < c) (hc2 : c < 1024) (hK : 1 ≤ K) (hg : gK K c ≤ 134217727) (hs : qK m c (pB A b c) s) (hu : ∀ v, qK m c (pB A b c) v → ∀ q, q < c → v q = s q) :
  semC Tryz.prog n_ref04_Solution [.c ct, i64 c, .c cb] (SolK (gK K c) c s) := by
 refine yC ok_ref04_Solution rfl (show HFVs [.c ct, i64 c, .c cb] from ⟨ht.hf, trivial, hb.hf, trivial⟩) ?_
 have hteq := ht.eq
 have hbl : ((List.range m).map b).length = m := by simp
 subst hteq
 refine go9 ?_
 refine vM (by rfl) (by rfl) ⟨by omega, by omega, by omega, by omega⟩ ?_
 refine go9 ?_
 refine yS (fun n vs H => ∃ (i : Nat) (bx : Nat → Nat) (ds : Nat → List C), vs = [.c (.imm m ((List.range m).map fun i => .imm c (ds0 i))), i64 c, .c cb, .c (.sl 0 0 m (some m) 1), i64 i] ∧ n = m - i ∧ i ≤ m ∧ MatP bx ds H i m (c + 1) (pB A b c) (fun _ _ => K)) (by rfl) ⟨0, fun _ => 0, fun _ => [], rfl, rfl, by omega, ⟨by simp, fun l h => by omega, fun l h => by omega, fun l h => by omega, fun l j h => by omega, fun l k h => by omega⟩⟩ ?_
 rintro n vs H ⟨i, bx, ds, rfl, rfl, h1, h2⟩
 refine go9 ?_
 cases hi : yA Cm.lss (i : Int) (m : Int)
 case true =>
  simp [yA] at hi
  refine go9 ?_
  refine wE (by rfl) (by rfl) (by omega) (by omega) ?_
  refine go9 ?_
  refine gU (c := .imm c (ds0 i)) (by simp [hi]) ?_
  refine go9 ?_
  refine xW hb (i := i) (by omega) (by omega) rfl (fun cs hcs => ?_)
  have hcs : IR K cs (b i) := by
   simp only [List.getElem_map, List.getElem_range] at hcs
   exact hcs
  obtain ⟨b1, b2, b3, b4, rfl⟩ := id hcs.four
  obtain ⟨r1, r2⟩ := row_beside (A := A) (ht.len i hi) (fun j hj => ht.at_ i j hi hj) hcs
  refine go9 ?_
  refine app_copyB (by rfl) (by rfl) (ht.len i hi) (by omega) (by omega) ?_
  refine go9 ?_
  refine app_sl (cs := ds0 i) (xs := [b1, .bool b2, b3, .bool b4]) (m := 1) (by rfl) (by rfl) (by rfl) (by rfl) (by rfl) (by simp) (Nat.le_of_eq (ht.len i hi).symm) (by omega) (by omega) ?_
  refine go9 ?_
  have hH0 := lt_of_getElem? h2.T
  refine yP (cs := (List.range i).map (rowC bx (fun _ => none) (c + 1)) ++ List.replicate (m - i) .nilSl) (el := yY) (by rw [List.getElem?_append_left (by simp), List.getElem?_set_ne (by omega), List.getElem?_append_left hH0]; exact h2.T) (by rfl) (by rfl) (by simp; omega) ?_
  rw [show 0 + ((i : Nat) : Int).toNat * 1 = i by omega]
  refine go9 ?_
  rw [xD i (by omega)]
  refine l_n (by rfl) (n' := m - (i + 1)) (by omega) ⟨i + 1, _, _, rfl, rfl, by omega, h2.next (b := H.length + 1) (d := (ds0 i).take (c * 4) ++ [b1, .bool b2, b3, .bool b4]) hi ?_ (fun l l1 l2 => ?_) (by omega) ?_ r1 (by simp) r2⟩
  ·simp [hH0]
  ·simp only [List.getElem?_set_ne (show 0 ≠ l by omega), List.getElem?_append_left (show l < ((H ++ [Slot.live ⟨ds0 i, 65, .rw⟩]).set H.length .dead).length by simp; omega), List.getElem?_set_ne (show H.length ≠ l by omega), List.getElem?_append_left l2]
  ·simp
 simp [yA] at hi
 have ei : m = i := by omega
 subst ei
 obtain ⟨d, f, hd⟩ := h2.mat.close
 refine go9 ?_
 refine yR (0 :: (List.range m).map bx) (.cons (.c f) (.cons (.c (.hf trivial)) .nil)) (ref04_Reduced hd hm hm2 hc2 hK hg) (fun u hu => ?_)
 obtain ⟨cr, cp, dr, V, P, j, rfl, t1, lp, el, hj, hj2⟩ := hu
 obtain ⟨e1, e2, e3⟩ := el.unique hj hj2 hs hu
 generalize xS H (0 :: (List.range m).map bx) = H9
 have hreq := t1.eq
 subst hreq
 have hPm := el.le
 refine go9 ?_
 refine yS (fun n vs H => ∃ (i : Nat), vs = [i64 c, .c (.imm m ((List.range m).map fun i => .imm (c + 1) (dr i))), .c cp, i64 i] ∧ n = m - i ∧ P.length ≤ i ∧ i ≤ m) (by rfl) ⟨P.length, rfl, rfl, Nat.le_refl _, hPm⟩ ?_
 rintro n vs H1 ⟨i, rfl, rfl, i1, i2⟩
 refine go9 ?_
 cases hi : yA Cm.lss (i : Int) (m : Int)
 case true =>
  simp [yA] at hi
  refine go9 ?_
  refine wE (by rfl) (by rfl) (by omega) (by omega) ?_
  refine go9 ?_
  refine gU (c := .imm (c + 1) (dr i)) (by simp [hi]) ?_
  refine go9 ?_
  refine wE (by rfl) (by rfl) (by omega) (by omega) ?_
  refine go9 ?_
  refine t1.ldE hi (show c < c + 1 by omega) (by omega) (fun cs hcs => ?_)
  refine go9 ?_
  refine yB (qF hcs) (fun u hu => ?_)
  obtain ⟨z, rfl, hz⟩ := hu
  have hz := hz.2 (e1 i i1 hi)
  subst hz
  refine go9 ?_
  rw [xD i (by omega)]
  exact l_n (by rfl) (n' := m - (i + 1)) (by omega) ⟨i + 1, rfl, rfl, by omega, by omega⟩
 simp [yA] at hi
 refine go9 ?_
 refine vM (by rfl) (by rfl) ⟨by omega, by omega, by omega, by omega⟩ ?_
 refine go9 ?_
 refine yS (fun n vs H => ∃ (i : Nat) (cells : List C) (L : List Rat), vs = [i64 c, .c (.imm m ((List.range m).map fun i => .imm (c + 1) (dr i))), .c cp, .c (.sl H1.length 0 c (some c) 4), i64 i] ∧ H = H1 ++ [.live ⟨cells, yF, .rw⟩] ∧ n = P.length - i ∧ i ≤ P.length ∧ L.length = c ∧ Els (elR (gK K c)) cells L ∧ ∀ l (hl : l < P.length), l < i → L.getD P[l] 0 = s P[l]) (by rfl) ⟨0, _, _, rfl, rfl, rfl, by omega, List.length_replicate, (Els.rep (E := elR 1) pJ c).up' (Nat.le_trans hK (gK_mono (Nat.zero_le c))), fun l h1 h2 => by omega⟩ ?_
 rintro n vs H2 ⟨i, cells, L, rfl, rfl, rfl, i3, i4, i5, i6⟩
 refine go9 ?_
 cases hi : yA Cm.lss (i : Int) (P.length : Int)
 case true =>
  simp [yA] at hi
  have hPc : P[i] < c := by have := el.lt _ (List.getElem_mem hi); omega
  refine go9 ?_
  refine ld_lsI lp hi (by omega) ?_
  refine go9 ?_
  refine wE (by rfl) (by rfl) (by omega) (by omega) ?_
  refine go9 ?_
  have him : i < m := by omega
  refine gU (c := .imm (c + 1) (dr i)) (by simp [him]) ?_
  refine go9 ?_
  refine wE (by rfl) (by rfl) (by omega) (by omega) ?_
  refine go9 ?_
  refine t1.ldE (show i < m by omega) (show c < c + 1 by omega) (by omega) (fun cs hcs => ?_)
  have hcs : IR (gK K c) cs (s P[i]) := by rw [← e3 i hi]; exact hcs
  obtain ⟨b1, b2, b3, b4, rfl⟩ := id hcs.four
  have hcl : cells.length = c * 4 := by rw [i5.len, i4]; rfl
  refine go9 ?_
  refine yP (cs := cells) (el := yF) (by simp) (by rfl) (by rfl) (by omega) ?_
  refine go9 ?_
  rw [xD i (by omega)]
  refine l_n (by rfl) (n' := P.length - (i + 1)) (by omega) ⟨i + 1, _, L.set P[i] (s P[i]), rfl, by rw [show 0 + ((P[i] : Nat) : Int).toNat * 4 = P[i] * 4 by omega]; simp; rfl, rfl, by omega, by simp [i4], i5.set (by omega) hcs, fun l hl hl2 => ?_⟩
  by_cases e : l = i
  ·subst e
   simp [List.getD, i4, hPc]
  ·have hne : P[i] ≠ P[l] := fun x => e (by have h1 := idx_at el.nodup hi; have h2 := idx_at el.nodup hl; rw [← h1, x, h2])
   have := i6 l hl (by omega)
   simpa [List.getD, List.getElem?_set_ne hne] using this
 simp [yA] at hi
 have hcl : cells.length = c * 4 := by rw [i5.len, i4]; rfl
 have hL : L = (List.range c).map s := by
  apply List.ext_getElem (by simp [i4])
  intro q h1 h2
  obtain ⟨l, hl, e⟩ := List.getElem_of_mem (e2 q (by omega))
  have := i6 l hl (by omega)
  rw [e] at this
  simp only [List.getElem_map, List.getElem_range]
  rw [← this, yX (l := L) (i := q) h1]
 subst hL
 refine go9 ?_
 refine yB (ref04_basis t1.hf lp (by omega) hc2 e2) (fun u hu => ?_)
 obtain rfl := hu
 refine go9 ?_
 exact ⟨_, .tup (.cons (.c (fz_sl (bx := ⟨cells, yF, .rw⟩) (ds := cells) (by simp) (by simp) (by simp) (by simp [List.take_of_length_le (Nat.le_of_eq hcl)]) i5.hf)) (.cons (.c (.hf trivial)) (.cons (.c (.hf trivial)) .nil))), _, rfl, by
  have := Ls.imm i5
  rwa [i4] at this⟩
end Go.Proofs.YtjncgcnofiaiaaaGreat

set_option linter.unusedVariables false
set_option linter.unusedSimpArgs false
namespace Go.Proofs.YtjncgcnofiaiaaaGreat
open Go.RowKit
set_option maxRecDepth 20000
def slope (xs ys : List Rat) (i : Nat) : Rat := (ys.getD (i + 1) 0 - ys.getD i 0) / (xs.getD (i + 1) 0 - xs.getD i 0)
def slopes (xs ys : List Rat) : List Rat := (List.range (xs.length - 1)).map (slope xs ys)
theorem pD {xs ys : List Rat} : (slopes xs ys).length = xs.length - 1 := by simp [slopes]
theorem uV {xs ys : List Rat} {i : Nat} (h : i < (slopes xs ys).length) : (slopes xs ys)[i] = slope xs ys i := by simp [slopes]
def qA (xs ys : List Rat) (i : Nat) (x : Rat) : Rat := ys.getD i 0 + slope xs ys i * (x - xs.getD i 0)
def holdP (xs ys : List Rat) (i : Nat) (x : Rat) : Rat := ys.getD i 0
structure jE (f : Rat → Rat) (m : List Rat) : Prop where
 ev : ∀ x, ev m x = f x
 len : m.length ≤ 4
 top : Top m
theorem tK.get {l : List Rat} (h : tK l) {i : Nat} (hi : i + 1 < l.length) : l.getD i 0 < l.getD (i + 1) 0 := by
 rw [yX hi, yX (show i < l.length by omega)]
 exact h i hi
theorem pT {a b : Rat} (h : a < b) : b - a ≠ 0 := fun e => by grind
def segR (xs : List Rat) (x : Rat) : Nat := xs.tail.findIdx (fun y => decide (x < y))
def valR (pc : Nat → Rat → Rat) (xs ys : List Rat) (x : Rat) : Rat := if x ≤ xs.getD 0 0 then ys.getD 0 0 else if xs.getD (xs.length - 1) 0 ≤ x then ys.getD (xs.length - 1) 0 else pc (segR xs x) x
theorem seg_eq {xs : List Rat} {x : Rat} {i : Nat} (hi : i + 1 < xs.length) (h : x < xs.getD (i + 1) 0) (hb : ∀ j, j < i → xs.getD (j + 1) 0 ≤ x) : segR xs x = i := by
 have hl : i < xs.tail.length := by simp; omega
 unfold segR
 rw [List.findIdx_eq hl]
 refine ⟨?_, fun j hj => ?_⟩
 ·rw [yX hi] at h
  simpa using h
 ·have := hb j hj
  rw [yX (show j + 1 < xs.length by omega)] at this
  simpa using Rat.not_lt.2 this
theorem val_lo {pc : Nat → Rat → Rat} {xs ys : List Rat} {x : Rat} (h : x ≤ xs.getD 0 0) : valR pc xs ys x = ys.getD 0 0 := by
 unfold valR
 rw [if_pos h]
theorem val_hi {pc : Nat → Rat → Rat} {xs ys : List Rat} {x : Rat} (h : ¬ x ≤ xs.getD 0 0) (h2 : xs.getD (xs.length - 1) 0 ≤ x) : valR pc xs ys x = ys.getD (xs.length - 1) 0 := by
 unfold valR
 rw [if_neg h, if_pos h2]
theorem val_in {pc : Nat → Rat → Rat} {xs ys : List Rat} {x : Rat} {i : Nat} (h : ¬ x ≤ xs.getD 0 0) (h2 : ¬ xs.getD (xs.length - 1) 0 ≤ x) (hi : i + 1 < xs.length) (h3 : x < xs.getD (i + 1) 0) (hb : ∀ j, j < i → xs.getD (j + 1) 0 ≤ x) : valR pc xs ys x = pc i x := by
 unfold valR
 rw [if_neg h, if_neg h2, seg_eq hi h3 hb]
noncomputable def numR (q : Rat) : R2 × Int := bif fitR (rp q) then (rp q, 0) else ((0, 0), 3)
def NumK (q : Rat) (u : V) : Prop := u = .tup [.agg (ratC (numR q).1), i64 (numR q).2]
theorem NumK.yes {q : Rat} {H : Hp} (h : fitR (rp q) = true) : ∃ e, FzV H (.tup [.agg (ratC (rp q)), i64 0]) e ∧ NumK q e := by
 refine ⟨_, .tup (.cons (.agg (.hf (sN _))) (.cons (.c (.hf trivial)) .nil)), ?_⟩
 unfold NumK numR
 rw [h]
 rfl
theorem NumK.no {q : Rat} {H : Hp} (h : fitR (rp q) = false) : ∃ e, FzV H (.tup [.agg [iC 0, iC 0], i64 3]) e ∧ NumK q e := by
 refine ⟨_, .tup (.cons (.agg (.hf (sN (0, 0)))) (.cons (.c (.hf trivial)) .nil)), ?_⟩
 unfold NumK numR
 rw [h]
 rfl
theorem top_two {k : Nat} {cs ds : List C} {a b : Rat} (h1 : IQ k cs a) (h2 : IQ k ds b) : Els (elQ k) (cs ++ ds) [a, b] := .cons h1 (.one h2)
theorem ev_two (a b x : Rat) : ev [a, b] x = a + b * x := by
 simp only [ev]
 grind
structure Shape (s cx cy : C) (xs ys : List Rat) (K : Nat) (pc : Nat → Rat → Rat) : Prop where
 hf : HFC s
 x : Ls (elQ 2) cx xs
 y : Ls (elQ 2) cy ys
 len : ys.length = xs.length
 pos : 0 < xs.length
 small : xs.length ≤ 1024
 at_ : semC Tryz.prog n_table_at [.c s] (fun u => u = .agg [cx, cy])
 piece : ∀ i, i + 1 < xs.length → semC Tryz.prog n_table_piece [.c s, i64 i] (vQ (elQ K) (jE (pc i)))
attribute [local irreducible] yA semH semC qLen qNil qIad qSlc qIdx xA yM xH appX appI slcX awpF yQ xM xopF xT qval lval seqQ xO wT wL wI cnd arith IntKind.wrap
theorem sF {k : Nat} {cx cy : C} {xs ys : List Rat} (hx : Ls (elQ k) cx xs) (hy : Ls (elQ k) cy ys) (hr : tK xs) (hlen : ys.length = xs.length) (hl : xs.length < 1048576) (hk : 4 * k + 3 ≤ 134217728) : semC Tryz.prog n_table_hold_lines [.agg [cx, cy]] (LsK (elQ (4 * k + 2)) (slopes xs ys)) := by
 refine yC ok_table_hold_lines rfl (show HFVs [.agg [cx, cy]] from ⟨⟨hx.hf, hy.hf, trivial⟩, trivial⟩) ?_
 refine go9 ?_
 refine yS (fun w vs H => ∃ (i : Nat) (o : C) (R : Hp), vs = [.c (.ptr 0 0), .c o, i64 i] ∧ H = .live ⟨[cx, cy], vS, .rw⟩ :: R ∧ w = xs.length + 1 - i ∧ 1 ≤ i ∧ i ≤ xs.length + 1 ∧ Out (elQ (4 * k + 2)) wS 1 (.live ⟨[cx, cy], vS, .rw⟩ :: R) o ((slopes xs ys).take (i - 1))) (by rfl) ⟨1, _, _, rfl, rfl, rfl, by omega, by omega, .nil⟩ ?_
 rintro w vs H ⟨i, o, R, rfl, rfl, rfl, h1, h2, h3⟩
 refine go9 ?_
 cases hi : yA Cm.lss (i : Int) (xs.length : Int)
 case false =>
  simp [yA] at hi
  rw [List.take_of_length_le (by rw [pD]; omega)] at h3
  refine go9 ?_
  exact h3.done
 simp [yA] at hi
 have e1 : arith .sub .i64 (i : Int) 1 = ((i - 1 : Nat) : Int) := by rw [xV, yE (by omega) (by omega)]; omega
 refine go9 ?_
 refine xW hy (i := i) (by omega) (by omega) rfl (fun av has => ?_)
 refine go9 ?_
 rw [e1]
 refine go9 ?_
 refine xW hy (i := i - 1) (by omega) (by omega) rfl (fun bs hbs => ?_)
 refine go9 ?_
 refine xW hx (i := i) (by omega) (by omega) rfl (fun cs hcs => ?_)
 refine go9 ?_
 rw [e1]
 refine go9 ?_
 refine xW hx (i := i - 1) (by omega) (by omega) rfl (fun ds hds => ?_)
 have hne : xs[i] - xs[i - 1] ≠ 0 := by
  have := hr (i - 1) (by omega)
  simp only [show i - 1 + 1 = i by omega] at this
  exact pT this
 refine go9 ?_
 refine yG (gR has hbs (by omega)) (fun u hu => ?_)
 obtain ⟨es, rfl, g1⟩ := hu
 refine go9 ?_
 refine yB (gR hcs hds (by omega)) (fun u hu => ?_)
 obtain ⟨fs, rfl, g2⟩ := hu
 refine go9 ?_
 refine yB (q_Div2 g1 g2 (by omega) hne) (fun u hu => ?_)
 obtain ⟨gs, rfl, g3⟩ := hu
 have g3 := g3.up (show _ ≤ 4 * k + 2 by omega)
 obtain ⟨y1, y2, y3, y4, y5, y6, rfl⟩ := id g3.six
 refine go9 ?_
 refine gF (F := [.live ⟨[cx, cy], vS, .rw⟩]) (R := R ++ [.unb]) rfl (h3.grow (X := [.unb])) (by rfl) (by rfl) rfl g3 (by simp; omega) (fun R' o' h4 => ?_)
 refine go9 ?_
 have e : (slopes xs ys).take (i - 1) ++ [(ys[i] - ys[i - 1]) / (xs[i] - xs[i - 1])] = (slopes xs ys).take (i + 1 - 1) := by
  rw [show i + 1 - 1 = (i - 1) + 1 by omega, qU (l := slopes xs ys) (i := i - 1) (by rw [pD]; omega), uV]
  unfold slope
  rw [show i - 1 + 1 = i by omega, yX (l := ys) (i := i) (by omega), yX (l := ys) (i := i - 1) (by omega), yX (l := xs) (i := i) (by omega), yX (l := xs) (i := i - 1) (by omega)]
 rw [e] at h4
 rw [xD i (by omega)]
 exact l_n (by rfl) (by omega) ⟨i + 1, o', R', rfl, rfl, rfl, by omega, by omega, h4⟩
theorem table_at_line {cx cy : C} (hx : HFC cx) (hy : HFC cy) : semC Tryz.prog n_table_at [.c (.ifaceA jD [cx, cy])] (fun u => u = .agg [cx, cy]) := by
 refine yC ok_table_at rfl (show HFVs [.c (.ifaceA jD [cx, cy])] from ⟨⟨hx, hy, trivial⟩, trivial⟩) ?_
 refine go5 ?_
 exact ⟨_, .agg (.hf ⟨hx, hy, trivial⟩), rfl⟩
theorem table_at_hold {cx cy : C} (hx : HFC cx) (hy : HFC cy) : semC Tryz.prog n_table_at [.c (.ifaceA vS [cx, cy])] (fun u => u = .agg [cx, cy]) := by
 refine yC ok_table_at rfl (show HFVs [.c (.ifaceA vS [cx, cy])] from ⟨⟨hx, hy, trivial⟩, trivial⟩) ?_
 refine go5 ?_
 exact ⟨_, .agg (.hf ⟨hx, hy, trivial⟩), rfl⟩
theorem table_at_cubic {cx cy cm : C} (hx : HFC cx) (hy : HFC cy) (hm : HFC cm) : semC Tryz.prog n_table_at [.c (.ifaceA qZ [cx, cy, cm])] (fun u => u = .agg [cx, cy]) := by
 refine yC ok_table_at rfl (show HFVs [.c (.ifaceA qZ [cx, cy, cm])] from ⟨⟨hx, hy, hm, trivial⟩, trivial⟩) ?_
 refine go5 ?_
 exact ⟨_, .agg (.hf ⟨hx, hy, trivial⟩), rfl⟩
theorem table_piece_line {cx cy : C} {xs ys : List Rat} {i : Nat} (hx : Ls (elQ 2) cx xs) (hy : Ls (elQ 2) cy ys) (hr : tK xs) (hlen : ys.length = xs.length) (hl : xs.length ≤ 1024) (hi : i + 1 < xs.length) : semC Tryz.prog n_table_piece [.c (.ifaceA jD [cx, cy]), i64 i] (vQ (elQ 42) (jE (qA xs ys i))) := by
 refine yC ok_table_piece rfl (show HFVs [.c (.ifaceA jD [cx, cy]), i64 i] from ⟨⟨hx.hf, hy.hf, trivial⟩, trivial, trivial⟩) ?_
 refine go8 ?_
 refine yB (table_at_line hx.hf hy.hf) (fun u hu => ?_)
 obtain rfl := hu
 refine go8 ?_
 refine xW hy (i := i) (by omega) (by omega) rfl (fun av has => ?_)
 obtain ⟨a1, a2, a3, a4, a5, a6, rfl⟩ := id has.six
 refine go8 ?_
 refine yG (sF hx hy hr hlen (by omega) (by decide)) (fun u hu => ?_)
 obtain ⟨cl, rfl, g1⟩ := hu
 have hsl : (slopes xs ys).length = xs.length - 1 := pD
 refine go8 ?_
 refine xW g1 (i := i) (by omega) (by omega) rfl (fun bs hbs => ?_)
 obtain ⟨b1, b2, b3, b4, b5, b6, rfl⟩ := id hbs.six
 rw [uV] at hbs
 refine go8 ?_
 have g2 := Ls.imm (top_two (has.up (show 2 ≤ 10 by decide)) hbs)
 refine yG (qp_Trim g2 (by simp)) (fun u hu => ?_)
 obtain ⟨cp, mp, rfl, g3, g4⟩ := hu
 refine go8 ?_
 refine xW hx (i := i) (by omega) (by omega) rfl (fun cs hcs => ?_)
 refine go8 ?_
 refine yB (q_Neg hcs (by decide)) (fun u hu => ?_)
 obtain ⟨ds, rfl, g5⟩ := hu
 obtain ⟨d1, d2, d3, d4, d5, d6, rfl⟩ := id g5.six
 refine go8 ?_
 refine yB (hU (g := 1) (by decide)) (fun u hu => ?_)
 obtain ⟨es, rfl, g6⟩ := hu
 obtain ⟨e1, e2, e3, e4, e5, e6, rfl⟩ := id g6.six
 refine go8 ?_
 simp only [uA, vW, ratC, uX, uW, List.set_cons_zero, List.set_cons_succ, List.nil_append, List.cons_append, List.append_nil, List.replicate_succ, List.replicate_zero, List.length_cons, List.length_nil, splice, List.take_succ_cons, List.take_zero, List.drop_succ_cons, List.drop_zero, List.take_nil, List.drop_nil, Nat.zero_add, Nat.reduceAdd, Nat.reduceMul, Int.reduceToNat, xS, List.getElem?_cons_succ, List.getElem?_cons_zero]
 have g7 := top_two g5 (g6.up (show 1 ≤ 2 by decide))
 have l1 := g4.len
 simp only [List.length_cons, List.length_nil] at l1
 have hco : coK 10 2 mp.length ≤ 42 := Nat.le_trans (coK_mono l1) (by decide)
 refine yB (qp_Compose g3 (.imm g7) (by omega) (by simp) (by omega)) (fun u hu => ?_)
 obtain ⟨cr, mr, rfl, g8, g9⟩ := hu
 refine go8 ?_
 refine vQ.fz (g8.up hco) ⟨fun x => ?_, by have := g9.len; omega, g9.top⟩
 rw [g9.ev, g4.ev, ev_two, ev_two]
 unfold qA
 rw [yX (l := ys) (i := i) (by omega), yX (l := xs) (i := i) (by omega)]
 grind
theorem table_piece_hold {cx cy : C} {xs ys : List Rat} {i : Nat} (hx : Ls (elQ 2) cx xs) (hy : Ls (elQ 2) cy ys) (hlen : ys.length = xs.length) (hl : xs.length ≤ 1024) (hi : i + 1 < xs.length) : semC Tryz.prog n_table_piece [.c (.ifaceA vS [cx, cy]), i64 i] (vQ (elQ 42) (jE (holdP xs ys i))) := by
 refine yC ok_table_piece rfl (show HFVs [.c (.ifaceA vS [cx, cy]), i64 i] from ⟨⟨hx.hf, hy.hf, trivial⟩, trivial, trivial⟩) ?_
 refine go8 ?_
 refine yB (table_at_hold hx.hf hy.hf) (fun u hu => ?_)
 obtain rfl := hu
 refine go8 ?_
 refine xW hy (i := i) (by omega) (by omega) rfl (fun av has => ?_)
 refine go8 ?_
 refine yB (qp_Const has) (fun u hu => ?_)
 obtain ⟨cp, mp, rfl, g3, g4⟩ := hu
 refine go8 ?_
 refine xW hx (i := i) (by omega) (by omega) rfl (fun cs hcs => ?_)
 refine go8 ?_
 refine yB (q_Neg hcs (by decide)) (fun u hu => ?_)
 obtain ⟨ds, rfl, g5⟩ := hu
 obtain ⟨d1, d2, d3, d4, d5, d6, rfl⟩ := id g5.six
 refine go8 ?_
 refine yB (hU (g := 1) (by decide)) (fun u hu => ?_)
 obtain ⟨es, rfl, g6⟩ := hu
 obtain ⟨e1, e2, e3, e4, e5, e6, rfl⟩ := id g6.six
 refine go8 ?_
 simp only [uA, vW, ratC, uX, uW, List.set_cons_zero, List.set_cons_succ, List.nil_append, List.cons_append, List.append_nil, List.replicate_succ, List.replicate_zero, List.length_cons, List.length_nil, splice, List.take_succ_cons, List.take_zero, List.drop_succ_cons, List.drop_zero, List.take_nil, List.drop_nil, Nat.zero_add, Nat.reduceAdd, Nat.reduceMul, Int.reduceToNat, xS, List.getElem?_cons_succ, List.getElem?_cons_zero]
 have g7 := top_two g5 (g6.up (show 1 ≤ 2 by decide))
 have l1 := g4.len
 simp only [List.length_cons, List.length_nil] at l1
 have hco : coK 2 2 mp.length ≤ 42 := Nat.le_trans (coK_mono l1) (by decide)
 refine yB (qp_Compose g3 (.imm g7) (by omega) (by simp) (by omega)) (fun u hu => ?_)
 obtain ⟨cr, mr, rfl, g8, g9⟩ := hu
 refine go8 ?_
 refine vQ.fz (g8.up hco) ⟨fun x => ?_, by have := g9.len; omega, g9.top⟩
 rw [g9.ev, g4.ev, pY]
 unfold holdP
 rw [yX (l := ys) (i := i) (by omega)]
theorem table_value {s cx cy : C} {xs ys : List Rat} {K k : Nat} {pc : Nat → Rat → Rat} {cs : List C} {x : Rat} (h : Shape s cx cy xs ys K pc) (hc : IQ k cs x) (hK : evK K k 4 ≤ 134217728) : semC Tryz.prog n_table_value [.c s, .agg cs] (QV (evK K k 4) (valR pc xs ys x)) := by
 refine yC ok_table_value rfl (show HFVs [.c s, .agg cs] from ⟨h.hf, hc.hf, trivial⟩) ?_
 obtain ⟨a, b, c1, d, e, f, rfl⟩ := id hc.six
 have hx := h.x
 have hy := h.y
 have hlen := h.len
 have hpos := h.pos
 have hsm := h.small
 have hkk : k + 2 ≤ 268435456 := by
  unfold evK at hK
  omega
 have h2k : 2 ≤ evK K k 4 := by
  unfold evK
  omega
 refine go5 ?_
 refine yB h.at_ (fun u hu => ?_)
 obtain rfl := hu
 refine go5 ?_
 refine xW hx (i := 0) hpos (by omega) rfl (fun ds hds => ?_)
 refine go5 ?_
 refine yG (q_Cmp2 hc hds hkk) (fun u hu => ?_)
 obtain rfl := hu
 refine go5 ?_
 rw [cq_leq]
 cases h1 : dec (x ≤ xs[0])
 case true =>
  have h1 := yI.1 h1
  rw [← yX hpos] at h1
  refine go5 ?_
  refine xW hy (i := 0) (by omega) (by omega) rfl (fun es hes => ?_)
  obtain ⟨_, _, _, _, _, _, rfl⟩ := id hes.six
  refine go5 ?_
  refine QV.fz (IQ.up ?_ h2k)
  rw [val_lo h1, yX (l := ys) (i := 0) (by omega)]
  exact hes
 have h1 := yK.1 h1
 rw [← yX hpos] at h1
 refine go5 ?_
 have e1 : arith .sub .i64 (xs.length : Int) 1 = ((xs.length - 1 : Nat) : Int) := by rw [xV, yE (by omega) (by omega)]; omega
 rw [e1]
 refine go5 ?_
 refine xW hx (i := xs.length - 1) (by omega) (by omega) rfl (fun es hes => ?_)
 refine go5 ?_
 refine yG (q_Cmp2 hc hes hkk) (fun u hu => ?_)
 obtain rfl := hu
 refine go5 ?_
 rw [cq_geq]
 cases h2 : dec (xs[xs.length - 1] ≤ x)
 case true =>
  have h2 := yI.1 h2
  rw [← yX (l := xs) (i := xs.length - 1) (by omega)] at h2
  refine go5 ?_
  rw [e1]
  refine go5 ?_
  refine xW hy (i := xs.length - 1) (by omega) (by omega) rfl (fun es hes => ?_)
  obtain ⟨_, _, _, _, _, _, rfl⟩ := id hes.six
  refine go5 ?_
  refine QV.fz (IQ.up ?_ h2k)
  rw [val_hi h1 h2, yX (l := ys) (i := xs.length - 1) (by omega)]
  exact hes
 have h2 := yK.1 h2
 rw [← yX (l := xs) (i := xs.length - 1) (by omega)] at h2
 refine go5 ?_
 refine yS (fun w vs H => ∃ (i : Nat), vs = [.c s, .c (.ptr 0 0), .c (.ptr 1 0), .c (.ptr 2 0), i64 i] ∧ H = [.live ⟨[a, b, c1, d, e, f], wS, .rw⟩, .live ⟨zeroQ, wS, .rw⟩, .live ⟨[cx, cy], vS, .rw⟩] ∧ w = xs.length - i ∧ i + 1 < xs.length ∧ ∀ j, j < i → xs.getD (j + 1) 0 ≤ x) (by rfl) ⟨0, rfl, rfl, rfl, ?_, fun j hj => by omega⟩ ?_
 ·rcases Nat.lt_or_ge 1 xs.length with h3 | h3
  ·omega
  ·have : xs.length - 1 = 0 := by omega
   rw [this] at h2
   grind
 rintro w vs H ⟨i, rfl, rfl, rfl, h3, h4⟩
 refine go5 ?_
 rw [xD i (by omega)]
 refine go5 ?_
 refine xW hx (i := i + 1) h3 (by omega) rfl (fun fs hfs => ?_)
 refine go5 ?_
 refine yG (q_Cmp2 hfs hc (by omega)) (fun u hu => ?_)
 obtain rfl := hu
 refine go5 ?_
 rw [cq_leq]
 cases h5 : dec (xs[i + 1] ≤ x)
 case true =>
  have h5 := yI.1 h5
  rw [← yX (l := xs) (i := i + 1) (by omega)] at h5
  refine go5 ?_
  rw [xD i (by omega)]
  refine l_n (by rfl) (n' := xs.length - (i + 1)) (by omega) ⟨i + 1, rfl, rfl, rfl, ?_, fun j hj => ?_⟩
  ·rcases Nat.lt_or_ge (i + 1 + 1) xs.length with h6 | h6
   ·exact h6
   ·have : xs.length - 1 = i + 1 := by omega
    rw [this] at h2
    exact absurd h5 h2
  ·rcases Nat.lt_or_ge j i with h6 | h6
   ·exact h4 j h6
   ·have : j = i := by omega
    subst this
    exact h5
 have h5 := yK.1 h5
 rw [← yX (l := xs) (i := i + 1) (by omega)] at h5
 refine go5 ?_
 refine yG (h.piece i h3) (fun u hu => ?_)
 obtain ⟨cp, mp, rfl, g1, g2⟩ := hu
 have l1 := g2.len
 have hE := Nat.le_trans (jY (k := K) (m := k) l1) hK
 refine go5 ?_
 refine yG (qp_Eval g1 hc (by omega) hE) (fun u hu => ?_)
 obtain ⟨es, rfl, g3⟩ := hu
 obtain ⟨_, _, _, _, _, _, rfl⟩ := id g3.six
 refine go5 ?_
 refine QV.fz (IQ.up ?_ (jY l1))
 rw [val_in h1 h2 h3 (Rat.not_le.1 h5) h4, ← g2.ev]
 exact g3
theorem gB {k : Nat} {cs : List C} {q : Rat} (hc : IQ k cs q) : semC Tryz.prog n_table_number [.agg cs] (NumK q) := by
 refine yC ok_table_number rfl (show HFVs [.agg cs] from ⟨hc.hf, trivial⟩) ?_
 obtain ⟨a, b, c1, d, e, f, rfl⟩ := id hc.six
 refine go5 ?_
 refine yB (num_Q_Out hc.is (rp_pos q)) (fun u hu => ?_)
 obtain rfl := hu
 unfold outV
 cases h : fitR (rp q)
 ·refine go5 ?_
  exact NumK.no h
 ·refine go5 ?_
  exact NumK.yes h
end Go.Proofs.YtjncgcnofiaiaaaGreat
