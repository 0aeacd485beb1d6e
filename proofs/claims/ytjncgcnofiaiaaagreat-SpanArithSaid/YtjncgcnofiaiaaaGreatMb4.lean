/-
  num: quotients of small numbers; Gcd, Over, Floor out of a contract of Quo.
-/
import Derived.Test.YtjncgcnofiaiaaaGreatMb3
/-
  ref01.parts, whole; divisor; ratio; Of.
-/
set_option linter.unusedVariables false
set_option linter.unusedSimpArgs false
namespace Go.Proofs.YtjncgcnofiaiaaaGreat
open Go.RowKit
set_option maxRecDepth 20000

theorem red_uniq {a b n d : Int} (h1 : Int.gcd a b = 1) (h2 : Int.gcd n d = 1) (hb : 0 < b) (hd : 0 < d) (h : a * d = n * b) : a = n ∧ b = d := by
  have hn := congrArg Int.natAbs h
  rw [Int.natAbs_mul, Int.natAbs_mul] at hn
  have c1 : Nat.Coprime d.natAbs n.natAbs := by rw [Nat.coprime_comm]; exact h2
  have c2 : Nat.Coprime b.natAbs a.natAbs := by rw [Nat.coprime_comm]; exact h1
  have e1 : d.natAbs ∣ b.natAbs := Nat.Coprime.dvd_of_dvd_mul_left c1 ⟨a.natAbs, by rw [← hn, Nat.mul_comm]⟩
  have e2 : b.natAbs ∣ d.natAbs := Nat.Coprime.dvd_of_dvd_mul_left c2 ⟨n.natAbs, by rw [hn, Nat.mul_comm]⟩
  have e3 := Nat.dvd_antisymm e1 e2
  have e4 : b = d := by omega
  subst e4
  exact ⟨Int.eq_of_mul_eq_mul_right (by omega) h, rfl⟩
theorem gcd_step {A B : Nat} : Nat.gcd B (A % B) = Nat.gcd A B := by
  rw [Nat.gcd_comm A B, Nat.gcd_rec B A, Nat.gcd_comm]
theorem val_nil_iff {l : List Nat} (h : Norm l) : l = [] ↔ val l = 0 := by
  constructor
  · intro e
    subst e
    rfl
  · intro e
    rcases Decidable.em (l = []) with h1 | h1
    · exact h1
    · have := val_pos h h1
      omega
theorem gcd_amt {m : Bool} {x y : Nat} : Int.gcd (amt m x) (amt false y) = Nat.gcd x y := by
  cases m <;> simp [amt, Int.gcd]
theorem red_div {m : Bool} {x y : Nat} (hy : 0 < y) : Int.gcd (amt m (x / x.gcd y)) (amt false (y / x.gcd y)) = 1 ∧ amt m (x / x.gcd y) * amt false y = amt m x * amt false (y / x.gcd y) ∧ 0 < y / x.gcd y ∧ x / x.gcd y ≤ x ∧ y / x.gcd y ≤ y := by
  have hg : 0 < x.gcd y := Nat.gcd_pos_of_pos_right _ hy
  refine ⟨?_, ?_, Nat.div_pos (Nat.le_of_dvd hy (Nat.gcd_dvd_right x y)) hg, Nat.div_le_self _ _, Nat.div_le_self _ _⟩
  · rw [gcd_amt]
    exact Nat.gcd_div_gcd_div_gcd_of_pos_right hy
  · obtain ⟨a, ha⟩ := Nat.gcd_dvd_left x y
    obtain ⟨b, hb⟩ := Nat.gcd_dvd_right x y
    generalize x.gcd y = g at hg ha hb ⊢
    have e : x / g * y = x * (y / g) := by
      rw [ha, hb, Nat.mul_div_cancel_left _ hg, Nat.mul_div_cancel_left _ hg]
      grind
    have e' : ((x / g : Nat) : Int) * (y : Int) = (x : Int) * ((y / g : Nat) : Int) := by exact_mod_cast e
    cases m
    · exact e'
    · simp only [amt, cond_true, cond_false, Int.neg_mul]
      rw [e']
/-- A ref01.Q in lowest terms, worth n / d. -/
def RedK (n d : Int) (u : V) : Prop := ∃ cs a b, u = .agg cs ∧ IsRQ cs a b ∧ 0 < b ∧ Int.gcd a b = 1 ∧ a * d = n * b ∧ a.natAbs ≤ n.natAbs ∧ b.natAbs ≤ d.natAbs
theorem IsRQ.hf {cs : List C} {a b : Int} (h : IsRQ cs a b) : HFL cs := by
  cases h with
  | mk hn hd =>
    obtain ⟨c1, l1, m1, rfl, w1, o1, g1, e1⟩ := hn.two
    obtain ⟨c2, l2, m2, rfl, w2, o2, g2, e2⟩ := hd.two
    exact ⟨w1.hf, trivial, w2.hf, trivial, trivial⟩
theorem IsRQ.of {c1 c2 : C} {m1 m2 : Bool} {a b : Int} (hn : IsW [c1, .bool m1] a) (hd : IsW [c2, .bool m2] b) (hb : b ≠ 0) : IsRQ [c1, .bool m1, c2, .bool m2] a b := by
  have := IsRQ.mk hn hd
  rwa [if_neg hb] at this
theorem IsRQ.four {cs : List C} {a b : Int} (h : IsRQ cs a b) : ∃ c1 m1 c2 m2 d, cs = [c1, .bool m1, c2, .bool m2] ∧ IsW [c1, .bool m1] a ∧ IsW [c2, .bool m2] d ∧ b = if d = 0 then 1 else d := by
  cases h with
  | mk hn hd =>
    obtain ⟨c1, l1, m1, rfl, _⟩ := hn.two
    obtain ⟨c2, l2, m2, rfl, _⟩ := hd.two
    exact ⟨_, _, _, _, _, rfl, hn, hd, rfl⟩
theorem RedK.fz {n d a b : Int} {cs : List C} {H : Hp} (h : IsRQ cs a b) (h1 : 0 < b) (h2 : Int.gcd a b = 1) (h3 : a * d = n * b) (h4 : a.natAbs ≤ n.natAbs) (h5 : b.natAbs ≤ d.natAbs) : ∃ e, FzV H (.agg cs) e ∧ RedK n d e :=
  ⟨_, .agg (.hf h.hf), cs, a, b, rfl, h, h1, h2, h3, h4, h5⟩
attribute [local irreducible] compare' semH semC qLen qNil qIad qSlc qIdx ldBox ldCells stBox appX awpF awpOpsF awpDF xopF xopDF qval lval seqQ blockQ loopQ bodyF retKF cnd arith IntKind.wrap
theorem x_store_last {P : Program} {e : Env} {H : Hp} {K : V → Hp → Prop} {agg : Bool} {size off : Nat} {a x : AO} {v : V} {cs l : List C} {el : TypeId} (h : a.ev e = some (.c (.ptr H.length off))) (h2 : x.ev e = some v) (h3 : cellsOf agg v = some l) (h4 : Nat.beq l.length size = true) (h5 : off + size ≤ cs.length) (k : K (.tup []) (H ++ [.live ⟨splice cs off l, el, .rw⟩])) : xopF P e (H ++ [.live ⟨cs, el, .rw⟩]) (.store agg size a x) K := by
  refine x_store h h2 (st_box (last_live _ _) h3 h4 h5 ?_)
  rw [set_last]
  exact k
theorem xd_store_last {P : Program} {e : Env} {H : Hp} {K : V → Hp → Prop} {nid : Nat} {agg : Bool} {size off : Nat} {a x : AO} {v : V} {cs l : List C} {el : TypeId} (h : a.ev e = some (.c (.ptr H.length off))) (h2 : x.ev e = some v) (h3 : cellsOf agg v = some l) (h4 : Nat.beq l.length size = true) (h5 : off + size ≤ cs.length) (k : K (.tup []) (H ++ [.live ⟨splice cs off l, el, .rw⟩])) : xopDF P e (H ++ [.live ⟨cs, el, .rw⟩]) nid (.store agg size a x) K := by
  refine xd_store h h2 (st_box (last_live _ _) h3 h4 h5 ?_)
  rw [set_last]
  exact k
/-- As go, with more kinds of steps. -/
theorem go2 {A B : Prop} (k : B) (h : Held B → A := by
  intro hgo
  repeat (first | (refine g_o ?_; first | (refine o_some ?_; try (first | (refine x_q (by rfl) ?_; try (first | refine q_mv (by rfl) ?_ | refine q_faddr (by rfl) ?_ | (refine q_len ?_; try (first | refine len_wd (by rfl) (by assumption) ?_ | refine len_sl (by rfl) ?_ | refine len_imm (by rfl) ?_ | refine len_nil (by rfl) ?_)) | (refine q_iad ?_; try (first | refine idx_wd (by rfl) (by rfl) (by assumption) (by omega) (by omega) ?_ | refine idx_ptr (by rfl) (by rfl) (by decide) (by decide) ?_ | refine idx_sl (by rfl) (by rfl) (by decide) (by decide) ?_ | refine idx_imm (by rfl) (by rfl) (by decide) (by decide) ?_)) | refine q_cm (by rfl) (by rfl) ?_ | refine q_ar (by rfl) (by rfl) (by rfl) ?_ | refine q_conv (by rfl) ?_ | (refine q_eqN ?_; try (first | refine eqn_nil (by rfl) ?_ | refine eqn_imm (by rfl) ?_ | refine eqn_sl (by rfl) ?_)) | refine q_ext (by rfl) (by rfl) ?_ | refine q_build (by rfl) ?_ | refine q_shl (by rfl) (by rfl) (by first | decide | omega) ?_ | refine q_shr (by rfl) (by rfl) (by first | decide | omega) ?_ | refine q_eqB (by rfl) (by rfl) ?_ | refine q_eqA (by rfl) (by rfl) (by rfl) ?_ | refine q_neg (by rfl) ?_ | refine q_not (by rfl) ?_ | refine q_pick_t (by rfl) (by rfl) ?_ | refine q_pick_f (by rfl) (by rfl) ?_ | refine q_slc ?_ | refine q_idx ?_ | refine q_fld (by rfl) (by rfl) ?_ | refine q_fldA (by rfl) (by rfl) ?_ | refine q_faddrI (by rfl) ?_ | refine q_mx (by rfl) (by rfl) ?_ | refine q_mn (by rfl) (by rfl) ?_ | refine q_fnc (by rfl) ?_ | refine q_chkP (by rfl) ?_ | refine q_chkF (by rfl) ?_)) | (refine x_load ?_; try (first | (refine l_ptr (by rfl) ?_; try (first | refine ld_box (by rfl) (by rfl) ?_ | refine ld_boxA (by rfl) (by rfl) ?_ | refine ld_box (last_live _ _) (by rfl) ?_ | refine ld_boxA (last_live _ _) (by rfl) ?_)) | (refine l_ipt (by rfl) ?_; try (first | refine ld_wd (by omega) (by omega) ?_ | refine ld_cellsA (Nat.le_of_ble_eq_true (by rfl)) ?_)))) | refine x_store_last (by rfl) (by rfl) (by rfl) (by rfl) (Nat.le_of_ble_eq_true (by rfl)) ?_ | (refine x_store (by rfl) (by rfl) ?_; try (first | refine st_box (by rfl) (by rfl) (by rfl) (Nat.le_of_ble_eq_true (by rfl)) ?_)) | refine x_call (by rfl) (by rfl) ?_ | refine x_box (by rfl) (by rfl) ?_ | refine x_alloc ?_ | refine x_buildSl (by rfl) ?_ | refine x_app ?_)) | (refine o_nil ?_; try (first | refine s_n ?_ | refine s_r ?_ | refine s_e ?_ | refine k_n ?_ | refine k_r ?_ | refine k_e (by rfl) ?_ | refine k_o (by rfl) ?_ | refine l_r ?_ | refine l_e ?_ | refine b_r ?_ | refine b_n ?_)) | refine o_guard (by rfl) ?_ | refine o_guardT (by rfl) ?_ | refine o_none ?_ | refine o_guardN (by rfl) ?_) | (refine g_f ?_; first | refine f_seq ?_ | refine f_reg ?_ | (refine f_cond (by rfl) ?_; try (first | refine c_t (by rfl) ?_ | refine c_f (by rfl) ?_)) | refine f_block ?_ | refine f_skip ?_ | refine f_ret ?_ | refine f_exit ?_ | refine f_regD0 ?_ | refine f_regD ?_) | (refine g_s ?_; first | refine s_n ?_ | refine s_r ?_ | refine s_e ?_) | (refine g_d ?_; first | (refine d_some (T := none) (by rfl) (by rfl) ?_; try (first | (refine xd_q (by rfl) ?_; try (first | refine q_mv (by rfl) ?_ | refine q_faddr (by rfl) ?_ | (refine q_len ?_; try (first | refine len_wd (by rfl) (by assumption) ?_ | refine len_sl (by rfl) ?_ | refine len_imm (by rfl) ?_ | refine len_nil (by rfl) ?_)) | (refine q_iad ?_; try (first | refine idx_wd (by rfl) (by rfl) (by assumption) (by omega) (by omega) ?_ | refine idx_ptr (by rfl) (by rfl) (by decide) (by decide) ?_ | refine idx_sl (by rfl) (by rfl) (by decide) (by decide) ?_ | refine idx_imm (by rfl) (by rfl) (by decide) (by decide) ?_)) | refine q_cm (by rfl) (by rfl) ?_ | refine q_ar (by rfl) (by rfl) (by rfl) ?_ | refine q_conv (by rfl) ?_ | (refine q_eqN ?_; try (first | refine eqn_nil (by rfl) ?_ | refine eqn_imm (by rfl) ?_ | refine eqn_sl (by rfl) ?_)) | refine q_ext (by rfl) (by rfl) ?_ | refine q_build (by rfl) ?_ | refine q_shl (by rfl) (by rfl) (by first | decide | omega) ?_ | refine q_shr (by rfl) (by rfl) (by first | decide | omega) ?_ | refine q_eqB (by rfl) (by rfl) ?_ | refine q_eqA (by rfl) (by rfl) (by rfl) ?_ | refine q_neg (by rfl) ?_ | refine q_not (by rfl) ?_ | refine q_pick_t (by rfl) (by rfl) ?_ | refine q_pick_f (by rfl) (by rfl) ?_ | refine q_slc ?_ | refine q_idx ?_ | refine q_fld (by rfl) (by rfl) ?_ | refine q_fldA (by rfl) (by rfl) ?_ | refine q_faddrI (by rfl) ?_ | refine q_mx (by rfl) (by rfl) ?_ | refine q_mn (by rfl) (by rfl) ?_ | refine q_fnc (by rfl) ?_ | refine q_chkP (by rfl) ?_ | refine q_chkF (by rfl) ?_)) | (refine xd_load ?_; try (first | (refine l_ptr (by rfl) ?_; try (first | refine ld_box (by rfl) (by rfl) ?_ | refine ld_boxA (by rfl) (by rfl) ?_ | refine ld_box (last_live _ _) (by rfl) ?_ | refine ld_boxA (last_live _ _) (by rfl) ?_)) | (refine l_ipt (by rfl) ?_; try (first | refine ld_wd (by omega) (by omega) ?_ | refine ld_cellsA (Nat.le_of_ble_eq_true (by rfl)) ?_)))) | refine xd_store_last (by rfl) (by rfl) (by rfl) (by rfl) (Nat.le_of_ble_eq_true (by rfl)) ?_ | (refine xd_store (by rfl) (by rfl) ?_; try (first | refine st_box (by rfl) (by rfl) (by rfl) (Nat.le_of_ble_eq_true (by rfl)) ?_)) | refine xd_call (by rfl) (by rfl) ?_ | refine xd_box (by rfl) (by rfl) (by rfl) ?_ | refine xd_alloc (by rfl) ?_ | refine xd_buildSl (by rfl) (by rfl) ?_)) | (refine d_some (by rfl) (by rfl) ?_; try (first | (refine xd_q (by rfl) ?_; try (first | refine q_mv (by rfl) ?_ | refine q_faddr (by rfl) ?_ | (refine q_len ?_; try (first | refine len_wd (by rfl) (by assumption) ?_ | refine len_sl (by rfl) ?_ | refine len_imm (by rfl) ?_ | refine len_nil (by rfl) ?_)) | (refine q_iad ?_; try (first | refine idx_wd (by rfl) (by rfl) (by assumption) (by omega) (by omega) ?_ | refine idx_ptr (by rfl) (by rfl) (by decide) (by decide) ?_ | refine idx_sl (by rfl) (by rfl) (by decide) (by decide) ?_ | refine idx_imm (by rfl) (by rfl) (by decide) (by decide) ?_)) | refine q_cm (by rfl) (by rfl) ?_ | refine q_ar (by rfl) (by rfl) (by rfl) ?_ | refine q_conv (by rfl) ?_ | (refine q_eqN ?_; try (first | refine eqn_nil (by rfl) ?_ | refine eqn_imm (by rfl) ?_ | refine eqn_sl (by rfl) ?_)) | refine q_ext (by rfl) (by rfl) ?_ | refine q_build (by rfl) ?_ | refine q_shl (by rfl) (by rfl) (by first | decide | omega) ?_ | refine q_shr (by rfl) (by rfl) (by first | decide | omega) ?_ | refine q_eqB (by rfl) (by rfl) ?_ | refine q_eqA (by rfl) (by rfl) (by rfl) ?_ | refine q_neg (by rfl) ?_ | refine q_not (by rfl) ?_ | refine q_pick_t (by rfl) (by rfl) ?_ | refine q_pick_f (by rfl) (by rfl) ?_ | refine q_slc ?_ | refine q_idx ?_ | refine q_fld (by rfl) (by rfl) ?_ | refine q_fldA (by rfl) (by rfl) ?_ | refine q_faddrI (by rfl) ?_ | refine q_mx (by rfl) (by rfl) ?_ | refine q_mn (by rfl) (by rfl) ?_ | refine q_fnc (by rfl) ?_ | refine q_chkP (by rfl) ?_ | refine q_chkF (by rfl) ?_)) | (refine xd_load ?_; try (first | (refine l_ptr (by rfl) ?_; try (first | refine ld_box (by rfl) (by rfl) ?_ | refine ld_boxA (by rfl) (by rfl) ?_ | refine ld_box (last_live _ _) (by rfl) ?_ | refine ld_boxA (last_live _ _) (by rfl) ?_)) | (refine l_ipt (by rfl) ?_; try (first | refine ld_wd (by omega) (by omega) ?_ | refine ld_cellsA (Nat.le_of_ble_eq_true (by rfl)) ?_)))) | refine xd_store_last (by rfl) (by rfl) (by rfl) (by rfl) (Nat.le_of_ble_eq_true (by rfl)) ?_ | (refine xd_store (by rfl) (by rfl) ?_; try (first | refine st_box (by rfl) (by rfl) (by rfl) (Nat.le_of_ble_eq_true (by rfl)) ?_)) | refine xd_call (by rfl) (by rfl) ?_ | refine xd_box (by rfl) (by rfl) (by rfl) ?_ | refine xd_alloc (by rfl) ?_ | refine xd_buildSl (by rfl) (by rfl) ?_)) | (refine d_nil ?_; try (first | refine s_n ?_ | refine s_r ?_ | refine s_e ?_ | refine k_n ?_ | refine k_r ?_ | refine k_e (by rfl) ?_ | refine k_o (by rfl) ?_ | refine l_r ?_ | refine l_e ?_ | refine b_r ?_ | refine b_n ?_)) | refine d_none (by rfl) (by rfl) ?_ | refine d_guard (by rfl) (by rfl) (by rfl) ?_) | (refine g_x ?_; first | (refine x_q (by rfl) ?_; try (first | refine q_mv (by rfl) ?_ | refine q_faddr (by rfl) ?_ | (refine q_len ?_; try (first | refine len_wd (by rfl) (by assumption) ?_ | refine len_sl (by rfl) ?_ | refine len_imm (by rfl) ?_ | refine len_nil (by rfl) ?_)) | (refine q_iad ?_; try (first | refine idx_wd (by rfl) (by rfl) (by assumption) (by omega) (by omega) ?_ | refine idx_ptr (by rfl) (by rfl) (by decide) (by decide) ?_ | refine idx_sl (by rfl) (by rfl) (by decide) (by decide) ?_ | refine idx_imm (by rfl) (by rfl) (by decide) (by decide) ?_)) | refine q_cm (by rfl) (by rfl) ?_ | refine q_ar (by rfl) (by rfl) (by rfl) ?_ | refine q_conv (by rfl) ?_ | (refine q_eqN ?_; try (first | refine eqn_nil (by rfl) ?_ | refine eqn_imm (by rfl) ?_ | refine eqn_sl (by rfl) ?_)) | refine q_ext (by rfl) (by rfl) ?_ | refine q_build (by rfl) ?_ | refine q_shl (by rfl) (by rfl) (by first | decide | omega) ?_ | refine q_shr (by rfl) (by rfl) (by first | decide | omega) ?_ | refine q_eqB (by rfl) (by rfl) ?_ | refine q_eqA (by rfl) (by rfl) (by rfl) ?_ | refine q_neg (by rfl) ?_ | refine q_not (by rfl) ?_ | refine q_pick_t (by rfl) (by rfl) ?_ | refine q_pick_f (by rfl) (by rfl) ?_ | refine q_slc ?_ | refine q_idx ?_ | refine q_fld (by rfl) (by rfl) ?_ | refine q_fldA (by rfl) (by rfl) ?_ | refine q_faddrI (by rfl) ?_ | refine q_mx (by rfl) (by rfl) ?_ | refine q_mn (by rfl) (by rfl) ?_ | refine q_fnc (by rfl) ?_ | refine q_chkP (by rfl) ?_ | refine q_chkF (by rfl) ?_)) | (refine x_load ?_; try (first | (refine l_ptr (by rfl) ?_; try (first | refine ld_box (by rfl) (by rfl) ?_ | refine ld_boxA (by rfl) (by rfl) ?_ | refine ld_box (last_live _ _) (by rfl) ?_ | refine ld_boxA (last_live _ _) (by rfl) ?_)) | (refine l_ipt (by rfl) ?_; try (first | refine ld_wd (by omega) (by omega) ?_ | refine ld_cellsA (Nat.le_of_ble_eq_true (by rfl)) ?_)))) | refine x_store_last (by rfl) (by rfl) (by rfl) (by rfl) (Nat.le_of_ble_eq_true (by rfl)) ?_ | (refine x_store (by rfl) (by rfl) ?_; try (first | refine st_box (by rfl) (by rfl) (by rfl) (Nat.le_of_ble_eq_true (by rfl)) ?_)) | refine x_call (by rfl) (by rfl) ?_ | refine x_box (by rfl) (by rfl) ?_ | refine x_alloc ?_ | refine x_buildSl (by rfl) ?_ | refine x_app ?_) | (refine g_q ?_; first | refine q_mv (by rfl) ?_ | refine q_faddr (by rfl) ?_ | (refine q_len ?_; try (first | refine len_wd (by rfl) (by assumption) ?_ | refine len_sl (by rfl) ?_ | refine len_imm (by rfl) ?_ | refine len_nil (by rfl) ?_)) | (refine q_iad ?_; try (first | refine idx_wd (by rfl) (by rfl) (by assumption) (by omega) (by omega) ?_ | refine idx_ptr (by rfl) (by rfl) (by decide) (by decide) ?_ | refine idx_sl (by rfl) (by rfl) (by decide) (by decide) ?_ | refine idx_imm (by rfl) (by rfl) (by decide) (by decide) ?_)) | refine q_cm (by rfl) (by rfl) ?_ | refine q_ar (by rfl) (by rfl) (by rfl) ?_ | refine q_conv (by rfl) ?_ | (refine q_eqN ?_; try (first | refine eqn_nil (by rfl) ?_ | refine eqn_imm (by rfl) ?_ | refine eqn_sl (by rfl) ?_)) | refine q_ext (by rfl) (by rfl) ?_ | refine q_build (by rfl) ?_ | refine q_shl (by rfl) (by rfl) (by first | decide | omega) ?_ | refine q_shr (by rfl) (by rfl) (by first | decide | omega) ?_ | refine q_eqB (by rfl) (by rfl) ?_ | refine q_eqA (by rfl) (by rfl) (by rfl) ?_ | refine q_neg (by rfl) ?_ | refine q_not (by rfl) ?_ | refine q_pick_t (by rfl) (by rfl) ?_ | refine q_pick_f (by rfl) (by rfl) ?_ | refine q_slc ?_ | refine q_idx ?_ | refine q_fld (by rfl) (by rfl) ?_ | refine q_fldA (by rfl) (by rfl) ?_ | refine q_faddrI (by rfl) ?_ | refine q_mx (by rfl) (by rfl) ?_ | refine q_mn (by rfl) (by rfl) ?_ | refine q_fnc (by rfl) ?_ | refine q_chkP (by rfl) ?_ | refine q_chkF (by rfl) ?_) | (refine g_c ?_; first | refine c_t (by rfl) ?_ | refine c_f (by rfl) ?_) | (refine g_k ?_; first | refine k_n ?_ | refine k_r ?_ | refine k_e (by rfl) ?_ | refine k_o (by rfl) ?_) | (refine g_lo ?_; first | refine l_r ?_ | refine l_e ?_) | (refine g_xd ?_; first | (refine xd_q (by rfl) ?_; try (first | refine q_mv (by rfl) ?_ | refine q_faddr (by rfl) ?_ | (refine q_len ?_; try (first | refine len_wd (by rfl) (by assumption) ?_ | refine len_sl (by rfl) ?_ | refine len_imm (by rfl) ?_ | refine len_nil (by rfl) ?_)) | (refine q_iad ?_; try (first | refine idx_wd (by rfl) (by rfl) (by assumption) (by omega) (by omega) ?_ | refine idx_ptr (by rfl) (by rfl) (by decide) (by decide) ?_ | refine idx_sl (by rfl) (by rfl) (by decide) (by decide) ?_ | refine idx_imm (by rfl) (by rfl) (by decide) (by decide) ?_)) | refine q_cm (by rfl) (by rfl) ?_ | refine q_ar (by rfl) (by rfl) (by rfl) ?_ | refine q_conv (by rfl) ?_ | (refine q_eqN ?_; try (first | refine eqn_nil (by rfl) ?_ | refine eqn_imm (by rfl) ?_ | refine eqn_sl (by rfl) ?_)) | refine q_ext (by rfl) (by rfl) ?_ | refine q_build (by rfl) ?_ | refine q_shl (by rfl) (by rfl) (by first | decide | omega) ?_ | refine q_shr (by rfl) (by rfl) (by first | decide | omega) ?_ | refine q_eqB (by rfl) (by rfl) ?_ | refine q_eqA (by rfl) (by rfl) (by rfl) ?_ | refine q_neg (by rfl) ?_ | refine q_not (by rfl) ?_ | refine q_pick_t (by rfl) (by rfl) ?_ | refine q_pick_f (by rfl) (by rfl) ?_ | refine q_slc ?_ | refine q_idx ?_ | refine q_fld (by rfl) (by rfl) ?_ | refine q_fldA (by rfl) (by rfl) ?_ | refine q_faddrI (by rfl) ?_ | refine q_mx (by rfl) (by rfl) ?_ | refine q_mn (by rfl) (by rfl) ?_ | refine q_fnc (by rfl) ?_ | refine q_chkP (by rfl) ?_ | refine q_chkF (by rfl) ?_)) | (refine xd_load ?_; try (first | (refine l_ptr (by rfl) ?_; try (first | refine ld_box (by rfl) (by rfl) ?_ | refine ld_boxA (by rfl) (by rfl) ?_ | refine ld_box (last_live _ _) (by rfl) ?_ | refine ld_boxA (last_live _ _) (by rfl) ?_)) | (refine l_ipt (by rfl) ?_; try (first | refine ld_wd (by omega) (by omega) ?_ | refine ld_cellsA (Nat.le_of_ble_eq_true (by rfl)) ?_)))) | refine xd_store_last (by rfl) (by rfl) (by rfl) (by rfl) (Nat.le_of_ble_eq_true (by rfl)) ?_ | (refine xd_store (by rfl) (by rfl) ?_; try (first | refine st_box (by rfl) (by rfl) (by rfl) (Nat.le_of_ble_eq_true (by rfl)) ?_)) | refine xd_call (by rfl) (by rfl) ?_ | refine xd_box (by rfl) (by rfl) (by rfl) ?_ | refine xd_alloc (by rfl) ?_ | refine xd_buildSl (by rfl) (by rfl) ?_) | (refine g_l ?_; first | (refine l_ptr (by rfl) ?_; try (first | refine ld_box (by rfl) (by rfl) ?_ | refine ld_boxA (by rfl) (by rfl) ?_ | refine ld_box (last_live _ _) (by rfl) ?_ | refine ld_boxA (last_live _ _) (by rfl) ?_)) | (refine l_ipt (by rfl) ?_; try (first | refine ld_wd (by omega) (by omega) ?_ | refine ld_cellsA (Nat.le_of_ble_eq_true (by rfl)) ?_))) | (refine g_len ?_; first | refine len_wd (by rfl) (by assumption) ?_ | refine len_sl (by rfl) ?_ | refine len_imm (by rfl) ?_ | refine len_nil (by rfl) ?_) | (refine g_nil ?_; first | refine eqn_nil (by rfl) ?_ | refine eqn_imm (by rfl) ?_ | refine eqn_sl (by rfl) ?_) | (refine g_iad ?_; first | refine idx_wd (by rfl) (by rfl) (by assumption) (by omega) (by omega) ?_ | refine idx_ptr (by rfl) (by rfl) (by decide) (by decide) ?_ | refine idx_sl (by rfl) (by rfl) (by decide) (by decide) ?_ | refine idx_imm (by rfl) (by rfl) (by decide) (by decide) ?_) | (refine g_box ?_; first | refine ld_box (by rfl) (by rfl) ?_ | refine ld_boxA (by rfl) (by rfl) ?_ | refine ld_box (last_live _ _) (by rfl) ?_ | refine ld_boxA (last_live _ _) (by rfl) ?_) | (refine g_cells ?_; first | refine ld_wd (by omega) (by omega) ?_ | refine ld_cellsA (Nat.le_of_ble_eq_true (by rfl)) ?_) | (refine g_st ?_; first | refine st_box (by rfl) (by rfl) (by rfl) (Nat.le_of_ble_eq_true (by rfl)) ?_) | (refine g_b ?_; first | refine b_r ?_ | refine b_n ?_) | (refine g_r ?_; first | refine r_tmp (by rfl) ?_ | refine r_cell ?_ | refine r_nil ?_))
  exact hgo.out) : A := h ⟨k⟩
/-- As go2; a call that stands behind all else of its region may see boxes. -/
theorem go3 {A B : Prop} (k : B) (h : Held B → A := by
  intro hgo
  repeat (first | (refine g_o ?_; first | (refine o_some ?_; try (first | (refine x_q (by rfl) ?_; try (first | refine q_mv (by rfl) ?_ | refine q_faddr (by rfl) ?_ | (refine q_len ?_; try (first | refine len_wd (by rfl) (by assumption) ?_ | refine len_sl (by rfl) ?_ | refine len_imm (by rfl) ?_ | refine len_nil (by rfl) ?_)) | (refine q_iad ?_; try (first | refine idx_wd (by rfl) (by rfl) (by assumption) (by omega) (by omega) ?_ | refine idx_ptr (by rfl) (by rfl) (by decide) (by decide) ?_ | refine idx_sl (by rfl) (by rfl) (by decide) (by decide) ?_ | refine idx_imm (by rfl) (by rfl) (by decide) (by decide) ?_)) | refine q_cm (by rfl) (by rfl) ?_ | refine q_ar (by rfl) (by rfl) (by rfl) ?_ | refine q_conv (by rfl) ?_ | (refine q_eqN ?_; try (first | refine eqn_nil (by rfl) ?_ | refine eqn_imm (by rfl) ?_ | refine eqn_sl (by rfl) ?_)) | refine q_ext (by rfl) (by rfl) ?_ | refine q_build (by rfl) ?_ | refine q_shl (by rfl) (by rfl) (by first | decide | omega) ?_ | refine q_shr (by rfl) (by rfl) (by first | decide | omega) ?_ | refine q_eqB (by rfl) (by rfl) ?_ | refine q_eqA (by rfl) (by rfl) (by rfl) ?_ | refine q_neg (by rfl) ?_ | refine q_not (by rfl) ?_ | refine q_pick_t (by rfl) (by rfl) ?_ | refine q_pick_f (by rfl) (by rfl) ?_ | refine q_slc ?_ | refine q_idx ?_ | refine q_fld (by rfl) (by rfl) ?_ | refine q_fldA (by rfl) (by rfl) ?_ | refine q_faddrI (by rfl) ?_ | refine q_mx (by rfl) (by rfl) ?_ | refine q_mn (by rfl) (by rfl) ?_ | refine q_fnc (by rfl) ?_ | refine q_chkP (by rfl) ?_ | refine q_chkF (by rfl) ?_)) | (refine x_load ?_; try (first | (refine l_ptr (by rfl) ?_; try (first | refine ld_box (by rfl) (by rfl) ?_ | refine ld_boxA (by rfl) (by rfl) ?_ | refine ld_box (last_live _ _) (by rfl) ?_ | refine ld_boxA (last_live _ _) (by rfl) ?_)) | (refine l_ipt (by rfl) ?_; try (first | refine ld_wd (by omega) (by omega) ?_ | refine ld_cellsA (Nat.le_of_ble_eq_true (by rfl)) ?_)))) | refine x_store_last (by rfl) (by rfl) (by rfl) (by rfl) (Nat.le_of_ble_eq_true (by rfl)) ?_ | (refine x_store (by rfl) (by rfl) ?_; try (first | refine st_box (by rfl) (by rfl) (by rfl) (Nat.le_of_ble_eq_true (by rfl)) ?_)) | refine x_call (by rfl) (by rfl) ?_ | refine x_box (by rfl) (by rfl) ?_ | refine x_alloc ?_ | refine x_buildSl (by rfl) ?_ | refine x_app ?_)) | (refine o_nil ?_; try (first | refine s_n ?_ | refine s_r ?_ | refine s_e ?_ | refine k_n ?_ | refine k_r ?_ | refine k_e (by rfl) ?_ | refine k_o (by rfl) ?_ | refine l_r ?_ | refine l_e ?_ | refine b_r ?_ | refine b_n ?_)) | refine o_guard (by rfl) ?_ | refine o_guardT (by rfl) ?_ | refine o_none ?_ | refine o_guardN (by rfl) ?_) | (refine g_f ?_; first | refine f_seq ?_ | refine f_reg ?_ | (refine f_cond (by rfl) ?_; try (first | refine c_t (by rfl) ?_ | refine c_f (by rfl) ?_)) | refine f_block ?_ | refine f_skip ?_ | refine f_ret ?_ | refine f_exit ?_ | refine f_regD0 ?_ | refine f_regD ?_) | (refine g_s ?_; first | refine s_n ?_ | refine s_r ?_ | refine s_e ?_) | (refine g_d ?_; first | refine d_late (T := none) (by rfl) (by rfl) (by rfl) ?_ | (refine d_some (T := none) (by rfl) (by rfl) ?_; try (first | (refine xd_q (by rfl) ?_; try (first | refine q_mv (by rfl) ?_ | refine q_faddr (by rfl) ?_ | (refine q_len ?_; try (first | refine len_wd (by rfl) (by assumption) ?_ | refine len_sl (by rfl) ?_ | refine len_imm (by rfl) ?_ | refine len_nil (by rfl) ?_)) | (refine q_iad ?_; try (first | refine idx_wd (by rfl) (by rfl) (by assumption) (by omega) (by omega) ?_ | refine idx_ptr (by rfl) (by rfl) (by decide) (by decide) ?_ | refine idx_sl (by rfl) (by rfl) (by decide) (by decide) ?_ | refine idx_imm (by rfl) (by rfl) (by decide) (by decide) ?_)) | refine q_cm (by rfl) (by rfl) ?_ | refine q_ar (by rfl) (by rfl) (by rfl) ?_ | refine q_conv (by rfl) ?_ | (refine q_eqN ?_; try (first | refine eqn_nil (by rfl) ?_ | refine eqn_imm (by rfl) ?_ | refine eqn_sl (by rfl) ?_)) | refine q_ext (by rfl) (by rfl) ?_ | refine q_build (by rfl) ?_ | refine q_shl (by rfl) (by rfl) (by first | decide | omega) ?_ | refine q_shr (by rfl) (by rfl) (by first | decide | omega) ?_ | refine q_eqB (by rfl) (by rfl) ?_ | refine q_eqA (by rfl) (by rfl) (by rfl) ?_ | refine q_neg (by rfl) ?_ | refine q_not (by rfl) ?_ | refine q_pick_t (by rfl) (by rfl) ?_ | refine q_pick_f (by rfl) (by rfl) ?_ | refine q_slc ?_ | refine q_idx ?_ | refine q_fld (by rfl) (by rfl) ?_ | refine q_fldA (by rfl) (by rfl) ?_ | refine q_faddrI (by rfl) ?_ | refine q_mx (by rfl) (by rfl) ?_ | refine q_mn (by rfl) (by rfl) ?_ | refine q_fnc (by rfl) ?_ | refine q_chkP (by rfl) ?_ | refine q_chkF (by rfl) ?_)) | (refine xd_load ?_; try (first | (refine l_ptr (by rfl) ?_; try (first | refine ld_box (by rfl) (by rfl) ?_ | refine ld_boxA (by rfl) (by rfl) ?_ | refine ld_box (last_live _ _) (by rfl) ?_ | refine ld_boxA (last_live _ _) (by rfl) ?_)) | (refine l_ipt (by rfl) ?_; try (first | refine ld_wd (by omega) (by omega) ?_ | refine ld_cellsA (Nat.le_of_ble_eq_true (by rfl)) ?_)))) | refine xd_store_last (by rfl) (by rfl) (by rfl) (by rfl) (Nat.le_of_ble_eq_true (by rfl)) ?_ | (refine xd_store (by rfl) (by rfl) ?_; try (first | refine st_box (by rfl) (by rfl) (by rfl) (Nat.le_of_ble_eq_true (by rfl)) ?_)) | refine xd_call (by rfl) (by rfl) ?_ | refine xd_box (by rfl) (by rfl) (by rfl) ?_ | refine xd_alloc (by rfl) ?_ | refine xd_buildSl (by rfl) (by rfl) ?_)) | (refine d_some (by rfl) (by rfl) ?_; try (first | (refine xd_q (by rfl) ?_; try (first | refine q_mv (by rfl) ?_ | refine q_faddr (by rfl) ?_ | (refine q_len ?_; try (first | refine len_wd (by rfl) (by assumption) ?_ | refine len_sl (by rfl) ?_ | refine len_imm (by rfl) ?_ | refine len_nil (by rfl) ?_)) | (refine q_iad ?_; try (first | refine idx_wd (by rfl) (by rfl) (by assumption) (by omega) (by omega) ?_ | refine idx_ptr (by rfl) (by rfl) (by decide) (by decide) ?_ | refine idx_sl (by rfl) (by rfl) (by decide) (by decide) ?_ | refine idx_imm (by rfl) (by rfl) (by decide) (by decide) ?_)) | refine q_cm (by rfl) (by rfl) ?_ | refine q_ar (by rfl) (by rfl) (by rfl) ?_ | refine q_conv (by rfl) ?_ | (refine q_eqN ?_; try (first | refine eqn_nil (by rfl) ?_ | refine eqn_imm (by rfl) ?_ | refine eqn_sl (by rfl) ?_)) | refine q_ext (by rfl) (by rfl) ?_ | refine q_build (by rfl) ?_ | refine q_shl (by rfl) (by rfl) (by first | decide | omega) ?_ | refine q_shr (by rfl) (by rfl) (by first | decide | omega) ?_ | refine q_eqB (by rfl) (by rfl) ?_ | refine q_eqA (by rfl) (by rfl) (by rfl) ?_ | refine q_neg (by rfl) ?_ | refine q_not (by rfl) ?_ | refine q_pick_t (by rfl) (by rfl) ?_ | refine q_pick_f (by rfl) (by rfl) ?_ | refine q_slc ?_ | refine q_idx ?_ | refine q_fld (by rfl) (by rfl) ?_ | refine q_fldA (by rfl) (by rfl) ?_ | refine q_faddrI (by rfl) ?_ | refine q_mx (by rfl) (by rfl) ?_ | refine q_mn (by rfl) (by rfl) ?_ | refine q_fnc (by rfl) ?_ | refine q_chkP (by rfl) ?_ | refine q_chkF (by rfl) ?_)) | (refine xd_load ?_; try (first | (refine l_ptr (by rfl) ?_; try (first | refine ld_box (by rfl) (by rfl) ?_ | refine ld_boxA (by rfl) (by rfl) ?_ | refine ld_box (last_live _ _) (by rfl) ?_ | refine ld_boxA (last_live _ _) (by rfl) ?_)) | (refine l_ipt (by rfl) ?_; try (first | refine ld_wd (by omega) (by omega) ?_ | refine ld_cellsA (Nat.le_of_ble_eq_true (by rfl)) ?_)))) | refine xd_store_last (by rfl) (by rfl) (by rfl) (by rfl) (Nat.le_of_ble_eq_true (by rfl)) ?_ | (refine xd_store (by rfl) (by rfl) ?_; try (first | refine st_box (by rfl) (by rfl) (by rfl) (Nat.le_of_ble_eq_true (by rfl)) ?_)) | refine xd_call (by rfl) (by rfl) ?_ | refine xd_box (by rfl) (by rfl) (by rfl) ?_ | refine xd_alloc (by rfl) ?_ | refine xd_buildSl (by rfl) (by rfl) ?_)) | (refine d_nil ?_; try (first | refine s_n ?_ | refine s_r ?_ | refine s_e ?_ | refine k_n ?_ | refine k_r ?_ | refine k_e (by rfl) ?_ | refine k_o (by rfl) ?_ | refine l_r ?_ | refine l_e ?_ | refine b_r ?_ | refine b_n ?_)) | refine d_none (by rfl) (by rfl) ?_ | refine d_guard (by rfl) (by rfl) (by rfl) ?_) | (refine g_x ?_; first | (refine x_q (by rfl) ?_; try (first | refine q_mv (by rfl) ?_ | refine q_faddr (by rfl) ?_ | (refine q_len ?_; try (first | refine len_wd (by rfl) (by assumption) ?_ | refine len_sl (by rfl) ?_ | refine len_imm (by rfl) ?_ | refine len_nil (by rfl) ?_)) | (refine q_iad ?_; try (first | refine idx_wd (by rfl) (by rfl) (by assumption) (by omega) (by omega) ?_ | refine idx_ptr (by rfl) (by rfl) (by decide) (by decide) ?_ | refine idx_sl (by rfl) (by rfl) (by decide) (by decide) ?_ | refine idx_imm (by rfl) (by rfl) (by decide) (by decide) ?_)) | refine q_cm (by rfl) (by rfl) ?_ | refine q_ar (by rfl) (by rfl) (by rfl) ?_ | refine q_conv (by rfl) ?_ | (refine q_eqN ?_; try (first | refine eqn_nil (by rfl) ?_ | refine eqn_imm (by rfl) ?_ | refine eqn_sl (by rfl) ?_)) | refine q_ext (by rfl) (by rfl) ?_ | refine q_build (by rfl) ?_ | refine q_shl (by rfl) (by rfl) (by first | decide | omega) ?_ | refine q_shr (by rfl) (by rfl) (by first | decide | omega) ?_ | refine q_eqB (by rfl) (by rfl) ?_ | refine q_eqA (by rfl) (by rfl) (by rfl) ?_ | refine q_neg (by rfl) ?_ | refine q_not (by rfl) ?_ | refine q_pick_t (by rfl) (by rfl) ?_ | refine q_pick_f (by rfl) (by rfl) ?_ | refine q_slc ?_ | refine q_idx ?_ | refine q_fld (by rfl) (by rfl) ?_ | refine q_fldA (by rfl) (by rfl) ?_ | refine q_faddrI (by rfl) ?_ | refine q_mx (by rfl) (by rfl) ?_ | refine q_mn (by rfl) (by rfl) ?_ | refine q_fnc (by rfl) ?_ | refine q_chkP (by rfl) ?_ | refine q_chkF (by rfl) ?_)) | (refine x_load ?_; try (first | (refine l_ptr (by rfl) ?_; try (first | refine ld_box (by rfl) (by rfl) ?_ | refine ld_boxA (by rfl) (by rfl) ?_ | refine ld_box (last_live _ _) (by rfl) ?_ | refine ld_boxA (last_live _ _) (by rfl) ?_)) | (refine l_ipt (by rfl) ?_; try (first | refine ld_wd (by omega) (by omega) ?_ | refine ld_cellsA (Nat.le_of_ble_eq_true (by rfl)) ?_)))) | refine x_store_last (by rfl) (by rfl) (by rfl) (by rfl) (Nat.le_of_ble_eq_true (by rfl)) ?_ | (refine x_store (by rfl) (by rfl) ?_; try (first | refine st_box (by rfl) (by rfl) (by rfl) (Nat.le_of_ble_eq_true (by rfl)) ?_)) | refine x_call (by rfl) (by rfl) ?_ | refine x_box (by rfl) (by rfl) ?_ | refine x_alloc ?_ | refine x_buildSl (by rfl) ?_ | refine x_app ?_) | (refine g_q ?_; first | refine q_mv (by rfl) ?_ | refine q_faddr (by rfl) ?_ | (refine q_len ?_; try (first | refine len_wd (by rfl) (by assumption) ?_ | refine len_sl (by rfl) ?_ | refine len_imm (by rfl) ?_ | refine len_nil (by rfl) ?_)) | (refine q_iad ?_; try (first | refine idx_wd (by rfl) (by rfl) (by assumption) (by omega) (by omega) ?_ | refine idx_ptr (by rfl) (by rfl) (by decide) (by decide) ?_ | refine idx_sl (by rfl) (by rfl) (by decide) (by decide) ?_ | refine idx_imm (by rfl) (by rfl) (by decide) (by decide) ?_)) | refine q_cm (by rfl) (by rfl) ?_ | refine q_ar (by rfl) (by rfl) (by rfl) ?_ | refine q_conv (by rfl) ?_ | (refine q_eqN ?_; try (first | refine eqn_nil (by rfl) ?_ | refine eqn_imm (by rfl) ?_ | refine eqn_sl (by rfl) ?_)) | refine q_ext (by rfl) (by rfl) ?_ | refine q_build (by rfl) ?_ | refine q_shl (by rfl) (by rfl) (by first | decide | omega) ?_ | refine q_shr (by rfl) (by rfl) (by first | decide | omega) ?_ | refine q_eqB (by rfl) (by rfl) ?_ | refine q_eqA (by rfl) (by rfl) (by rfl) ?_ | refine q_neg (by rfl) ?_ | refine q_not (by rfl) ?_ | refine q_pick_t (by rfl) (by rfl) ?_ | refine q_pick_f (by rfl) (by rfl) ?_ | refine q_slc ?_ | refine q_idx ?_ | refine q_fld (by rfl) (by rfl) ?_ | refine q_fldA (by rfl) (by rfl) ?_ | refine q_faddrI (by rfl) ?_ | refine q_mx (by rfl) (by rfl) ?_ | refine q_mn (by rfl) (by rfl) ?_ | refine q_fnc (by rfl) ?_ | refine q_chkP (by rfl) ?_ | refine q_chkF (by rfl) ?_) | (refine g_c ?_; first | refine c_t (by rfl) ?_ | refine c_f (by rfl) ?_) | (refine g_k ?_; first | refine k_n ?_ | refine k_r ?_ | refine k_e (by rfl) ?_ | refine k_o (by rfl) ?_) | (refine g_lo ?_; first | refine l_r ?_ | refine l_e ?_) | (refine g_xd ?_; first | (refine xd_q (by rfl) ?_; try (first | refine q_mv (by rfl) ?_ | refine q_faddr (by rfl) ?_ | (refine q_len ?_; try (first | refine len_wd (by rfl) (by assumption) ?_ | refine len_sl (by rfl) ?_ | refine len_imm (by rfl) ?_ | refine len_nil (by rfl) ?_)) | (refine q_iad ?_; try (first | refine idx_wd (by rfl) (by rfl) (by assumption) (by omega) (by omega) ?_ | refine idx_ptr (by rfl) (by rfl) (by decide) (by decide) ?_ | refine idx_sl (by rfl) (by rfl) (by decide) (by decide) ?_ | refine idx_imm (by rfl) (by rfl) (by decide) (by decide) ?_)) | refine q_cm (by rfl) (by rfl) ?_ | refine q_ar (by rfl) (by rfl) (by rfl) ?_ | refine q_conv (by rfl) ?_ | (refine q_eqN ?_; try (first | refine eqn_nil (by rfl) ?_ | refine eqn_imm (by rfl) ?_ | refine eqn_sl (by rfl) ?_)) | refine q_ext (by rfl) (by rfl) ?_ | refine q_build (by rfl) ?_ | refine q_shl (by rfl) (by rfl) (by first | decide | omega) ?_ | refine q_shr (by rfl) (by rfl) (by first | decide | omega) ?_ | refine q_eqB (by rfl) (by rfl) ?_ | refine q_eqA (by rfl) (by rfl) (by rfl) ?_ | refine q_neg (by rfl) ?_ | refine q_not (by rfl) ?_ | refine q_pick_t (by rfl) (by rfl) ?_ | refine q_pick_f (by rfl) (by rfl) ?_ | refine q_slc ?_ | refine q_idx ?_ | refine q_fld (by rfl) (by rfl) ?_ | refine q_fldA (by rfl) (by rfl) ?_ | refine q_faddrI (by rfl) ?_ | refine q_mx (by rfl) (by rfl) ?_ | refine q_mn (by rfl) (by rfl) ?_ | refine q_fnc (by rfl) ?_ | refine q_chkP (by rfl) ?_ | refine q_chkF (by rfl) ?_)) | (refine xd_load ?_; try (first | (refine l_ptr (by rfl) ?_; try (first | refine ld_box (by rfl) (by rfl) ?_ | refine ld_boxA (by rfl) (by rfl) ?_ | refine ld_box (last_live _ _) (by rfl) ?_ | refine ld_boxA (last_live _ _) (by rfl) ?_)) | (refine l_ipt (by rfl) ?_; try (first | refine ld_wd (by omega) (by omega) ?_ | refine ld_cellsA (Nat.le_of_ble_eq_true (by rfl)) ?_)))) | refine xd_store_last (by rfl) (by rfl) (by rfl) (by rfl) (Nat.le_of_ble_eq_true (by rfl)) ?_ | (refine xd_store (by rfl) (by rfl) ?_; try (first | refine st_box (by rfl) (by rfl) (by rfl) (Nat.le_of_ble_eq_true (by rfl)) ?_)) | refine xd_call (by rfl) (by rfl) ?_ | refine xd_box (by rfl) (by rfl) (by rfl) ?_ | refine xd_alloc (by rfl) ?_ | refine xd_buildSl (by rfl) (by rfl) ?_) | (refine g_l ?_; first | (refine l_ptr (by rfl) ?_; try (first | refine ld_box (by rfl) (by rfl) ?_ | refine ld_boxA (by rfl) (by rfl) ?_ | refine ld_box (last_live _ _) (by rfl) ?_ | refine ld_boxA (last_live _ _) (by rfl) ?_)) | (refine l_ipt (by rfl) ?_; try (first | refine ld_wd (by omega) (by omega) ?_ | refine ld_cellsA (Nat.le_of_ble_eq_true (by rfl)) ?_))) | (refine g_len ?_; first | refine len_wd (by rfl) (by assumption) ?_ | refine len_sl (by rfl) ?_ | refine len_imm (by rfl) ?_ | refine len_nil (by rfl) ?_) | (refine g_nil ?_; first | refine eqn_nil (by rfl) ?_ | refine eqn_imm (by rfl) ?_ | refine eqn_sl (by rfl) ?_) | (refine g_iad ?_; first | refine idx_wd (by rfl) (by rfl) (by assumption) (by omega) (by omega) ?_ | refine idx_ptr (by rfl) (by rfl) (by decide) (by decide) ?_ | refine idx_sl (by rfl) (by rfl) (by decide) (by decide) ?_ | refine idx_imm (by rfl) (by rfl) (by decide) (by decide) ?_) | (refine g_box ?_; first | refine ld_box (by rfl) (by rfl) ?_ | refine ld_boxA (by rfl) (by rfl) ?_ | refine ld_box (last_live _ _) (by rfl) ?_ | refine ld_boxA (last_live _ _) (by rfl) ?_) | (refine g_cells ?_; first | refine ld_wd (by omega) (by omega) ?_ | refine ld_cellsA (Nat.le_of_ble_eq_true (by rfl)) ?_) | (refine g_st ?_; first | refine st_box (by rfl) (by rfl) (by rfl) (Nat.le_of_ble_eq_true (by rfl)) ?_) | (refine g_b ?_; first | refine b_r ?_ | refine b_n ?_) | (refine g_r ?_; first | refine r_tmp (by rfl) ?_ | refine r_cell ?_ | refine r_nil ?_))
  exact hgo.out) : A := h ⟨k⟩

theorem ref01_parts {c d : C} {a b : List Nat} (hc : Wd c a) (hd : Wd d b) (na : Norm a) (nb : Norm b) (hb0 : b ≠ []) (hl : a.length < 1073741824) : semC Tryz.prog n_ref01_parts [.c c, .c d] (PartsK (val a) (val b)) := by
  rcases Nat.lt_or_ge (val a) (val b) with hv | hv
  · refine semC_of_awpF ok_ref01_parts rfl (show HFVs [.c c, .c d] from ⟨hc.hf, hd.hf, trivial⟩) ?_
    refine go ?_
    refine semH_of_semC (ref01_order hc hd na.1 nb.1 (by omega)) (fun u hu => ?_)
    obtain ⟨r, rfl, r1, r2, r3⟩ := hu
    have hr : r < 0 := by
      rcases Nat.lt_trichotomy a.length b.length with h | h | h
      · rw [r1 h]
        decide
      · rw [r3 h]
        unfold sgn
        split
        · omega
        · omega
      · have := norm_lt nb na h
        omega
    refine go ?_
    cases hq : compare' Cm.lss r 0
    · simp [compare'] at hq
      omega
    · refine go ?_
      exact PartsK.fz .nil .nil (by rw [Nat.div_eq_of_lt hv]; rfl) hc na (by rw [Nat.mod_eq_of_lt hv])
  · rcases Nat.lt_or_ge b.length 2 with h | h
    · have hl1 : 0 < b.length := List.length_pos_iff.2 hb0
      match b, h, hl1 with
      | [x], _, _ => exact ref01_parts_short hc hd na nb hl (by omega)
    · exact ref01_parts_long hc hd na nb h hl (by omega)

def GcdK (A B : Nat) (u : V) : Prop := ∃ c l, u = .c c ∧ Wd c l ∧ Norm l ∧ val l = Nat.gcd A B
theorem ref01_divisor {c d : C} {a b : List Nat} (hc : Wd c a) (hd : Wd d b) (na : Norm a) (nb : Norm b) (hl : a.length < 1073741824) (hl' : b.length < 1073741824) : semC Tryz.prog n_ref01_divisor [.c c, .c d] (GcdK (val a) (val b)) := by
  refine semC_of_awpF ok_ref01_divisor rfl (show HFVs [.c c, .c d] from ⟨hc.hf, hd.hf, trivial⟩) ?_
  refine go ?_
  refine f_loop (fun n vs H => ∃ c' d' x y, vs = [.c c', .c d'] ∧ H = [] ∧ n = val y ∧ Wd c' x ∧ Wd d' y ∧ Norm x ∧ Norm y ∧ x.length < 1073741824 ∧ y.length < 1073741824 ∧ Nat.gcd (val x) (val y) = Nat.gcd (val a) (val b)) (by rfl) ⟨c, d, a, b, rfl, rfl, rfl, hc, hd, na, nb, hl, hl', rfl⟩ ?_
  rintro n vs H ⟨c', d', x, y, rfl, rfl, rfl, hc', hd', nx, ny, lx, ly, hg⟩
  refine go ?_
  cases hq : compare' Cm.gtr (y.length : Int) 0
  · simp [compare'] at hq
    subst hq
    refine go ?_
    exact ⟨_, .c (.hf hc'.hf), c', x, rfl, hc', nx, by rw [← hg]; simp [val]⟩
  · simp only [compare', dec_true] at hq
    have hy : y ≠ [] := fun e => by rw [e] at hq; simp at hq
    refine go ?_
    refine semH_of_semC (ref01_parts hc' hd' nx ny hy lx) (fun u hu => ?_)
    obtain ⟨c1, l1, d1, m1, rfl, w1, o1, v1, w2, o2, v2⟩ := hu
    refine go ?_
    have hp := val_pos ny hy
    have hlt : val m1 < val y := by rw [v2]; exact Nat.mod_lt _ hp
    refine l_n (by rfl) hlt ⟨_, _, y, m1, rfl, rfl, rfl, hd', w2, ny, o2, ly, ?_, ?_⟩
    · have := norm_len (n := y.length) o2 (Nat.lt_trans hlt (val_lt ny.1))
      omega
    · rw [v2, gcd_step, hg]

set_option maxHeartbeats 1000000 in
theorem ref01_ratio {cs ds : List C} {n d : Int} {k : Nat} (hn : IsW cs n) (hd : IsW ds d) (sn : Sz k n) (sd : Sz k d) (hk : k < 1073741824) (h0 : d ≠ 0) : semC Tryz.prog n_ref01_ratio [.agg cs, .agg ds] (RedK n d) := by
  refine semC_of_awpF ok_ref01_ratio rfl (show HFVs [.agg cs, .agg ds] from ⟨hn.hf, hd.hf, trivial⟩) ?_
  unfold Sz at sn sd
  obtain ⟨c1, l1, m1, rfl, w1, o1, g1, e1⟩ := hn.two
  obtain ⟨c2, l2, m2, rfl, w2, o2, g2, e2⟩ := hd.two
  refine go2 ?_
  refine semH_of_semC (ref01_whole_isNought hd) (fun u hu => ?_)
  obtain ⟨z, rfl, hz⟩ := hu
  cases z
  case true => exact absurd (hz.1 rfl) h0
  refine go2 ?_
  cases m2
  case false =>
    have hp : 0 < d := by
      have := val_nil_iff o2
      rcases Nat.eq_zero_or_pos (val l2) with h | h
      · rw [h] at e2
        exact absurd e2 h0
      · rw [e2]
        simp only [amt, cond_false]
        omega
    have rel : ∀ a b : Int, a * d = n * b → a * d = n * b := fun _ _ h => h
    have en : n.natAbs = n.natAbs := rfl
    have ed : d.natAbs = d.natAbs := rfl
    have hn1 := hn
    have hd1 := hd
    refine go2 ?_
    have a1 : l1.length ≤ k := norm_len o1 (by rw [← en, e1, amt_abs] at sn; exact sn)
    have a2 : l2.length ≤ k := norm_len o2 (by rw [← ed, e2, amt_abs] at sd; exact sd)
    refine semH_of_semC (ref01_isOne hd1) (fun u hu => ?_)
    obtain ⟨z, rfl, hz1⟩ := hu
    cases z
    case true =>
      refine go2 ?_
      have h1 := hz1.1 rfl
      refine RedK.fz (.of hn1 hd1 (by omega)) hp ?_ (rel _ _ rfl) (by omega) (by omega)
      rw [h1]
      simp
    refine go2 ?_
    refine semH_of_semC (ref01_divisor w1 w2 o1 o2 (by omega) (by omega)) (fun u hu => ?_)
    obtain ⟨cg, lg, rfl, wg, og, vg⟩ := hu
    have y0 : 0 < val l2 := by
      rw [e2] at hp
      simp only [amt, cond_false] at hp
      omega
    have g0 : 0 < val lg := by
      rw [vg]
      exact Nat.gcd_pos_of_pos_right _ y0
    have gn : lg ≠ [] := fun e => by
      rw [e] at g0
      exact absurd g0 (by decide)
    have lg0 : 0 < lg.length := List.length_pos_iff.2 gn
    refine go2 ?_
    cases hq : compare' Cm.neq (lg.length : Int) 1
    case false =>
      simp only [compare', dec_false] at hq
      have lg1 : lg.length = 1 := by omega
      refine go2 ?_
      cases hq2 : compare' Cm.neq ((at0 lg (0 : Int).toNat : Nat) : Int) 1
      case false =>
        simp only [compare', dec_false] at hq2
        have hg1 : val lg = 1 := by
          rw [len_one lg1]
          have : at0 lg (0 : Int).toNat = at0 lg 0 := rfl
          omega
        refine go2 ?_
        refine RedK.fz (.of hn1 hd1 (by omega)) hp ?_ (rel _ _ rfl) (by omega) (by omega)
        rw [e1, e2, ← hg1, vg]
        exact gcd_amt
      case true =>
        refine go2 ?_
        refine semH_of_semC (ref01_parts w1 wg o1 og gn (by omega)) (fun u hu => ?_)
        obtain ⟨ca, la, cb, lb, rfl, wa, oa, va, wb, ob, vb⟩ := hu
        refine go2 ?_
        refine semH_of_semC (ref01_parts w2 wg o2 og gn (by omega)) (fun u hu => ?_)
        obtain ⟨cc, lc, cd, ld, rfl, wc, oc, vc, wd, od, vd⟩ := hu
        refine go2 ?_
        refine semH_of_semC (ref01_signed m1 wa oa) (fun u hu => ?_)
        obtain ⟨es, rfl, he⟩ := hu
        obtain ⟨c5, l5, m5, rfl, _⟩ := he.two
        refine go2 ?_
        refine semH_of_semC (ref01_signed false wc oc) (fun u hu => ?_)
        obtain ⟨fs, rfl, hf⟩ := hu
        obtain ⟨c6, l6, m6, rfl, _⟩ := hf.two
        refine go2 ?_
        rw [va, vg] at he
        rw [vc, vg] at hf
        obtain ⟨f1, f2, f3, f4, f5⟩ := red_div (m := m1) (x := val l1) y0
        have f3' : (0 : Int) < amt false (val l2 / (val l1).gcd (val l2)) := by
          simp only [amt, cond_false]
          omega
        refine RedK.fz (.of he hf (by omega)) f3' f1 (rel _ _ (by rw [e1, e2]; exact f2)) ?_ ?_
        · rw [amt_abs, ← en, e1, amt_abs]
          exact f4
        · rw [amt_abs, ← ed, e2, amt_abs]
          exact f5
    case true =>
      refine go2 ?_
      refine semH_of_semC (ref01_parts w1 wg o1 og gn (by omega)) (fun u hu => ?_)
      obtain ⟨ca, la, cb, lb, rfl, wa, oa, va, wb, ob, vb⟩ := hu
      refine go2 ?_
      refine semH_of_semC (ref01_parts w2 wg o2 og gn (by omega)) (fun u hu => ?_)
      obtain ⟨cc, lc, cd, ld, rfl, wc, oc, vc, wd, od, vd⟩ := hu
      refine go2 ?_
      refine semH_of_semC (ref01_signed m1 wa oa) (fun u hu => ?_)
      obtain ⟨es, rfl, he⟩ := hu
      obtain ⟨c5, l5, m5, rfl, _⟩ := he.two
      refine go2 ?_
      refine semH_of_semC (ref01_signed false wc oc) (fun u hu => ?_)
      obtain ⟨fs, rfl, hf⟩ := hu
      obtain ⟨c6, l6, m6, rfl, _⟩ := hf.two
      refine go2 ?_
      rw [va, vg] at he
      rw [vc, vg] at hf
      obtain ⟨f1, f2, f3, f4, f5⟩ := red_div (m := m1) (x := val l1) y0
      have f3' : (0 : Int) < amt false (val l2 / (val l1).gcd (val l2)) := by
        simp only [amt, cond_false]
        omega
      refine RedK.fz (.of he hf (by omega)) f3' f1 (rel _ _ (by rw [e1, e2]; exact f2)) ?_ ?_
      · rw [amt_abs, ← en, e1, amt_abs]
        exact f4
      · rw [amt_abs, ← ed, e2, amt_abs]
        exact f5
  case true =>
    refine go2 ?_
    refine call_C (ref01_whole_neg hn) (fun u hu => ?_)
    obtain ⟨es, rfl, hn1⟩ := hu
    refine go2 ?_
    refine call_C (ref01_whole_neg hd) (fun u hu => ?_)
    obtain ⟨fs, rfl, hd1⟩ := hu
    have hp : 0 < -d := by
      have := val_pos o2 (g2 rfl)
      rw [e2]
      simp only [amt, cond_true]
      omega
    have rel : ∀ a b : Int, a * -d = -n * b → a * d = n * b := fun a b h => by
      rw [Int.mul_neg, Int.neg_mul] at h
      omega
    have en : (-n).natAbs = n.natAbs := Int.natAbs_neg n
    have ed : (-d).natAbs = d.natAbs := Int.natAbs_neg d
    generalize -n = n1 at hn1 rel en
    generalize -d = d1 at hd1 rel ed hp
    obtain ⟨c1, l1, m1, rfl, w1, o1, g1, e1⟩ := hn1.two
    obtain ⟨c2, l2, m2, rfl, w2, o2, g2, e2⟩ := hd1.two
    cases m2
    case true =>
      rw [e2] at hp
      simp only [amt, cond_true] at hp
      omega
    refine go2 ?_
    have a1 : l1.length ≤ k := norm_len o1 (by rw [← en, e1, amt_abs] at sn; exact sn)
    have a2 : l2.length ≤ k := norm_len o2 (by rw [← ed, e2, amt_abs] at sd; exact sd)
    refine semH_of_semC (ref01_isOne hd1) (fun u hu => ?_)
    obtain ⟨z, rfl, hz1⟩ := hu
    cases z
    case true =>
      refine go2 ?_
      have h1 := hz1.1 rfl
      refine RedK.fz (.of hn1 hd1 (by omega)) hp ?_ (rel _ _ rfl) (by omega) (by omega)
      rw [h1]
      simp
    refine go2 ?_
    refine semH_of_semC (ref01_divisor w1 w2 o1 o2 (by omega) (by omega)) (fun u hu => ?_)
    obtain ⟨cg, lg, rfl, wg, og, vg⟩ := hu
    have y0 : 0 < val l2 := by
      rw [e2] at hp
      simp only [amt, cond_false] at hp
      omega
    have g0 : 0 < val lg := by
      rw [vg]
      exact Nat.gcd_pos_of_pos_right _ y0
    have gn : lg ≠ [] := fun e => by
      rw [e] at g0
      exact absurd g0 (by decide)
    have lg0 : 0 < lg.length := List.length_pos_iff.2 gn
    refine go2 ?_
    cases hq : compare' Cm.neq (lg.length : Int) 1
    case false =>
      simp only [compare', dec_false] at hq
      have lg1 : lg.length = 1 := by omega
      refine go2 ?_
      cases hq2 : compare' Cm.neq ((at0 lg (0 : Int).toNat : Nat) : Int) 1
      case false =>
        simp only [compare', dec_false] at hq2
        have hg1 : val lg = 1 := by
          rw [len_one lg1]
          have : at0 lg (0 : Int).toNat = at0 lg 0 := rfl
          omega
        refine go2 ?_
        refine RedK.fz (.of hn1 hd1 (by omega)) hp ?_ (rel _ _ rfl) (by omega) (by omega)
        rw [e1, e2, ← hg1, vg]
        exact gcd_amt
      case true =>
        refine go2 ?_
        refine semH_of_semC (ref01_parts w1 wg o1 og gn (by omega)) (fun u hu => ?_)
        obtain ⟨ca, la, cb, lb, rfl, wa, oa, va, wb, ob, vb⟩ := hu
        refine go2 ?_
        refine semH_of_semC (ref01_parts w2 wg o2 og gn (by omega)) (fun u hu => ?_)
        obtain ⟨cc, lc, cd, ld, rfl, wc, oc, vc, wd, od, vd⟩ := hu
        refine go2 ?_
        refine semH_of_semC (ref01_signed m1 wa oa) (fun u hu => ?_)
        obtain ⟨es, rfl, he⟩ := hu
        obtain ⟨c5, l5, m5, rfl, _⟩ := he.two
        refine go2 ?_
        refine semH_of_semC (ref01_signed false wc oc) (fun u hu => ?_)
        obtain ⟨fs, rfl, hf⟩ := hu
        obtain ⟨c6, l6, m6, rfl, _⟩ := hf.two
        refine go2 ?_
        rw [va, vg] at he
        rw [vc, vg] at hf
        obtain ⟨f1, f2, f3, f4, f5⟩ := red_div (m := m1) (x := val l1) y0
        have f3' : (0 : Int) < amt false (val l2 / (val l1).gcd (val l2)) := by
          simp only [amt, cond_false]
          omega
        refine RedK.fz (.of he hf (by omega)) f3' f1 (rel _ _ (by rw [e1, e2]; exact f2)) ?_ ?_
        · rw [amt_abs, ← en, e1, amt_abs]
          exact f4
        · rw [amt_abs, ← ed, e2, amt_abs]
          exact f5
    case true =>
      refine go2 ?_
      refine semH_of_semC (ref01_parts w1 wg o1 og gn (by omega)) (fun u hu => ?_)
      obtain ⟨ca, la, cb, lb, rfl, wa, oa, va, wb, ob, vb⟩ := hu
      refine go2 ?_
      refine semH_of_semC (ref01_parts w2 wg o2 og gn (by omega)) (fun u hu => ?_)
      obtain ⟨cc, lc, cd, ld, rfl, wc, oc, vc, wd, od, vd⟩ := hu
      refine go2 ?_
      refine semH_of_semC (ref01_signed m1 wa oa) (fun u hu => ?_)
      obtain ⟨es, rfl, he⟩ := hu
      obtain ⟨c5, l5, m5, rfl, _⟩ := he.two
      refine go2 ?_
      refine semH_of_semC (ref01_signed false wc oc) (fun u hu => ?_)
      obtain ⟨fs, rfl, hf⟩ := hu
      obtain ⟨c6, l6, m6, rfl, _⟩ := hf.two
      refine go2 ?_
      rw [va, vg] at he
      rw [vc, vg] at hf
      obtain ⟨f1, f2, f3, f4, f5⟩ := red_div (m := m1) (x := val l1) y0
      have f3' : (0 : Int) < amt false (val l2 / (val l1).gcd (val l2)) := by
        simp only [amt, cond_false]
        omega
      refine RedK.fz (.of he hf (by omega)) f3' f1 (rel _ _ (by rw [e1, e2]; exact f2)) ?_ ?_
      · rw [amt_abs, ← en, e1, amt_abs]
        exact f4
      · rw [amt_abs, ← ed, e2, amt_abs]
        exact f5
end Go.Proofs.YtjncgcnofiaiaaaGreat

/-
  ref01.Of, Q.Cmp, Rat; num.Of, Q.Cmp, Q.Out, Max, Min.
-/
set_option linter.unusedVariables false
set_option linter.unusedSimpArgs false
namespace Go.Proofs.YtjncgcnofiaiaaaGreat
open Go.RowKit
set_option maxRecDepth 20000

abbrev R2 := Int × Int
def iC (n : Int) : C := .int .i64 n
def lessR (p q : R2) : Prop := p.1 * q.2 < q.1 * p.2
noncomputable def mxR (p q : R2) : R2 := bif dec (lessR p q) then q else p
noncomputable def mnR (p q : R2) : R2 := bif dec (lessR q p) then q else p
def cmpR (p q : R2) : Int := sgn (p.1 * q.2 - q.1 * p.2)
/-- Numerator and denominator of at most k words, the latter above 0. -/
structure Bd (k : Nat) (p : R2) : Prop where
  n : Sz k p.1
  d : Sz k p.2
  pos : 0 < p.2
theorem Sz.mul {k : Nat} {a b : Int} (h1 : Sz k a) (h2 : Sz k b) : Sz (k + k) (a * b) := by
  unfold Sz at *
  rw [Int.natAbs_mul, Nat.pow_add]
  exact Nat.mul_lt_mul'' h1 h2
theorem IsRat.bd {p : R2} (h : IsRat p.1 p.2) : Bd 2 p := by
  obtain ⟨h1, h2, h3, h4, h5⟩ := h
  refine ⟨?_, ?_, by omega⟩
  · unfold Sz
    omega
  · unfold Sz
    omega
theorem Bd.mx {k : Nat} {p q : R2} (h1 : Bd k p) (h2 : Bd k q) : Bd k (mxR p q) := by
  unfold mxR
  cases dec (lessR p q)
  · exact h1
  · exact h2
theorem Bd.mn {k : Nat} {p q : R2} (h1 : Bd k p) (h2 : Bd k q) : Bd k (mnR p q) := by
  unfold mnR
  cases dec (lessR q p)
  · exact h1
  · exact h2
theorem cmp_lss (p q : R2) : compare' Cm.lss (cmpR p q) 0 = dec (lessR p q) := by
  have : cmpR p q < 0 ↔ lessR p q := by
    unfold cmpR lessR sgn
    split
    · omega
    · split <;> omega
  show dec _ = _
  rw [propext this]
theorem cmp_gtr (p q : R2) : compare' Cm.gtr (cmpR p q) 0 = dec (lessR q p) := by
  have : cmpR p q > 0 ↔ lessR q p := by
    unfold cmpR lessR sgn
    split
    · omega
    · split <;> omega
  show dec _ = _
  rw [propext this]
theorem cmp_leq (p q : R2) : compare' Cm.leq (cmpR p q) 0 = dec (¬ lessR q p) := by
  have : cmpR p q ≤ 0 ↔ ¬ lessR q p := by
    unfold cmpR lessR sgn
    split
    · omega
    · split <;> omega
  show dec _ = _
  rw [propext this]
theorem cmp_geq (p q : R2) : compare' Cm.geq (cmpR p q) 0 = dec (¬ lessR p q) := by
  have : cmpR p q ≥ 0 ↔ ¬ lessR p q := by
    unfold cmpR lessR sgn
    split
    · omega
    · split <;> omega
  show dec _ = _
  rw [propext this]
noncomputable def fitR (p : R2) : Bool := dec (-1000000000000 ≤ p.1 ∧ p.1 ≤ 1000000000000 ∧ p.2 ≤ 1000000000000)
noncomputable def outV (p : R2) : V := bif fitR p then .tup [.agg [iC p.1, iC p.2], .c (.bool true)] else .tup [.agg [iC 0, iC 0], .c (.bool false)]
def RQK (p : R2) (u : V) : Prop := ∃ cs, u = .agg cs ∧ IsRQ cs p.1 p.2
theorem RQK.fz {p : R2} {cs : List C} {H : Hp} (h : IsRQ cs p.1 p.2) : ∃ e, FzV H (.agg cs) e ∧ RQK p e := ⟨_, .agg (.hf h.hf), cs, rfl, h⟩
/-- The cells of a num.Q. -/
inductive IsQ : List C → R2 → Prop
  | mk {ns ds : List C} {p : R2} (hn : IsZ ns p.1) (hd : IsZ ds p.2) : IsQ (ns ++ ds) p
def QK (p : R2) (u : V) : Prop := ∃ cs, u = .agg cs ∧ IsQ cs p
theorem IsQ.six {cs : List C} {p : R2} (h : IsQ cs p) : ∃ a b c d e f, cs = [a, b, c, d, e, f] ∧ IsZ [a, b, c] p.1 ∧ IsZ [d, e, f] p.2 := by
  cases h with
  | mk hn hd =>
    obtain ⟨a, b, c, rfl⟩ := hn.three
    obtain ⟨d, e, f, rfl⟩ := hd.three
    exact ⟨_, _, _, _, _, _, rfl, hn, hd⟩
theorem IsQ.of {a b c d e f : C} {p : R2} (hn : IsZ [a, b, c] p.1) (hd : IsZ [d, e, f] p.2) : IsQ [a, b, c, d, e, f] p := .mk (ns := [a, b, c]) (ds := [d, e, f]) hn hd
theorem IsQ.hf {cs : List C} {p : R2} (h : IsQ cs p) : HFL cs := by
  obtain ⟨a, b, c, d, e, f, rfl, h1, h2⟩ := h.six
  obtain ⟨x1, x2, x3, _⟩ := h1.hf
  obtain ⟨y1, y2, y3, _⟩ := h2.hf
  exact ⟨x1, x2, x3, y1, y2, y3, trivial⟩
theorem QK.fz {p : R2} {cs : List C} {H : Hp} (h : IsQ cs p) : ∃ e, FzV H (.agg cs) e ∧ QK p e := ⟨_, .agg (.hf h.hf), cs, rfl, h⟩
theorem eq_fz {u : V} {H : Hp} (h : FzV H u u) {K : V → Prop} (k : K u) : ∃ e, FzV H u e ∧ K e := ⟨_, h, k⟩
attribute [local irreducible] compare' semH semC qLen qNil qIad qSlc qIdx ldBox ldCells stBox appX awpF awpOpsF awpDF xopF xopDF qval lval seqQ blockQ loopQ bodyF retKF cnd arith IntKind.wrap

theorem ref01_Of {p : R2} (h : IsRat p.1 p.2) : semC Tryz.prog n_ref01_Of [.agg [iC p.1, iC p.2]] (RQK p) := by
  refine semC_of_awpF ok_ref01_Of rfl (show HFVs [.agg [iC p.1, iC p.2]] from ⟨⟨trivial, trivial, trivial⟩, trivial⟩) ?_
  have hb := h.bd
  obtain ⟨h1, h2, h3, h4, h5⟩ := h
  refine go2 ?_
  refine call_C (ref01_ofInt (v := p.1) (by omega) (by omega)) (fun u hu => ?_)
  obtain ⟨cs, rfl, hn⟩ := hu
  refine go2 ?_
  refine call_C (ref01_ofInt (v := p.2) (by omega) (by omega)) (fun u hu => ?_)
  obtain ⟨ds, rfl, hd⟩ := hu
  refine go2 ?_
  refine call_C (ref01_ratio hn hd hb.n hb.d (by decide) (by omega)) (fun u hu => ?_)
  obtain ⟨es, a, b, rfl, hr, r1, r2, r3, r4, r5⟩ := hu
  obtain ⟨rfl, rfl⟩ := red_uniq r2 h5 r1 (by omega) r3
  have hr' := hr
  obtain ⟨c1, m1, c2, m2, d, rfl, _⟩ := hr'.four
  refine go2 ?_
  exact RQK.fz hr

theorem ref01_Q_Cmp {cs ds : List C} {p q : R2} {k : Nat} (hx : IsRQ cs p.1 p.2) (hy : IsRQ ds q.1 q.2) (bp : Bd k p) (bq : Bd k q) (hk : k ≤ 268435456) : semC Tryz.prog n_ref01_Q_Cmp [.agg cs, .agg ds] (IntK (cmpR p q)) := by
  refine semC_of_awpF ok_ref01_Q_Cmp rfl (show HFVs [.agg cs, .agg ds] from ⟨hx.hf, hy.hf, trivial⟩) ?_
  obtain ⟨c1, m1, c2, m2, x, rfl, hn, hd, ex⟩ := hx.four
  obtain ⟨c3, m3, c4, m4, y, rfl, hm, he, ey⟩ := hy.four
  refine go2 ?_
  refine call_C (ref01_den hm he) (fun u hu => ?_)
  obtain ⟨es, rfl, h1⟩ := hu
  rw [← ey] at h1
  refine go2 ?_
  refine call_C (ref01_whole_mul hn h1 bp.n bq.d (by omega)) (fun u hu => ?_)
  obtain ⟨fs, rfl, h2⟩ := hu
  refine go2 ?_
  refine call_C (ref01_den hn hd) (fun u hu => ?_)
  obtain ⟨gs, rfl, h3⟩ := hu
  rw [← ex] at h3
  refine go2 ?_
  refine call_C (ref01_whole_mul hm h3 bq.n bp.d (by omega)) (fun u hu => ?_)
  obtain ⟨hs, rfl, h4⟩ := hu
  refine go2 ?_
  refine call_C (ref01_whole_cmp h2 h4 (bp.n.mul bq.d) (bq.n.mul bp.d) (by omega)) (fun u hu => ?_)
  obtain rfl := hu
  refine go2 ?_
  exact IntK.fz

def OutK (p : R2) (u : V) : Prop := u = outV p
theorem OutK.yes {p : R2} {H : Hp} (h : -1000000000000 ≤ p.1 ∧ p.1 ≤ 1000000000000 ∧ p.2 ≤ 1000000000000) : ∃ e, FzV H (.tup [.agg [iC p.1, iC p.2], .c (.bool true)]) e ∧ OutK p e := by
  refine ⟨_, .tup (.cons (.agg (.hf ⟨trivial, trivial, trivial⟩)) (.cons (.c (.hf trivial)) .nil)), ?_⟩
  unfold OutK outV fitR
  rw [dec_true.2 h]
  rfl
theorem OutK.no {p : R2} {H : Hp} (h : ¬ (-1000000000000 ≤ p.1 ∧ p.1 ≤ 1000000000000 ∧ p.2 ≤ 1000000000000)) : ∃ e, FzV H (.tup [.agg [iC 0, iC 0], .c (.bool false)]) e ∧ OutK p e := by
  refine ⟨_, .tup (.cons (.agg (.hf ⟨trivial, trivial, trivial⟩)) (.cons (.c (.hf trivial)) .nil)), ?_⟩
  unfold OutK outV fitR
  rw [dec_false.2 h]
  rfl
theorem ref01_Rat {cs : List C} {p : R2} (hx : IsRQ cs p.1 p.2) (hp : 0 < p.2) : semC Tryz.prog n_ref01_Rat [.agg cs] (OutK p) := by
  refine semC_of_awpF ok_ref01_Rat rfl (show HFVs [.agg cs] from ⟨hx.hf, trivial⟩) ?_
  obtain ⟨c1, m1, c2, m2, x, rfl, hn, hd, ex⟩ := hx.four
  refine go2 ?_
  refine semH_of_semC (ref01_small hn) (fun u hu => ?_)
  obtain ⟨r, b, rfl, hb, hr⟩ := hu
  refine go2 ?_
  refine semH_of_semC (ref01_den hn hd) (fun u hu => ?_)
  obtain ⟨es, rfl, h1⟩ := hu
  rw [← ex] at h1
  refine go2 ?_
  refine semH_of_semC (ref01_small h1) (fun u hu => ?_)
  obtain ⟨r', b', rfl, hb', hr'⟩ := hu
  refine go2 ?_
  cases b
  case false =>
    refine go2 ?_
    exact OutK.no (fun h => by
      have := hb.2 (by omega)
      cases this)
  have e1 := hr rfl
  subst e1
  refine go2 ?_
  cases b'
  case false =>
    refine go2 ?_
    exact OutK.no (fun h => by
      have := hb'.2 (by omega)
      cases this)
  have e2 := hr' rfl
  subst e2
  refine go2 ?_
  cases q1 : compare' Cm.lss p.1 (-1000000000000)
  case true =>
    simp only [compare', dec_true] at q1
    refine go2 ?_
    exact OutK.no (by omega)
  simp only [compare', dec_false] at q1
  refine go2 ?_
  cases q2 : compare' Cm.gtr p.1 1000000000000
  case true =>
    simp only [compare', dec_true] at q2
    refine go2 ?_
    exact OutK.no (by omega)
  simp only [compare', dec_false] at q2
  refine go2 ?_
  cases q3 : compare' Cm.gtr p.2 1000000000000
  case true =>
    simp only [compare', dec_true] at q3
    refine go2 ?_
    exact OutK.no (by omega)
  simp only [compare', dec_false] at q3
  refine go2 ?_
  exact OutK.yes (by omega)


theorem num_Of {p : R2} (h : IsRat p.1 p.2) : semC Tryz.prog n_num_Of [.agg [iC p.1, iC p.2]] (QK p) := by
  refine semC_of_awpF ok_num_Of rfl (show HFVs [.agg [iC p.1, iC p.2]] from ⟨⟨trivial, trivial, trivial⟩, trivial⟩) ?_
  obtain ⟨h1, h2, h3, h4, h5⟩ := h
  refine go2 ?_
  refine call_C (num_I p.1 (by omega) (by omega)) (fun u hu => ?_)
  obtain ⟨cs, rfl, hn⟩ := hu
  refine go2 ?_
  refine call_C (num_I p.2 (by omega) (by omega)) (fun u hu => ?_)
  obtain ⟨ds, rfl, hd⟩ := hu
  obtain ⟨a, b, c, rfl⟩ := hn.three
  obtain ⟨d, e, f, rfl⟩ := hd.three
  refine go2 ?_
  exact QK.fz (.of hn hd)

theorem num_Q_Cmp {cs ds : List C} {p q : R2} {k : Nat} (hx : IsQ cs p) (hy : IsQ ds q) (bp : Bd k p) (bq : Bd k q) (hk : k ≤ 268435456) : semC Tryz.prog n_num_Q_Cmp [.agg cs, .agg ds] (IntK (cmpR p q)) := by
  refine semC_of_awpF ok_num_Q_Cmp rfl (show HFVs [.agg cs, .agg ds] from ⟨hx.hf, hy.hf, trivial⟩) ?_
  obtain ⟨a, b, c, d, e, f, rfl, h1, h2⟩ := hx.six
  obtain ⟨a', b', c', d', e', f', rfl, h3, h4⟩ := hy.six
  refine go2 ?_
  refine call_C (num_Z_Mul h1 h4 bp.n bq.d (by omega)) (fun u hu => ?_)
  obtain ⟨es, rfl, h5⟩ := hu
  refine go2 ?_
  refine call_C (num_Z_Mul h3 h2 bq.n bp.d (by omega)) (fun u hu => ?_)
  obtain ⟨fs, rfl, h6⟩ := hu
  refine go2 ?_
  refine call_C (num_Z_Cmp h5 h6 (bp.n.mul bq.d) (bq.n.mul bp.d) (by omega)) (fun u hu => ?_)
  obtain rfl := hu
  refine go2 ?_
  exact IntK.fz

theorem num_Max {cs ds : List C} {p q : R2} {k : Nat} (hx : IsQ cs p) (hy : IsQ ds q) (bp : Bd k p) (bq : Bd k q) (hk : k ≤ 268435456) : semC Tryz.prog n_num_Max [.agg cs, .agg ds] (QK (mxR p q)) := by
  refine semC_of_awpF ok_num_Max rfl (show HFVs [.agg cs, .agg ds] from ⟨hx.hf, hy.hf, trivial⟩) ?_
  obtain ⟨a, b, c, d, e, f, rfl, h1, h2⟩ := hx.six
  obtain ⟨a', b', c', d', e', f', rfl, h3, h4⟩ := hy.six
  refine go2 ?_
  refine semH_of_semC (num_Q_Cmp hx hy bp bq hk) (fun u hu => ?_)
  obtain rfl := hu
  refine go2 ?_
  rw [cmp_lss]
  unfold mxR
  cases hq : dec (lessR p q)
  · refine go2 ?_
    exact QK.fz hx
  · refine go2 ?_
    exact QK.fz hy
theorem num_Min {cs ds : List C} {p q : R2} {k : Nat} (hx : IsQ cs p) (hy : IsQ ds q) (bp : Bd k p) (bq : Bd k q) (hk : k ≤ 268435456) : semC Tryz.prog n_num_Min [.agg cs, .agg ds] (QK (mnR p q)) := by
  refine semC_of_awpF ok_num_Min rfl (show HFVs [.agg cs, .agg ds] from ⟨hx.hf, hy.hf, trivial⟩) ?_
  obtain ⟨a, b, c, d, e, f, rfl, h1, h2⟩ := hx.six
  obtain ⟨a', b', c', d', e', f', rfl, h3, h4⟩ := hy.six
  refine go2 ?_
  refine semH_of_semC (num_Q_Cmp hy hx bq bp hk) (fun u hu => ?_)
  obtain rfl := hu
  refine go2 ?_
  rw [cmp_lss]
  unfold mnR
  cases hq : dec (lessR q p)
  · refine go2 ?_
    exact QK.fz hx
  · refine go2 ?_
    exact QK.fz hy

theorem num_Q_Out {cs : List C} {p : R2} (hx : IsQ cs p) (hp : 0 < p.2) : semC Tryz.prog n_num_Q_Out [.agg cs] (OutK p) := by
  refine semC_of_awpF ok_num_Q_Out rfl (show HFVs [.agg cs] from ⟨hx.hf, trivial⟩) ?_
  obtain ⟨a, b, c, d, e, f, rfl, h1, h2⟩ := hx.six
  refine go2 ?_
  refine semH_of_semC (num_Z_Int (most := 1000000000000) h1 (by omega) (by omega)) (fun u hu => ?_)
  obtain ⟨r, b1, rfl, hb, hr⟩ := hu
  refine go2 ?_
  refine semH_of_semC (num_Z_Int (most := 1000000000000) h2 (by omega) (by omega)) (fun u hu => ?_)
  obtain ⟨r', b2, rfl, hb', hr'⟩ := hu
  refine go2 ?_
  cases b1
  case false =>
    refine go2 ?_
    exact OutK.no (fun h => by
      have := hb.2 (by omega)
      cases this)
  have e1 := hr rfl
  subst e1
  refine go2 ?_
  cases b2
  case false =>
    refine go2 ?_
    exact OutK.no (fun h => by
      have := hb'.2 (by omega)
      cases this)
  have e2 := hr' rfl
  subst e2
  refine go2 ?_
  have e3 := hb.1 rfl
  have e4 := hb'.1 rfl
  exact OutK.yes (by omega)
end Go.Proofs.YtjncgcnofiaiaaaGreat

/-
  Spans: span.of, Validate, check, told, hull; ref05.Is, Of, Told, common, least, Holds.
-/
set_option linter.unusedVariables false
set_option linter.unusedSimpArgs false
namespace Go.Proofs.YtjncgcnofiaiaaaGreat
open Go.RowKit
set_option maxRecDepth 20000

/-! ### Lists of structs -/
theorem flat_at {α : Type} {f : α → List C} {k : Nat} : ∀ {l : List α} {i : Nat}, (∀ a ∈ l, (f a).length = k) → (hi : i < l.length) → ∃ r, (l.flatMap f).drop (i * k) = f l[i] ++ r
  | a :: t, 0, h, hi => ⟨t.flatMap f, by simp⟩
  | a :: t, i + 1, h, hi => by
    obtain ⟨r, hr⟩ := flat_at (l := t) (i := i) (fun b hb => h b (by simp [hb])) (by simpa using hi)
    refine ⟨r, ?_⟩
    have e := h a (by simp)
    have e2 : (f a ++ t.flatMap f).drop k = t.flatMap f := by
      rw [← e]
      simp
    rw [List.flatMap_cons, Nat.succ_mul, Nat.add_comm, ← List.drop_drop, e2]
    exact hr
theorem ld_elem {α : Type} {f : α → List C} {k n : Nat} {l : List α} {i : Nat} {K : V → Prop} (h : ∀ a ∈ l, (f a).length = k) (hi : i < l.length) (hn : n = i) (kk : K (.agg (f l[i]))) : ldCells ((l.flatMap f).drop (n * k)) true k K := by
  subst hn
  obtain ⟨r, hr⟩ := flat_at h hi
  have hk := h l[n] (List.getElem_mem hi)
  rw [hr]
  refine ld_cellsA (by simp; omega) ?_
  rw [List.take_append_of_le_length (by omega), List.take_of_length_le (by omega)]
  exact kk
theorem foldl_take {α β : Type} {f : β → α → β} {b : β} {l : List α} {i : Nat} (hi : i < l.length) : (l.take (i + 1)).foldl f b = f ((l.take i).foldl f b) l[i] := by
  rw [List.take_succ_eq_append_getElem hi, List.foldl_append]
  rfl
theorem HFL_flat {α : Type} {f : α → List C} : ∀ {l : List α}, (∀ a ∈ l, HFL (f a)) → HFL (l.flatMap f)
  | [], _ => trivial
  | a :: t, h => by
    rw [List.flatMap_cons]
    have h1 := h a (by simp)
    have h2 := HFL_flat (l := t) (fun b hb => h b (by simp [hb]))
    generalize t.flatMap f = r at h2
    generalize f a = x at h1
    induction x with
    | nil => exact h2
    | cons c x ih =>
      simp only [HFL] at h1
      simp only [List.cons_append, HFL]
      exact ⟨h1.1, ih h1.2⟩

/-! ### Spans -/
abbrev SP := R2 × R2
def ratC (p : R2) : List C := [iC p.1, iC p.2]
def spanC (x : SP) : List C := [iC x.1.1, iC x.1.2, iC x.2.1, iC x.2.2]
def zeroC : List C := [iC 0, iC 0, iC 0, iC 0]
def SpanOk (x : SP) : Prop := IsRat x.1.1 x.1.2 ∧ IsRat x.2.1 x.2.2 ∧ ¬ lessR x.2 x.1
/-- What is wrong with a span. -/
noncomputable def errV (x : SP) : V := bif dec (SpanOk x) then i64 0 else i64 1
structure BdS (k : Nat) (x : SP) : Prop where
  lo : Bd k x.1
  hi : Bd k x.2
theorem SpanOk.bd {x : SP} (h : SpanOk x) : BdS 2 x := ⟨h.1.bd, h.2.1.bd⟩
inductive IsE : List C → SP → Prop
  | mk {a b : List C} {x : SP} (h1 : IsQ a x.1) (h2 : IsQ b x.2) : IsE (a ++ b) x
inductive IsS : List C → SP → Prop
  | mk {a b : List C} {x : SP} (h1 : IsRQ a x.1.1 x.1.2) (h2 : IsRQ b x.2.1 x.2.2) : IsS (a ++ b) x
def EK (x : SP) (u : V) : Prop := ∃ cs, u = .agg cs ∧ IsE cs x
def SK (x : SP) (u : V) : Prop := ∃ cs, u = .agg cs ∧ IsS cs x
theorem HFL_app : ∀ {x y : List C}, HFL x → HFL y → HFL (x ++ y)
  | [], _, _, h => h
  | c :: x, y, h1, h2 => by
    simp only [HFL] at h1
    simp only [List.cons_append, HFL]
    exact ⟨h1.1, HFL_app h1.2 h2⟩
theorem IsE.hf {cs : List C} {x : SP} (h : IsE cs x) : HFL cs := by
  cases h with
  | mk h1 h2 => exact HFL_app h1.hf h2.hf
theorem IsS.hf {cs : List C} {x : SP} (h : IsS cs x) : HFL cs := by
  cases h with
  | mk h1 h2 => exact HFL_app h1.hf h2.hf
theorem EK.fz {x : SP} {cs : List C} {H : Hp} (h : IsE cs x) : ∃ e, FzV H (.agg cs) e ∧ EK x e := ⟨_, .agg (.hf h.hf), cs, rfl, h⟩
theorem SK.fz {x : SP} {cs : List C} {H : Hp} (h : IsS cs x) : ∃ e, FzV H (.agg cs) e ∧ SK x e := ⟨_, .agg (.hf h.hf), cs, rfl, h⟩
theorem IsE.parts {cs : List C} {x : SP} (h : IsE cs x) : ∃ a b c d e f a' b' c' d' e' f', cs = [a, b, c, d, e, f, a', b', c', d', e', f'] ∧ IsQ [a, b, c, d, e, f] x.1 ∧ IsQ [a', b', c', d', e', f'] x.2 := by
  cases h with
  | mk h1 h2 =>
    obtain ⟨a, b, c, d, e, f, rfl, _⟩ := h1.six
    obtain ⟨a', b', c', d', e', f', rfl, _⟩ := h2.six
    exact ⟨_, _, _, _, _, _, _, _, _, _, _, _, rfl, h1, h2⟩
theorem IsE.of {a b c d e f a' b' c' d' e' f' : C} {x : SP} (h1 : IsQ [a, b, c, d, e, f] x.1) (h2 : IsQ [a', b', c', d', e', f'] x.2) : IsE [a, b, c, d, e, f, a', b', c', d', e', f'] x := .mk (a := [a, b, c, d, e, f]) h1 h2
theorem IsS.parts {cs : List C} {x : SP} (h : IsS cs x) : ∃ a b c d a' b' c' d', cs = [a, b, c, d, a', b', c', d'] ∧ IsRQ [a, b, c, d] x.1.1 x.1.2 ∧ IsRQ [a', b', c', d'] x.2.1 x.2.2 := by
  cases h with
  | mk h1 h2 =>
    obtain ⟨a, b, c, d, _, rfl, _⟩ := h1.four
    obtain ⟨a', b', c', d', _, rfl, _⟩ := h2.four
    exact ⟨_, _, _, _, _, _, _, _, rfl, h1, h2⟩
theorem IsS.of {a b c d a' b' c' d' : C} {x : SP} (h1 : IsRQ [a, b, c, d] x.1.1 x.1.2) (h2 : IsRQ [a', b', c', d'] x.2.1 x.2.2) : IsS [a, b, c, d, a', b', c', d'] x := .mk (a := [a, b, c, d]) h1 h2
/-- A span for package api, or ErrLarge. -/
noncomputable def toldV (x : SP) : V := bif fitR x.1 && fitR x.2 then .tup [.agg (spanC x), i64 0] else .tup [.agg zeroC, i64 3]
def EqK (v u : V) : Prop := u = v
theorem HFL_span (x : SP) : HFL (spanC x) := ⟨trivial, trivial, trivial, trivial, trivial⟩
theorem HFL_zero : HFL zeroC := ⟨trivial, trivial, trivial, trivial, trivial⟩
attribute [local irreducible] compare' semH semC qLen qNil qIad qSlc qIdx ldBox ldCells stBox appX awpF awpOpsF awpDF xopF xopDF qval lval seqQ blockQ loopQ bodyF retKF cnd arith IntKind.wrap

theorem span_of {x : SP} (h1 : IsRat x.1.1 x.1.2) (h2 : IsRat x.2.1 x.2.2) : semC Tryz.prog n_span_of [.agg (spanC x)] (EK x) := by
  refine semC_of_awpF ok_span_of rfl (show HFVs [.agg (spanC x)] from ⟨HFL_span x, trivial⟩) ?_
  refine go2 ?_
  refine call_C (num_Of h1) (fun u hu => ?_)
  obtain ⟨cs, rfl, hp⟩ := hu
  refine go2 ?_
  refine call_C (num_Of h2) (fun u hu => ?_)
  obtain ⟨ds, rfl, hq⟩ := hu
  obtain ⟨a, b, c, d, e, f, rfl, _⟩ := hp.six
  obtain ⟨a', b', c', d', e', f', rfl, _⟩ := hq.six
  refine go2 ?_
  exact EK.fz (.of hp hq)
theorem ref05_Of {x : SP} (h1 : IsRat x.1.1 x.1.2) (h2 : IsRat x.2.1 x.2.2) : semC Tryz.prog n_ref05_Of [.agg (spanC x)] (SK x) := by
  refine semC_of_awpF ok_ref05_Of rfl (show HFVs [.agg (spanC x)] from ⟨HFL_span x, trivial⟩) ?_
  refine go2 ?_
  refine call_C (ref01_Of h1) (fun u hu => ?_)
  obtain ⟨cs, rfl, hp⟩ := hu
  refine go2 ?_
  refine call_C (ref01_Of h2) (fun u hu => ?_)
  obtain ⟨ds, rfl, hq⟩ := hu
  obtain ⟨a, b, c, d, _, rfl, _⟩ := hp.four
  obtain ⟨a', b', c', d', _, rfl, _⟩ := hq.four
  refine go2 ?_
  exact SK.fz (.of hp hq)

theorem span_Validate (x : SP) : semC Tryz.prog n_span_Validate [.agg (spanC x)] (EqK (errV x)) := by
  refine semC_of_awpF ok_span_Validate rfl (show HFVs [.agg (spanC x)] from ⟨HFL_span x, trivial⟩) ?_
  have bad : ∀ {H : Hp}, ¬ SpanOk x → ∃ e, FzV H (i64 1) e ∧ EqK (errV x) e := fun h => ⟨_, .c (.hf trivial), by unfold EqK errV; rw [dec_false.2 h]; rfl⟩
  have good : ∀ {H : Hp}, SpanOk x → ∃ e, FzV H (i64 0) e ∧ EqK (errV x) e := fun h => ⟨_, .c (.hf trivial), by unfold EqK errV; rw [dec_true.2 h]; rfl⟩
  refine go2 ?_
  refine call_C (num_Valid x.1.1 x.1.2) (fun u hu => ?_)
  obtain ⟨z1, rfl, h1⟩ := hu
  refine go2 ?_
  cases z1
  case false =>
    refine go2 ?_
    exact bad (fun h => absurd (h1.2 h.1) (by decide))
  have r1 := h1.1 rfl
  refine go2 ?_
  refine call_C (num_Valid x.2.1 x.2.2) (fun u hu => ?_)
  obtain ⟨z2, rfl, h2⟩ := hu
  refine go2 ?_
  cases z2
  case false =>
    refine go2 ?_
    exact bad (fun h => absurd (h2.2 h.2.1) (by decide))
  have r2 := h2.1 rfl
  refine go2 ?_
  refine call_C (num_Of r1) (fun u hu => ?_)
  obtain ⟨cs, rfl, hp⟩ := hu
  refine go2 ?_
  refine call_C (num_Of r2) (fun u hu => ?_)
  obtain ⟨ds, rfl, hq⟩ := hu
  refine go2 ?_
  refine call_C (num_Q_Cmp hp hq r1.bd r2.bd (by decide)) (fun u hu => ?_)
  obtain rfl := hu
  refine go2 ?_
  rw [cmp_gtr]
  cases hd : dec (lessR x.2 x.1)
  · refine go2 ?_
    exact good ⟨r1, r2, dec_false.1 hd⟩
  · refine go2 ?_
    exact bad (fun h => h.2.2 (dec_true.1 hd))
theorem ref05_Is (x : SP) : semC Tryz.prog n_ref05_Is [.agg (spanC x)] (BoolK (SpanOk x)) := by
  refine semC_of_awpF ok_ref05_Is rfl (show HFVs [.agg (spanC x)] from ⟨HFL_span x, trivial⟩) ?_
  refine go2 ?_
  refine call_C (ref01_Is x.1.1 x.1.2) (fun u hu => ?_)
  obtain ⟨z1, rfl, h1⟩ := hu
  refine go2 ?_
  cases z1
  case false =>
    refine go2 ?_
    exact BoolK.fz ⟨fun h => (by cases h), fun h => absurd (h1.2 h.1) (by decide)⟩
  have r1 := h1.1 rfl
  refine go2 ?_
  refine call_C (ref01_Is x.2.1 x.2.2) (fun u hu => ?_)
  obtain ⟨z2, rfl, h2⟩ := hu
  refine go2 ?_
  cases z2
  case false =>
    refine go2 ?_
    exact BoolK.fz ⟨fun h => (by cases h), fun h => absurd (h2.2 h.2.1) (by decide)⟩
  have r2 := h2.1 rfl
  refine go2 ?_
  refine call_C (ref01_Of r1) (fun u hu => ?_)
  obtain ⟨cs, rfl, hp⟩ := hu
  refine go2 ?_
  refine call_C (ref01_Of r2) (fun u hu => ?_)
  obtain ⟨ds, rfl, hq⟩ := hu
  refine go2 ?_
  refine call_C (ref01_Q_Cmp hp hq r1.bd r2.bd (by decide)) (fun u hu => ?_)
  obtain rfl := hu
  refine go2 ?_
  rw [cmp_leq]
  exact BoolK.fz ⟨fun h => ⟨r1, r2, dec_true.1 h⟩, fun h => dec_true.2 h.2.2⟩

theorem span_told {cs : List C} {x : SP} (hx : IsE cs x) (h1 : 0 < x.1.2) (h2 : 0 < x.2.2) : semC Tryz.prog n_span_told [.agg cs] (EqK (toldV x)) := by
  refine semC_of_awpF ok_span_told rfl (show HFVs [.agg cs] from ⟨hx.hf, trivial⟩) ?_
  obtain ⟨a, b, c, d, e, f, a', b', c', d', e', f', rfl, q1, q2⟩ := hx.parts
  have bad : ∀ {H : Hp}, (fitR x.1 && fitR x.2) = false → ∃ e, FzV H (.tup [.agg zeroC, i64 3]) e ∧ EqK (toldV x) e := fun h => ⟨_, .tup (.cons (.agg (.hf HFL_zero)) (.cons (.c (.hf trivial)) .nil)), by unfold EqK toldV; rw [h]; rfl⟩
  have good : ∀ {H : Hp}, (fitR x.1 && fitR x.2) = true → ∃ e, FzV H (.tup [.agg (spanC x), i64 0]) e ∧ EqK (toldV x) e := fun h => ⟨_, .tup (.cons (.agg (.hf (HFL_span x))) (.cons (.c (.hf trivial)) .nil)), by unfold EqK toldV; rw [h]; rfl⟩
  refine go2 ?_
  refine semH_of_semC (num_Q_Out q1 h1) (fun u hu => ?_)
  obtain rfl := hu
  unfold outV
  cases f1 : fitR x.1
  case false =>
    refine go2 ?_
    refine semH_of_semC (num_Q_Out q2 h2) (fun u hu => ?_)
    obtain rfl := hu
    unfold outV
    cases f2 : fitR x.2
    · refine go2 ?_
      exact bad (by rw [f1]; rfl)
    · refine go2 ?_
      exact bad (by rw [f1]; rfl)
  case true =>
    refine go2 ?_
    refine semH_of_semC (num_Q_Out q2 h2) (fun u hu => ?_)
    obtain rfl := hu
    unfold outV
    cases f2 : fitR x.2
    · refine go2 ?_
      exact bad (by rw [f2, f1]; rfl)
    · refine go2 ?_
      exact good (by rw [f1, f2]; rfl)
theorem ref05_Told {cs : List C} {x : SP} (hx : IsS cs x) (h1 : 0 < x.1.2) (h2 : 0 < x.2.2) : semC Tryz.prog n_ref05_Told [.agg cs] (EqK (toldV x)) := by
  refine semC_of_awpF ok_ref05_Told rfl (show HFVs [.agg cs] from ⟨hx.hf, trivial⟩) ?_
  obtain ⟨a, b, c, d, a', b', c', d', rfl, q1, q2⟩ := hx.parts
  have bad : ∀ {H : Hp}, (fitR x.1 && fitR x.2) = false → ∃ e, FzV H (.tup [.agg zeroC, i64 3]) e ∧ EqK (toldV x) e := fun h => ⟨_, .tup (.cons (.agg (.hf HFL_zero)) (.cons (.c (.hf trivial)) .nil)), by unfold EqK toldV; rw [h]; rfl⟩
  have good : ∀ {H : Hp}, (fitR x.1 && fitR x.2) = true → ∃ e, FzV H (.tup [.agg (spanC x), i64 0]) e ∧ EqK (toldV x) e := fun h => ⟨_, .tup (.cons (.agg (.hf (HFL_span x))) (.cons (.c (.hf trivial)) .nil)), by unfold EqK toldV; rw [h]; rfl⟩
  refine go2 ?_
  refine semH_of_semC (ref01_Rat q1 h1) (fun u hu => ?_)
  obtain rfl := hu
  unfold outV
  cases f1 : fitR x.1
  case false =>
    refine go2 ?_
    refine semH_of_semC (ref01_Rat q2 h2) (fun u hu => ?_)
    obtain rfl := hu
    unfold outV
    cases f2 : fitR x.2
    · refine go2 ?_
      exact bad (by rw [f1]; rfl)
    · refine go2 ?_
      exact bad (by rw [f1]; rfl)
  case true =>
    refine go2 ?_
    refine semH_of_semC (ref01_Rat q2 h2) (fun u hu => ?_)
    obtain rfl := hu
    unfold outV
    cases f2 : fitR x.2
    · refine go2 ?_
      exact bad (by rw [f2, f1]; rfl)
    · refine go2 ?_
      exact good (by rw [f1, f2]; rfl)
end Go.Proofs.YtjncgcnofiaiaaaGreat

/-
  Spans: check, hull, least, common, Holds.
-/
set_option linter.unusedVariables false
set_option linter.unusedSimpArgs false
namespace Go.Proofs.YtjncgcnofiaiaaaGreat
open Go.RowKit
set_option maxRecDepth 20000

theorem fz_sl {p : BK → Prop} {H : Hp} {b n es : Nat} {co : Option Nat} {bx : Box} {ds : List C} (h : H[b]? = some (.live bx)) (hk : p bx.kind) (hk' : bx.kind ≠ .bor) (hd : (bx.cells.drop 0).take (n * es) = ds) (hf : HFL ds) : Fz p H (.sl b 0 n co es) (.imm n ds) :=
  .sl h hk hk' (by rw [hd]; exact FzL.hf hf)
def zeroE : List C := [.int .i64 0, .nilSl, .bool false, .int .i64 0, .nilSl, .bool false, .int .i64 0, .nilSl, .bool false, .int .i64 0, .nilSl, .bool false]
noncomputable def checkB (g : Int) (l : List SP) : Bool := dec (∀ x ∈ l, SpanOk x) && dec (1 ≤ g ∧ g ≤ 1000000)
noncomputable def checkV (g : Int) (l : List SP) : V := bif checkB g l then i64 0 else i64 1
theorem getL_mem {α : Type} {l : List α} {i : Nat} (h : i < l.length) : l[i] ∈ l := List.getElem_mem h
theorem HFL_spans (l : List SP) : HFL (l.flatMap spanC) := HFL_flat (fun x _ => HFL_span x)
theorem HFL_rat (p : R2) : HFL (ratC p) := ⟨trivial, trivial, trivial⟩
theorem HFL_rats (l : List R2) : HFL (l.flatMap ratC) := HFL_flat (fun x _ => HFL_rat x)
/-- The least span of some numbers. -/
noncomputable def wider (a : SP) (p : R2) : SP := (mnR a.1 p, mxR a.2 p)
theorem BdS.wider {k : Nat} {a : SP} {p : R2} (h : BdS k a) (hp : Bd k p) : BdS k (wider a p) := ⟨h.lo.mn hp, h.hi.mx hp⟩
theorem BdS.fold {k : Nat} : ∀ {l : List R2} {a : SP}, BdS k a → (∀ p ∈ l, Bd k p) → BdS k (l.foldl Proofs.YtjncgcnofiaiaaaGreat.wider a)
  | [], _, h, _ => h
  | p :: t, _, h, hl => BdS.fold (l := t) (h.wider (hl p (by simp))) (fun q hq => hl q (by simp [hq]))
theorem lessR_irr (p : R2) : ¬ lessR p p := by unfold lessR; omega
theorem wider_self (p : R2) : wider (p, p) p = (p, p) := by
  unfold wider mnR mxR
  rw [dec_false.2 (lessR_irr p)]
  rfl
attribute [local irreducible] compare' semH semC qLen qNil qIad qSlc qIdx ldBox ldCells stBox appX awpF awpOpsF awpDF xopF xopDF qval lval seqQ blockQ loopQ bodyF retKF cnd arith IntKind.wrap

theorem span_check (g : Int) (l : List SP) (hl : l.length < 1073741824) : semC Tryz.prog n_span_check [i64 g, .c (.imm l.length (l.flatMap spanC))] (EqK (checkV g l)) := by
  refine semC_of_awpF ok_span_check rfl (show HFVs [i64 g, .c (.imm l.length (l.flatMap spanC))] from ⟨trivial, HFL_spans l, trivial⟩) ?_
  refine go2 ?_
  refine f_loop (fun n vs H => ∃ i : Nat, vs = [i64 g, .c (.imm l.length (l.flatMap spanC)), i64 l.length, i64 i] ∧ n = l.length - i ∧ i ≤ l.length ∧ ∀ x ∈ l.take i, SpanOk x) (by rfl) ⟨0, rfl, rfl, by omega, by simp⟩ ?_
  rintro n vs H ⟨i, rfl, rfl, h1, h2⟩
  refine go2 ?_
  cases hq : compare' Cm.lss (i : Int) (l.length : Int)
  · simp [compare'] at hq
    have ei : i = l.length := by omega
    subst ei
    rw [List.take_length] at h2
    refine go2 ?_
    have good : ∀ {H : Hp}, (1 ≤ g ∧ g ≤ 1000000) → ∃ e, FzV H (i64 0) e ∧ EqK (checkV g l) e := fun h => ⟨_, .c (.hf trivial), by unfold EqK checkV checkB; rw [dec_true.2 h, dec_true.2 h2]; rfl⟩
    have bad : ∀ {H : Hp}, ¬ (1 ≤ g ∧ g ≤ 1000000) → ∃ e, FzV H (i64 1) e ∧ EqK (checkV g l) e := fun h => ⟨_, .c (.hf trivial), by unfold EqK checkV checkB; rw [dec_false.2 h, Bool.and_false]; rfl⟩
    cases hq2 : compare' Cm.lss g 1
    · simp only [compare', dec_false] at hq2
      refine go2 ?_
      cases hq3 : compare' Cm.gtr g 1000000
      · simp only [compare', dec_false] at hq3
        refine go2 ?_
        exact good (by omega)
      · simp only [compare', dec_true] at hq3
        refine go2 ?_
        exact bad (by omega)
    · simp only [compare', dec_true] at hq2
      refine go2 ?_
      exact bad (by omega)
  · simp [compare'] at hq
    refine go2 ?_
    refine idx_imm (by rfl) (by rfl) (by omega) (by omega) ?_
    refine go2 ?_
    refine ld_elem (i := i) (fun x _ => rfl) hq (by omega) ?_
    refine go2 ?_
    refine semH_of_semC (span_Validate l[i]) (fun u hu => ?_)
    obtain rfl := hu
    unfold errV
    cases ho : dec (SpanOk l[i])
    · refine go2 ?_
      refine c_t (by simp [compare']) ?_
      refine go2 ?_
      refine ⟨_, .c (.hf trivial), ?_⟩
      unfold EqK checkV checkB
      rw [dec_false.2 (fun h => dec_false.1 ho (h _ (getL_mem hq)))]
      rfl
    · refine go2 ?_
      refine c_f (by simp [compare']) ?_
      refine go2 ?_
      rw [addI1 i (by omega)]
      refine l_n (by rfl) (by omega) ⟨i + 1, rfl, rfl, by omega, fun x hx => ?_⟩
      rw [List.take_succ_eq_append_getElem hq] at hx
      rcases List.mem_append.1 hx with h | h
      · exact h2 x h
      · simp at h
        subst h
        exact dec_true.1 ho

end Go.Proofs.YtjncgcnofiaiaaaGreat

/-
  Spans: least, common, Holds; Meet, Hull, In of both.
-/
set_option linter.unusedVariables false
set_option linter.unusedSimpArgs false
namespace Go.Proofs.YtjncgcnofiaiaaaGreat
open Go.RowKit
set_option maxRecDepth 20000

def zeroS : List C := [.nilSl, .bool false, .nilSl, .bool false, .nilSl, .bool false, .nilSl, .bool false]
/-- Cells and what they stand for. -/
abbrev Cv := List C × R2
def OkRQ (k : Nat) (e : Cv) : Prop := IsRQ e.1 e.2.1 e.2.2 ∧ Bd k e.2
theorem OkRQ.len {k : Nat} {e : Cv} (h : OkRQ k e) : e.1.length = 4 := by
  obtain ⟨a, b, c, d, _, h1, _⟩ := h.1.four
  rw [h1]
  rfl
noncomputable def foldV (l : List Cv) (a : SP) : SP := l.foldl (fun a e => wider a e.2) a
theorem foldV_bd {k : Nat} : ∀ {l : List Cv} {a : SP}, BdS k a → (∀ e ∈ l, Bd k e.2) → BdS k (foldV l a)
  | [], _, h, _ => h
  | e :: t, _, h, hl => foldV_bd (l := t) (h.wider (hl e (by simp))) (fun q hq => hl q (by simp [hq]))
theorem foldV_map : ∀ {l : List Cv} {a : SP}, foldV l a = (l.map (·.2)).foldl wider a
  | [], _ => rfl
  | e :: t, a => by
    show foldV t (wider a e.2) = _
    rw [foldV_map]
    rfl
theorem IsRat.mx {p q : R2} (h1 : IsRat p.1 p.2) (h2 : IsRat q.1 q.2) : IsRat (mxR p q).1 (mxR p q).2 := by
  unfold mxR
  cases dec (lessR p q)
  · exact h1
  · exact h2
theorem IsRat.mn {p q : R2} (h1 : IsRat p.1 p.2) (h2 : IsRat q.1 q.2) : IsRat (mnR p q).1 (mnR p q).2 := by
  unfold mnR
  cases dec (lessR q p)
  · exact h1
  · exact h2
theorem IsRat.fit {p : R2} (h : IsRat p.1 p.2) : fitR p = true := by
  obtain ⟨h1, h2, h3, h4, h5⟩ := h
  unfold fitR
  exact dec_true.2 ⟨h3, h4, h2⟩
attribute [local irreducible] compare' semH semC qLen qNil qIad qSlc qIdx ldBox ldCells stBox appX awpF awpOpsF awpDF xopF xopDF qval lval seqQ blockQ loopQ bodyF retKF cnd arith IntKind.wrap

theorem ref05_least {k : Nat} {l : List Cv} (hl : l.length < 1073741824) (h0 : 0 < l.length) (hr : ∀ e ∈ l, OkRQ k e) (hk : k ≤ 268435456) : semC Tryz.prog n_ref05_least [.c (.imm l.length (l.flatMap (·.1)))] (SK (foldV l (l[0].2, l[0].2))) := by
  refine semC_of_awpF ok_ref05_least rfl (show HFVs [.c (.imm l.length (l.flatMap (·.1)))] from ⟨HFL_flat (fun e he => (hr e he).1.hf), trivial⟩) ?_
  have hr0 := hr _ (getL_mem h0)
  refine go2 ?_
  refine idx_imm (by rfl) (by rfl) (by omega) (by omega) ?_
  refine go2 ?_
  refine ld_elem (i := 0) (fun e he => (hr e he).len) h0 (by omega) ?_
  refine go2 ?_
  refine idx_imm (by rfl) (by rfl) (by omega) (by omega) ?_
  refine go2 ?_
  refine ld_elem (i := 0) (fun e he => (hr e he).len) h0 (by omega) ?_
  obtain ⟨a, b, c, d, _, he0, _⟩ := hr0.1.four
  rw [he0]
  have hq0 := hr0.1
  rw [he0] at hq0
  refine go2 ?_
  refine f_loop (fun n vs H => ∃ (i : Nat) (es : List C), vs = [.c (.imm l.length (l.flatMap (·.1))), .c (.ptr 0 0), .c (.ptr 1 0), i64 i] ∧ H = [.live ⟨zeroS, T_isoclineref05_S, .rw⟩, .live ⟨es, T_isoclineref05_S, .rw⟩] ∧ n = l.length - i ∧ 1 ≤ i ∧ i ≤ l.length ∧ IsS es (foldV (l.take i) (l[0].2, l[0].2))) (by rfl) ⟨1, _, rfl, rfl, rfl, by omega, by omega, ?_⟩ ?_
  · have e : foldV (l.take 1) (l[0].2, l[0].2) = (l[0].2, l[0].2) := by
      rw [show (1 : Nat) = 0 + 1 from rfl, foldV, foldl_take h0]
      exact wider_self _
    rw [e]
    exact .of hq0 hq0
  clear hq0 he0
  rintro n vs H ⟨i, es, rfl, rfl, rfl, h1, h2, h3⟩
  obtain ⟨a, b, c, d, a', b', c', d', rfl, q1, q2⟩ := h3.parts
  refine go2 ?_
  cases hq : compare' Cm.lss (i : Int) (l.length : Int)
  · simp [compare'] at hq
    have ei : i = l.length := by omega
    subst ei
    rw [List.take_length] at h3
    refine go2 ?_
    exact SK.fz h3
  · simp [compare'] at hq
    have hri := hr _ (getL_mem hq)
    have hb : BdS k (foldV (l.take i) (l[0].2, l[0].2)) := foldV_bd ⟨hr0.2, hr0.2⟩ (fun p hp => (hr p (List.mem_of_mem_take hp)).2)
    have hf : foldV (l.take (i + 1)) (l[0].2, l[0].2) = wider (foldV (l.take i) (l[0].2, l[0].2)) l[i].2 := foldl_take hq
    have hci : l[i].1.length = 4 := hri.len
    have hget : ∀ {K : V → Prop} {m : Nat}, m = i → K (.agg l[i].1) → ldCells ((l.flatMap (·.1)).drop (m * 4)) true 4 K := fun hm kk => ld_elem (f := (·.1)) (fun e he => (hr e he).len) hq hm kk
    obtain ⟨w1, w2, w3, w4, _, he, _⟩ := hri.1.four
    have hvi := hri.1
    have hbi := hri.2
    rw [he] at hvi hget
    generalize l[i].2 = vi at hvi hbi hf
    generalize foldV (l.take i) (l[0].2, l[0].2) = F at hf hb q1 q2 h3
    clear hci he hri
    refine go2 ?_
    refine idx_imm (by rfl) (by rfl) (by omega) (by omega) ?_
    refine go2 ?_
    refine hget (by omega) ?_
    refine go2 ?_
    refine call_C (ref01_Q_Cmp hvi q1 hbi hb.lo hk) (fun u hu => ?_)
    obtain rfl := hu
    refine go2 ?_
    rw [cmp_lss]
    cases d1 : dec (lessR vi F.1)
    case false =>
      have m1 : mnR F.1 vi = F.1 := by unfold mnR; rw [d1]; rfl
      refine go2 ?_
      refine idx_imm (by rfl) (by rfl) (by omega) (by omega) ?_
      refine go2 ?_
      refine hget (by omega) ?_
      refine go2 ?_
      refine call_C (ref01_Q_Cmp hvi q2 hbi hb.hi hk) (fun u hu => ?_)
      obtain rfl := hu
      refine go2 ?_
      rw [cmp_gtr]
      cases d2 : dec (lessR F.2 vi)
      case false =>
        have m2 : mxR F.2 vi = F.2 := by unfold mxR; rw [d2]; rfl
        refine go2 ?_
        rw [addI1 i (by omega)]
        refine l_n (by rfl) (by omega) ⟨i + 1, _, rfl, rfl, rfl, by omega, by omega, ?_⟩
        rw [hf]
        unfold wider
        rw [m1, m2]
        first | exact .of q1 q2 | exact .of hvi q2
      case true =>
        have m2 : mxR F.2 vi = vi := by unfold mxR; rw [d2]; rfl
        refine go2 ?_
        refine idx_imm (by rfl) (by rfl) (by omega) (by omega) ?_
        refine go2 ?_
        refine hget (by omega) ?_
        refine go2 ?_
        rw [addI1 i (by omega)]
        refine l_n (by rfl) (by omega) ⟨i + 1, _, rfl, rfl, rfl, by omega, by omega, ?_⟩
        rw [hf]
        unfold wider
        rw [m1, m2]
        first | exact .of q1 hvi | exact .of hvi hvi
    case true =>
      have m1 : mnR F.1 vi = vi := by unfold mnR; rw [d1]; rfl
      refine go2 ?_
      refine idx_imm (by rfl) (by rfl) (by omega) (by omega) ?_
      refine go2 ?_
      refine hget (by omega) ?_
      refine go2 ?_
      refine idx_imm (by rfl) (by rfl) (by omega) (by omega) ?_
      refine go2 ?_
      refine hget (by omega) ?_
      refine go2 ?_
      refine call_C (ref01_Q_Cmp hvi q2 hbi hb.hi hk) (fun u hu => ?_)
      obtain rfl := hu
      refine go2 ?_
      rw [cmp_gtr]
      cases d2 : dec (lessR F.2 vi)
      case false =>
        have m2 : mxR F.2 vi = F.2 := by unfold mxR; rw [d2]; rfl
        refine go2 ?_
        rw [addI1 i (by omega)]
        refine l_n (by rfl) (by omega) ⟨i + 1, _, rfl, rfl, rfl, by omega, by omega, ?_⟩
        rw [hf]
        unfold wider
        rw [m1, m2]
        first | exact .of q1 q2 | exact .of hvi q2
      case true =>
        have m2 : mxR F.2 vi = vi := by unfold mxR; rw [d2]; rfl
        refine go2 ?_
        refine idx_imm (by rfl) (by rfl) (by omega) (by omega) ?_
        refine go2 ?_
        refine hget (by omega) ?_
        refine go2 ?_
        rw [addI1 i (by omega)]
        refine l_n (by rfl) (by omega) ⟨i + 1, _, rfl, rfl, rfl, by omega, by omega, ?_⟩
        rw [hf]
        unfold wider
        rw [m1, m2]
        first | exact .of q1 hvi | exact .of hvi hvi

noncomputable def holdsB (x : SP) (p : R2) : Bool := dec (¬ lessR p x.1) && dec (¬ lessR x.2 p)
theorem ref05_Holds {k : Nat} {cs ds : List C} {x : SP} {p : R2} (hx : IsS cs x) (hy : IsRQ ds p.1 p.2) (bx : BdS k x) (bp : Bd k p) (hk : k ≤ 268435456) : semC Tryz.prog n_ref05_S_Holds [.agg cs, .agg ds] (EqK (.c (.bool (holdsB x p)))) := by
  refine semC_of_awpF ok_ref05_S_Holds rfl (show HFVs [.agg cs, .agg ds] from ⟨hx.hf, hy.hf, trivial⟩) ?_
  obtain ⟨a, b, c, d, a', b', c', d', rfl, q1, q2⟩ := hx.parts
  obtain ⟨e, f, g, h, _, rfl, _⟩ := hy.four
  unfold holdsB
  refine go2 ?_
  refine semH_of_semC (ref01_Q_Cmp q1 hy bx.lo bp hk) (fun u hu => ?_)
  obtain rfl := hu
  refine go2 ?_
  rw [cmp_leq]
  cases d1 : dec (¬ lessR p x.1)
  · refine go2 ?_
    exact ⟨_, .c (.hf trivial), rfl⟩
  · refine go2 ?_
    refine semH_of_semC (ref01_Q_Cmp q2 hy bx.hi bp hk) (fun u hu => ?_)
    obtain rfl := hu
    refine go2 ?_
    rw [cmp_geq]
    exact ⟨_, .c (.hf trivial), rfl⟩
end Go.Proofs.YtjncgcnofiaiaaaGreat

/-
  Meet, Hull, In: of the program and of the reference, with the same answers.
-/
set_option linter.unusedVariables false
set_option linter.unusedSimpArgs false
namespace Go.Proofs.YtjncgcnofiaiaaaGreat
open Go.RowKit
set_option maxRecDepth 20000

noncomputable def okB (x y : SP) : Bool := dec (SpanOk x ∧ SpanOk y)
noncomputable def meetR (x y : SP) : SP := (mxR x.1 y.1, mnR x.2 y.2)
noncomputable def meetV (x y : SP) : V := bif okB x y then (bif dec (lessR (meetR x y).2 (meetR x y).1) then .tup [.agg zeroC, .c (.bool false), i64 0] else .tup [.agg (spanC (meetR x y)), .c (.bool true), i64 0]) else .tup [.agg zeroC, .c (.bool false), i64 1]
noncomputable def hullR (x y : SP) : SP := [x.1, x.2, y.1, y.2].foldl wider (x.1, x.1)
noncomputable def hullV (x y : SP) : V := bif okB x y then .tup [.agg (spanC (hullR x y)), i64 0] else .tup [.agg zeroC, i64 1]
noncomputable def inV (x : SP) (p : R2) : V := bif dec (SpanOk x ∧ IsRat p.1 p.2) then .tup [.c (.bool (holdsB x p)), i64 0] else .tup [.c (.bool false), i64 1]
theorem check_ok (x y : SP) : checkB 1 [x, y] = okB x y := by
  unfold checkB okB
  rw [dec_true.2 (by decide : (1 : Int) ≤ 1 ∧ (1 : Int) ≤ 1000000), Bool.and_true]
  congr 1
  simp
theorem meet_told {x y : SP} (hx : SpanOk x) (hy : SpanOk y) : toldV (meetR x y) = .tup [.agg (spanC (meetR x y)), i64 0] := by
  unfold toldV meetR
  rw [(hx.1.mx hy.1).fit, (hx.2.1.mn hy.2.1).fit]
  rfl
theorem wider_rat {a : SP} {p : R2} (h1 : IsRat a.1.1 a.1.2) (h2 : IsRat a.2.1 a.2.2) (hp : IsRat p.1 p.2) : IsRat (wider a p).1.1 (wider a p).1.2 ∧ IsRat (wider a p).2.1 (wider a p).2.2 := ⟨h1.mn hp, h2.mx hp⟩
theorem fold_rat : ∀ {l : List R2} {a : SP}, IsRat a.1.1 a.1.2 → IsRat a.2.1 a.2.2 → (∀ p ∈ l, IsRat p.1 p.2) → IsRat (l.foldl wider a).1.1 (l.foldl wider a).1.2 ∧ IsRat (l.foldl wider a).2.1 (l.foldl wider a).2.2
  | [], _, h1, h2, _ => ⟨h1, h2⟩
  | p :: t, a, h1, h2, hl => by
    obtain ⟨w1, w2⟩ := wider_rat h1 h2 (hl p (by simp))
    exact fold_rat (l := t) w1 w2 (fun q hq => hl q (by simp [hq]))
theorem hull_rat {x y : SP} (hx : SpanOk x) (hy : SpanOk y) : IsRat (hullR x y).1.1 (hullR x y).1.2 ∧ IsRat (hullR x y).2.1 (hullR x y).2.2 :=
  fold_rat (l := [x.1, x.2, y.1, y.2]) hx.1 hx.1 (fun p hp => by
    simp at hp
    rcases hp with rfl | rfl | rfl | rfl
    · exact hx.1
    · exact hx.2.1
    · exact hy.1
    · exact hy.2.1)
theorem hull_told {x y : SP} (hx : SpanOk x) (hy : SpanOk y) : toldV (hullR x y) = .tup [.agg (spanC (hullR x y)), i64 0] := by
  obtain ⟨h1, h2⟩ := hull_rat hx hy
  unfold toldV
  rw [h1.fit, h2.fit]
  rfl
attribute [local irreducible] compare' semH semC qLen qNil qIad qSlc qIdx ldBox ldCells stBox appX awpF awpOpsF awpDF xopF xopDF qval lval seqQ blockQ loopQ bodyF retKF cnd arith IntKind.wrap

end Go.Proofs.YtjncgcnofiaiaaaGreat

/-
  num: quotients of small numbers; Gcd, Over, Floor out of a contract of Quo.
-/
set_option linter.unusedVariables false
set_option linter.unusedSimpArgs false
namespace Go.Proofs.YtjncgcnofiaiaaaGreat
open Go.RowKit
set_option maxRecDepth 20000

def QuoK (a b : Int) (u : V) : Prop := ∃ cs ds, u = .tup [.agg cs, .agg ds] ∧ IsZ cs (a.tdiv b) ∧ IsZ ds (a.tmod b)
theorem QuoK.fz {a b : Int} {cs ds : List C} {H : Hp} (h1 : IsZ cs (a.tdiv b)) (h2 : IsZ ds (a.tmod b)) : ∃ e, FzV H (.tup [.agg cs, .agg ds]) e ∧ QuoK a b e := ⟨_, .tup (.cons (.agg (.hf h1.hf)) (.cons (.agg (.hf h2.hf)) .nil)), _, _, rfl, h1, h2⟩
/-- Numbers of such a kind are divided rightly. -/
def QuoOk (S : Int → Prop) : Prop := ∀ (cs ds : List C) (a b : Int), IsZ cs a → IsZ ds b → S a → S b → b ≠ 0 → semC Tryz.prog n_num_Z_Quo [.agg cs, .agg ds] (QuoK a b)
/-- A kind of numbers that holds the lesser ones as well. -/
structure SCl (S : Int → Prop) (n : Nat) : Prop where
  le : ∀ a b : Int, S a → b.natAbs ≤ a.natAbs → S b
  sz : ∀ a : Int, S a → Sz n a
  n : n ≤ 268435456
def Sm (z : Int) : Prop := z.natAbs < 9223372036854775808
theorem Sm.cl : SCl Sm 2 := ⟨fun a b h1 h2 => by unfold Sm at *; omega, fun a h => by unfold Sm at h; unfold Sz; omega, by decide⟩
theorem tdiv_le (a b : Int) : (a.tdiv b).natAbs ≤ a.natAbs := by
  rw [Int.natAbs_tdiv]
  exact Nat.div_le_self _ _
theorem tmod_le (a b : Int) : (a.tmod b).natAbs ≤ a.natAbs := by
  rw [Int.natAbs_tmod]
  exact Nat.mod_le _ _
theorem big_not {l : List Nat} {neg : Bool} {z : Int} (h : 9223372036854775808 ≤ val l) (e : z = amt neg (val l)) (hs : Sm z) : False := by
  unfold Sm at hs
  rw [e, amt_abs] at hs
  omega
theorem ar_quo {k : IntKind} {a b : Int} : arith .quo k a b = k.wrap (a.tdiv b) := rfl

theorem snd_live (H : Hp) (s t : Slot) : (H ++ [s] ++ [t])[H.length]? = some s := by simp
theorem set_snd (H : Hp) (s t u : Slot) : (H ++ [s] ++ [t]).set H.length u = H ++ [u] ++ [t] := by simp
theorem last_at {H : Hp} {i : Nat} {s : Slot} (h : i = H.length) : (H ++ [s])[i]? = some s := by
  subst h
  simp
theorem set_at {H : Hp} {i : Nat} {s t : Slot} (h : i = H.length) : (H ++ [s]).set i t = H ++ [t] := by
  subst h
  simp
/-! ### Fractions brought to lowest terms -/
def QRedK (n d : Int) (u : V) : Prop := ∃ cs p, u = .agg cs ∧ IsQ cs p ∧ 0 < p.2 ∧ Int.gcd p.1 p.2 = 1 ∧ p.1 * d = n * p.2 ∧ p.1.natAbs ≤ n.natAbs ∧ p.2.natAbs ≤ d.natAbs
theorem QRedK.fz {n d : Int} {p : R2} {cs : List C} {H : Hp} (h : IsQ cs p) (h1 : 0 < p.2) (h2 : Int.gcd p.1 p.2 = 1) (h3 : p.1 * d = n * p.2) (h4 : p.1.natAbs ≤ n.natAbs) (h5 : p.2.natAbs ≤ d.natAbs) : ∃ e, FzV H (.agg cs) e ∧ QRedK n d e :=
  ⟨_, .agg (.hf h.hf), cs, p, rfl, h, h1, h2, h3, h4, h5⟩
theorem gcd_tdiv {n d : Int} (hd : 0 < d) : Int.gcd (n.tdiv (Int.gcd n d : Nat)) (d.tdiv (Int.gcd n d : Nat)) = 1 ∧ n.tdiv (Int.gcd n d : Nat) * d = n * d.tdiv (Int.gcd n d : Nat) ∧ 0 < d.tdiv (Int.gcd n d : Nat) := by
  have hg : 0 < Int.gcd n d := Int.gcd_pos_of_ne_zero_right _ (by omega)
  obtain ⟨k, hk⟩ := Int.gcd_dvd_left n d
  obtain ⟨m, hm⟩ := Int.gcd_dvd_right n d
  generalize hgg : Int.gcd n d = g at hg hk hm ⊢
  have hg' : (g : Int) ≠ 0 := by omega
  have e1 : n.tdiv (g : Int) = k := by rw [hk, Int.mul_tdiv_cancel_left _ hg']
  have e2 : d.tdiv (g : Int) = m := by rw [hm, Int.mul_tdiv_cancel_left _ hg']
  rw [e1, e2]
  refine ⟨?_, ?_, ?_⟩
  · rw [hk, hm, Int.gcd_mul_left] at hgg
    simp only [Int.natAbs_natCast] at hgg
    exact Nat.eq_of_mul_eq_mul_left hg (by omega)
  · rw [hk, hm]
    grind
  · rcases Int.lt_trichotomy m 0 with h | h | h
    · have : (g : Int) * m < 0 := Int.mul_neg_of_pos_of_neg (by omega) h
      omega
    · subst h
      simp at hm
      omega
    · exact h
theorem floor_eq {a b : Int} (hb : 0 < b) : a / b = if a.tmod b < 0 then a.tdiv b - 1 else a.tdiv b := by
  have e := Int.mul_tdiv_add_tmod a b
  have hlt : (a.tmod b).natAbs < b.natAbs := by
    rw [Int.natAbs_tmod]
    exact Nat.mod_lt _ (by omega)
  have hu := fun (r q : Int) (h1 : r + b * q = a) (h2 : 0 ≤ r) (h3 : r < b) => (Int.ediv_emod_unique hb).2 ⟨h1, h2, h3⟩
  split
  · exact (hu (a.tmod b + b) (a.tdiv b - 1) (by rw [Int.mul_sub]; omega) (by omega) (by omega)).1
  · exact (hu (a.tmod b) (a.tdiv b) (by omega) (by omega) (by omega)).1
attribute [local irreducible] compare' semH semC qLen qNil qIad qSlc qIdx ldBox ldCells stBox appX awpF awpOpsF awpDF xopF xopDF qval lval seqQ blockQ loopQ bodyF retKF cnd arith IntKind.wrap

theorem quoOk_small : QuoOk Sm := by
  intro cs ds a b hx hy sa sb h0
  refine semC_of_awpF ok_num_Z_Quo rfl (show HFVs [.agg cs, .agg ds] from ⟨hx.hf, hy.hf, trivial⟩) ?_
  rcases hx.look with ⟨rfl, x1, x2⟩ | ⟨lx, nx, rfl, xn, xv, xe⟩
  case inr => exact (big_not xv xe sa).elim
  rcases hy.look with ⟨rfl, y1, y2⟩ | ⟨ly, ny, rfl, yn, yv, ye⟩
  case inr => exact (big_not yv ye sb).elim
  unfold Sm at sa sb
  have q1 := tdiv_le a b
  have q2 := tmod_le a b
  refine go2 ?_
  cases hq : compare' Cm.neq a (-9223372036854775808)
  case false =>
    simp [compare'] at hq
    omega
  refine go2 ?_
  refine q_ar (by rfl) (by rfl) (by simp [needs, h0]) ?_
  rw [ar_quo, wrap_i64 (by omega) (by omega)]
  refine go2 ?_
  refine q_ar (by rfl) (by rfl) (by simp [needs, h0]) ?_
  rw [ar_rem]
  refine go2 ?_
  exact QuoK.fz (.small _ (by omega) (by omega)) (.small _ (by omega) (by omega))

theorem num_Z_Floor {S : Int → Prop} {n : Nat} (hS : SCl S n) (hQ : QuoOk S) {cs ds : List C} {a b : Int} (hx : IsZ cs a) (hy : IsZ ds b) (sa : S a) (sb : S b) (h0 : 0 < b) : semC Tryz.prog n_num_Z_Floor [.agg cs, .agg ds] (ZK (a / b)) := by
  refine semC_of_awpF ok_num_Z_Floor rfl (show HFVs [.agg cs, .agg ds] from ⟨hx.hf, hy.hf, trivial⟩) ?_
  obtain ⟨a1, a2, a3, rfl⟩ := hx.three
  obtain ⟨b1, b2, b3, rfl⟩ := hy.three
  rw [floor_eq h0]
  refine go2 ?_
  refine semH_of_semC (hQ _ _ a b hx hy sa sb (by omega)) (fun u hu => ?_)
  obtain ⟨es, fs, rfl, hq, hr⟩ := hu
  obtain ⟨c1, c2, c3, rfl⟩ := hq.three
  obtain ⟨d1, d2, d3, rfl⟩ := hr.three
  refine go2 ?_
  refine semH_of_semC (num_Z_Sign hr) (fun u hu => ?_)
  obtain rfl := hu
  refine go2 ?_
  cases hc : compare' Cm.lss (sgn (a.tmod b)) 0
  · have h1 : ¬ a.tmod b < 0 := by
      simp only [compare', dec_false] at hc
      unfold sgn at hc
      intro h
      rw [if_pos h] at hc
      omega
    rw [if_neg h1]
    refine go2 ?_
    exact ZK.fz hq
  · have h1 : a.tmod b < 0 := by
      simp only [compare', dec_true] at hc
      unfold sgn at hc
      split at hc
      · assumption
      · split at hc <;> omega
    rw [if_pos h1]
    refine go2 ?_
    simp only [spanC, zeroC, ratC, zeroE, zeroS, List.set_cons_zero, List.set_cons_succ, List.nil_append, List.cons_append, List.append_nil, List.replicate_succ, List.replicate_zero, List.length_cons, List.length_nil, splice, List.take_succ_cons, List.take_zero, List.drop_succ_cons, List.drop_zero, List.take_nil, List.drop_nil, Nat.zero_add, Nat.reduceAdd, Nat.reduceMul, Int.reduceToNat, closeB, List.getElem?_cons_succ, List.getElem?_cons_zero]
    refine call_C (num_I 1 (by omega) (by omega)) (fun u hu => ?_)
    obtain ⟨gs, rfl, h2⟩ := hu
    refine go2 ?_
    have hsz : Sz (n + 1) 1 := by
      unfold Sz
      rw [Nat.pow_succ]
      have := Nat.pow_pos (n := n) (show 0 < 4294967296 by decide)
      omega
    have hsq : Sz (n + 1) (a.tdiv b) := by
      have h3 := hS.sz _ (hS.le a _ sa (tdiv_le a b))
      unfold Sz at *
      rw [Nat.pow_succ]
      omega
    have hn := hS.n
    refine call_C (num_Z_Sub (n := n + 1) hq h2 hsq hsz (by omega)) (fun u hu => ?_)
    obtain ⟨ks, rfl, h4⟩ := hu
    obtain ⟨e1, e2, e3, rfl⟩ := h4.three
    refine go2 ?_
    exact ZK.fz h4

theorem num_Gcd {S : Int → Prop} {n : Nat} (hS : SCl S n) (hQ : QuoOk S) {cs ds : List C} {a b : Int} (hx : IsZ cs a) (hy : IsZ ds b) (sa : S a) (sb : S b) : semC Tryz.prog n_num_Gcd [.agg cs, .agg ds] (ZK (Int.gcd a b : Nat)) := by
  refine semC_of_awpF ok_num_Gcd rfl (show HFVs [.agg cs, .agg ds] from ⟨hx.hf, hy.hf, trivial⟩) ?_
  obtain ⟨a1, a2, a3, rfl⟩ := hx.three
  obtain ⟨b1, b2, b3, rfl⟩ := hy.three
  have hn := hS.n
  refine go2 ?_
  refine call_C (num_Z_Abs hx (hS.sz _ sa) (by omega)) (fun u hu => ?_)
  obtain ⟨es, rfl, h1⟩ := hu
  refine go2 ?_
  refine call_C (num_Z_Abs hy (hS.sz _ sb) (by omega)) (fun u hu => ?_)
  obtain ⟨fs, rfl, h2⟩ := hu
  obtain ⟨c1, c2, c3, rfl⟩ := h1.three
  obtain ⟨d1, d2, d3, rfl⟩ := h2.three
  refine go2 ?_
  refine f_loop (fun m vs H => ∃ (xs ys : List C) (x y : Int) (junk : Hp), vs = [.c (.ptr 0 0), .c (.ptr 1 0), .c (.ptr 2 0)] ∧ H = .live ⟨xs, T_num_Z, .rw⟩ :: .live ⟨ys, T_num_Z, .rw⟩ :: .live ⟨[.int .i64 0, .nilSl, .bool false], T_num_Z, .rw⟩ :: junk ∧ m = y.natAbs ∧ IsZ xs x ∧ IsZ ys y ∧ 0 ≤ x ∧ 0 ≤ y ∧ S x ∧ S y ∧ Int.gcd x y = Int.gcd a b) (by rfl) ⟨_, _, a.natAbs, b.natAbs, [], rfl, rfl, rfl, h1, h2, by omega, by omega, hS.le _ _ sa (by simp), hS.le _ _ sb (by simp), by simp [Int.gcd]⟩ ?_
  clear h1 h2
  rintro m vs H ⟨xs, ys, x, y, junk, rfl, rfl, rfl, k1, k2, k3, k4, k5, k6, k7⟩
  have k1' := k1
  have k2' := k2
  obtain ⟨c1, c2, c3, rfl⟩ := k1'.three
  obtain ⟨d1, d2, d3, rfl⟩ := k2'.three
  refine go2 ?_
  refine semH_of_semC (num_Z_Sign k2) (fun u hu => ?_)
  obtain rfl := hu
  refine go2 ?_
  cases hq : compare' Cm.neq (sgn y) 0
  case false =>
    have hy0 : y = 0 := by
      simp only [compare', dec_false] at hq
      unfold sgn at hq
      split at hq
      · omega
      · split at hq <;> omega
    subst hy0
    rw [Int.gcd_zero_right] at k7
    refine go2 ?_
    have e : ((Int.gcd a b : Nat) : Int) = x := by omega
    rw [e]
    exact ZK.fz k1
  have hy0 : y ≠ 0 := by
    simp only [compare', dec_true] at hq
    intro h
    rw [h] at hq
    exact hq rfl
  refine go2 ?_
  rcases k1.look with ⟨ex, x1, x2⟩ | ⟨lx, nx, ex, xn, xv, xe⟩
  · simp only [List.cons.injEq, and_true] at ex
    obtain ⟨rfl, rfl, rfl⟩ := ex
    rcases k2.look with ⟨ey, y1, y2⟩ | ⟨ly, ny, ey, yn, yv, ye⟩
    · simp only [List.cons.injEq, and_true] at ey
      obtain ⟨rfl, rfl, rfl⟩ := ey
      refine go2 ?_
      refine f_loop (fun m vs H => ∃ p q : Int, vs = [.c (.ptr 2 0), i64 p, i64 q] ∧ H = .live ⟨[.int .i64 x, .nilSl, .bool false], T_num_Z, .rw⟩ :: .live ⟨[.int .i64 y, .nilSl, .bool false], T_num_Z, .rw⟩ :: .live ⟨[.int .i64 0, .nilSl, .bool false], T_num_Z, .rw⟩ :: junk ∧ m = q.natAbs ∧ 0 ≤ p ∧ 0 ≤ q ∧ p < 9223372036854775808 ∧ q < 9223372036854775808 ∧ Int.gcd p q = Int.gcd a b) (by rfl) ⟨x, y, rfl, rfl, rfl, k3, k4, x2, y2, k7⟩ ?_
      rintro m vs H ⟨p, q, rfl, rfl, rfl, p1, p2, p3, p4, p5⟩
      refine go2 ?_
      cases hq2 : compare' Cm.neq q 0
      case false =>
        simp [compare'] at hq2
        subst hq2
        rw [Int.gcd_zero_right] at p5
        refine go2 ?_
        have e : ((Int.gcd a b : Nat) : Int) = p := by omega
        rw [e]
        exact ZK.fz (.small p (by omega) (by omega))
      simp [compare'] at hq2
      refine go2 ?_
      refine q_ar (by rfl) (by rfl) (by simp [needs, hq2]) ?_
      refine go2 ?_
      rw [ar_rem]
      have hp : 0 ≤ p.tmod q := Int.tmod_nonneg _ p1
      have hl := tmod_less (a := p) hq2
      exact l_n (by rfl) hl ⟨q, p.tmod q, rfl, rfl, rfl, p2, hp, p4, by omega, gcd_round.trans p5⟩
    · simp only [List.cons.injEq, and_true] at ey
      obtain ⟨rfl, rfl, rfl⟩ := ey
      refine go2 ?_
      refine semH_of_semC (hQ _ _ x y k1 k2 k5 k6 hy0) (fun u hu => ?_)
      obtain ⟨es, fs, rfl, hq2, hr⟩ := hu
      obtain ⟨g1, g2, g3, rfl⟩ := hq2.three
      obtain ⟨h1, h2, h3, rfl⟩ := hr.three
      refine go2 ?_
      refine st_box (snd_live _ _ _) (by rfl) (by rfl) (Nat.le_of_ble_eq_true (by rfl)) ?_
      rw [set_snd]
      refine go2 ?_
      refine st_box (last_at (by simp)) (by rfl) (by rfl) (Nat.le_of_ble_eq_true (by rfl)) ?_
      rw [set_at (by simp)]
      refine go2 ?_
      refine ld_boxA (last_at (by simp)) (by rfl) ?_
      refine go2 ?_
      have hp : 0 ≤ x.tmod y := Int.tmod_nonneg _ k3
      exact l_n (by rfl) (tmod_less (a := x) hy0) ⟨_, _, y, x.tmod y, _, rfl, rfl, rfl, k2, hr, k4, hp, k6, hS.le _ _ k5 (tmod_le x y), gcd_round.trans k7⟩
  · simp only [List.cons.injEq, and_true] at ex
    obtain ⟨rfl, rfl, rfl⟩ := ex
    refine go2 ?_
    refine semH_of_semC (hQ _ _ x y k1 k2 k5 k6 hy0) (fun u hu => ?_)
    obtain ⟨es, fs, rfl, hq2, hr⟩ := hu
    obtain ⟨g1, g2, g3, rfl⟩ := hq2.three
    obtain ⟨h1, h2, h3, rfl⟩ := hr.three
    refine go2 ?_
    refine st_box (snd_live _ _ _) (by rfl) (by rfl) (Nat.le_of_ble_eq_true (by rfl)) ?_
    rw [set_snd]
    refine go2 ?_
    refine st_box (last_at (by simp)) (by rfl) (by rfl) (Nat.le_of_ble_eq_true (by rfl)) ?_
    rw [set_at (by simp)]
    refine go2 ?_
    refine ld_boxA (last_at (by simp)) (by rfl) ?_
    refine go2 ?_
    have hp : 0 ≤ x.tmod y := Int.tmod_nonneg _ k3
    exact l_n (by rfl) (tmod_less (a := x) hy0) ⟨_, _, y, x.tmod y, _, rfl, rfl, rfl, k2, hr, k4, hp, k6, hS.le _ _ k5 (tmod_le x y), gcd_round.trans k7⟩
end Go.Proofs.YtjncgcnofiaiaaaGreat
