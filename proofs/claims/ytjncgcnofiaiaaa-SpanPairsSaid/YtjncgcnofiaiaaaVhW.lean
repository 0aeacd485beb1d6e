/-
  ref01.parts, whole; divisor; ratio; Of.
-/
import Derived.Test.YtjncgcnofiaiaaaVhV
set_option linter.unusedVariables false
set_option linter.unusedSimpArgs false
namespace Go.Proofs.Ytjncgcnofiaiaaa
open Go.RowKit
set_option maxRecDepth 20000

theorem red_uniq {a b n d : Int} (h1 : Int.gcd a b = 1) (h2 : Int.gcd n d = 1) (hb : 0 < b) (hd : 0 < d) (h : a * d = n * b) : a = n ∧ b = d := by
  have hn := congrArg Int.natAbs h
  rw [Int.natAbs_mul, Int.natAbs_mul] at hn
  have c1 : Nat.Coprime d.natAbs n.natAbs := by rw [Nat.coprime_comm]; exact h2
  have c2 : Nat.Coprime b.natAbs a.natAbs := by rw [Nat.coprime_comm]; exact h1
  have e1 : d.natAbs ∣ b.natAbs := Nat.Coprime.dvd_of_dvd_mul_left c1 ⟨a.natAbs, by rw [← hn, Nat.mul_comm]⟩
  have e2 : b.natAbs ∣ d.natAbs := Nat.Coprime.dvd_of_dvd_mul_left c2 ⟨n.natAbs, by rw [hn, Nat.mul_comm]⟩
  have e3 := Nat.dvd_antisymm e1 e2
  have e4 : b = d := by omega
  subst e4
  exact ⟨Int.eq_of_mul_eq_mul_right (by omega) h, rfl⟩
theorem gcd_step {A B : Nat} : Nat.gcd B (A % B) = Nat.gcd A B := by
  rw [Nat.gcd_comm A B, Nat.gcd_rec B A, Nat.gcd_comm]
theorem val_nil_iff {l : List Nat} (h : Norm l) : l = [] ↔ val l = 0 := by
  constructor
  · intro e
    subst e
    rfl
  · intro e
    rcases Decidable.em (l = []) with h1 | h1
    · exact h1
    · have := val_pos h h1
      omega
theorem gcd_amt {m : Bool} {x y : Nat} : Int.gcd (amt m x) (amt false y) = Nat.gcd x y := by
  cases m <;> simp [amt, Int.gcd]
theorem red_div {m : Bool} {x y : Nat} (hy : 0 < y) : Int.gcd (amt m (x / x.gcd y)) (amt false (y / x.gcd y)) = 1 ∧ amt m (x / x.gcd y) * amt false y = amt m x * amt false (y / x.gcd y) ∧ 0 < y / x.gcd y ∧ x / x.gcd y ≤ x ∧ y / x.gcd y ≤ y := by
  have hg : 0 < x.gcd y := Nat.gcd_pos_of_pos_right _ hy
  refine ⟨?_, ?_, Nat.div_pos (Nat.le_of_dvd hy (Nat.gcd_dvd_right x y)) hg, Nat.div_le_self _ _, Nat.div_le_self _ _⟩
  · rw [gcd_amt]
    exact Nat.gcd_div_gcd_div_gcd_of_pos_right hy
  · obtain ⟨a, ha⟩ := Nat.gcd_dvd_left x y
    obtain ⟨b, hb⟩ := Nat.gcd_dvd_right x y
    generalize x.gcd y = g at hg ha hb ⊢
    have e : x / g * y = x * (y / g) := by
      rw [ha, hb, Nat.mul_div_cancel_left _ hg, Nat.mul_div_cancel_left _ hg]
      grind
    have e' : ((x / g : Nat) : Int) * (y : Int) = (x : Int) * ((y / g : Nat) : Int) := by exact_mod_cast e
    cases m
    · exact e'
    · simp only [amt, cond_true, cond_false, Int.neg_mul]
      rw [e']
/-- A ref01.Q in lowest terms, worth n / d. -/
def RedK (n d : Int) (u : V) : Prop := ∃ cs a b, u = .agg cs ∧ IsRQ cs a b ∧ 0 < b ∧ Int.gcd a b = 1 ∧ a * d = n * b ∧ a.natAbs ≤ n.natAbs ∧ b.natAbs ≤ d.natAbs
theorem IsRQ.hf {cs : List C} {a b : Int} (h : IsRQ cs a b) : HFL cs := by
  cases h with
  | mk hn hd =>
    obtain ⟨c1, l1, m1, rfl, w1, o1, g1, e1⟩ := hn.two
    obtain ⟨c2, l2, m2, rfl, w2, o2, g2, e2⟩ := hd.two
    exact ⟨w1.hf, trivial, w2.hf, trivial, trivial⟩
theorem IsRQ.of {c1 c2 : C} {m1 m2 : Bool} {a b : Int} (hn : IsW [c1, .bool m1] a) (hd : IsW [c2, .bool m2] b) (hb : b ≠ 0) : IsRQ [c1, .bool m1, c2, .bool m2] a b := by
  have := IsRQ.mk hn hd
  rwa [if_neg hb] at this
theorem IsRQ.four {cs : List C} {a b : Int} (h : IsRQ cs a b) : ∃ c1 m1 c2 m2 d, cs = [c1, .bool m1, c2, .bool m2] ∧ IsW [c1, .bool m1] a ∧ IsW [c2, .bool m2] d ∧ b = if d = 0 then 1 else d := by
  cases h with
  | mk hn hd =>
    obtain ⟨c1, l1, m1, rfl, _⟩ := hn.two
    obtain ⟨c2, l2, m2, rfl, _⟩ := hd.two
    exact ⟨_, _, _, _, _, rfl, hn, hd, rfl⟩
theorem RedK.fz {n d a b : Int} {cs : List C} {H : Hp} (h : IsRQ cs a b) (h1 : 0 < b) (h2 : Int.gcd a b = 1) (h3 : a * d = n * b) (h4 : a.natAbs ≤ n.natAbs) (h5 : b.natAbs ≤ d.natAbs) : ∃ e, FzV H (.agg cs) e ∧ RedK n d e :=
  ⟨_, .agg (.hf h.hf), cs, a, b, rfl, h, h1, h2, h3, h4, h5⟩
attribute [local irreducible] compare' semH semC qLen qNil qIad qSlc qIdx ldBox ldCells stBox appX awpF awpOpsF awpDF xopF xopDF qval lval seqQ blockQ loopQ bodyF retKF cnd arith IntKind.wrap
theorem x_store_last {P : Program} {e : Env} {H : Hp} {K : V → Hp → Prop} {agg : Bool} {size off : Nat} {a x : AO} {v : V} {cs l : List C} {el : TypeId} (h : a.ev e = some (.c (.ptr H.length off))) (h2 : x.ev e = some v) (h3 : cellsOf agg v = some l) (h4 : Nat.beq l.length size = true) (h5 : off + size ≤ cs.length) (k : K (.tup []) (H ++ [.live ⟨splice cs off l, el, .rw⟩])) : xopF P e (H ++ [.live ⟨cs, el, .rw⟩]) (.store agg size a x) K := by
  refine x_store h h2 (st_box (last_live _ _) h3 h4 h5 ?_)
  rw [set_last]
  exact k
theorem xd_store_last {P : Program} {e : Env} {H : Hp} {K : V → Hp → Prop} {nid : Nat} {agg : Bool} {size off : Nat} {a x : AO} {v : V} {cs l : List C} {el : TypeId} (h : a.ev e = some (.c (.ptr H.length off))) (h2 : x.ev e = some v) (h3 : cellsOf agg v = some l) (h4 : Nat.beq l.length size = true) (h5 : off + size ≤ cs.length) (k : K (.tup []) (H ++ [.live ⟨splice cs off l, el, .rw⟩])) : xopDF P e (H ++ [.live ⟨cs, el, .rw⟩]) nid (.store agg size a x) K := by
  refine xd_store h h2 (st_box (last_live _ _) h3 h4 h5 ?_)
  rw [set_last]
  exact k
/-- As go, with more kinds of steps. -/
theorem go2 {A B : Prop} (k : B) (h : Held B → A := by
  intro hgo
  repeat (first | (refine g_o ?_; first | (refine o_some ?_; try (first | (refine x_q (by rfl) ?_; try (first | refine q_mv (by rfl) ?_ | refine q_faddr (by rfl) ?_ | (refine q_len ?_; try (first | refine len_wd (by rfl) (by assumption) ?_ | refine len_sl (by rfl) ?_ | refine len_imm (by rfl) ?_ | refine len_nil (by rfl) ?_)) | (refine q_iad ?_; try (first | refine idx_wd (by rfl) (by rfl) (by assumption) (by omega) (by omega) ?_ | refine idx_ptr (by rfl) (by rfl) (by decide) (by decide) ?_ | refine idx_sl (by rfl) (by rfl) (by decide) (by decide) ?_ | refine idx_imm (by rfl) (by rfl) (by decide) (by decide) ?_)) | refine q_cm (by rfl) (by rfl) ?_ | refine q_ar (by rfl) (by rfl) (by rfl) ?_ | refine q_conv (by rfl) ?_ | (refine q_eqN ?_; try (first | refine eqn_nil (by rfl) ?_ | refine eqn_imm (by rfl) ?_ | refine eqn_sl (by rfl) ?_)) | refine q_ext (by rfl) (by rfl) ?_ | refine q_build (by rfl) ?_ | refine q_shl (by rfl) (by rfl) (by first | decide | omega) ?_ | refine q_shr (by rfl) (by rfl) (by first | decide | omega) ?_ | refine q_eqB (by rfl) (by rfl) ?_ | refine q_eqA (by rfl) (by rfl) (by rfl) ?_ | refine q_neg (by rfl) ?_ | refine q_not (by rfl) ?_ | refine q_pick_t (by rfl) (by rfl) ?_ | refine q_pick_f (by rfl) (by rfl) ?_ | refine q_slc ?_ | refine q_idx ?_ | refine q_fld (by rfl) (by rfl) ?_ | refine q_fldA (by rfl) (by rfl) ?_ | refine q_faddrI (by rfl) ?_ | refine q_mx (by rfl) (by rfl) ?_ | refine q_mn (by rfl) (by rfl) ?_ | refine q_fnc (by rfl) ?_ | refine q_chkP (by rfl) ?_ | refine q_chkF (by rfl) ?_)) | (refine x_load ?_; try (first | (refine l_ptr (by rfl) ?_; try (first | refine ld_box (by rfl) (by rfl) ?_ | refine ld_boxA (by rfl) (by rfl) ?_ | refine ld_box (last_live _ _) (by rfl) ?_ | refine ld_boxA (last_live _ _) (by rfl) ?_)) | (refine l_ipt (by rfl) ?_; try (first | refine ld_wd (by omega) (by omega) ?_ | refine ld_cellsA (Nat.le_of_ble_eq_true (by rfl)) ?_)))) | refine x_store_last (by rfl) (by rfl) (by rfl) (by rfl) (Nat.le_of_ble_eq_true (by rfl)) ?_ | (refine x_store (by rfl) (by rfl) ?_; try (first | refine st_box (by rfl) (by rfl) (by rfl) (Nat.le_of_ble_eq_true (by rfl)) ?_)) | refine x_call (by rfl) (by rfl) ?_ | refine x_box (by rfl) (by rfl) ?_ | refine x_alloc ?_ | refine x_buildSl (by rfl) ?_ | refine x_app ?_)) | (refine o_nil ?_; try (first | refine s_n ?_ | refine s_r ?_ | refine s_e ?_ | refine k_n ?_ | refine k_r ?_ | refine k_e (by rfl) ?_ | refine k_o (by rfl) ?_ | refine l_r ?_ | refine l_e ?_ | refine b_r ?_ | refine b_n ?_)) | refine o_guard (by rfl) ?_ | refine o_guardT (by rfl) ?_ | refine o_none ?_ | refine o_guardN (by rfl) ?_) | (refine g_f ?_; first | refine f_seq ?_ | refine f_reg ?_ | (refine f_cond (by rfl) ?_; try (first | refine c_t (by rfl) ?_ | refine c_f (by rfl) ?_)) | refine f_block ?_ | refine f_skip ?_ | refine f_ret ?_ | refine f_exit ?_ | refine f_regD0 ?_ | refine f_regD ?_) | (refine g_s ?_; first | refine s_n ?_ | refine s_r ?_ | refine s_e ?_) | (refine g_d ?_; first | (refine d_some (T := none) (by rfl) (by rfl) ?_; try (first | (refine xd_q (by rfl) ?_; try (first | refine q_mv (by rfl) ?_ | refine q_faddr (by rfl) ?_ | (refine q_len ?_; try (first | refine len_wd (by rfl) (by assumption) ?_ | refine len_sl (by rfl) ?_ | refine len_imm (by rfl) ?_ | refine len_nil (by rfl) ?_)) | (refine q_iad ?_; try (first | refine idx_wd (by rfl) (by rfl) (by assumption) (by omega) (by omega) ?_ | refine idx_ptr (by rfl) (by rfl) (by decide) (by decide) ?_ | refine idx_sl (by rfl) (by rfl) (by decide) (by decide) ?_ | refine idx_imm (by rfl) (by rfl) (by decide) (by decide) ?_)) | refine q_cm (by rfl) (by rfl) ?_ | refine q_ar (by rfl) (by rfl) (by rfl) ?_ | refine q_conv (by rfl) ?_ | (refine q_eqN ?_; try (first | refine eqn_nil (by rfl) ?_ | refine eqn_imm (by rfl) ?_ | refine eqn_sl (by rfl) ?_)) | refine q_ext (by rfl) (by rfl) ?_ | refine q_build (by rfl) ?_ | refine q_shl (by rfl) (by rfl) (by first | decide | omega) ?_ | refine q_shr (by rfl) (by rfl) (by first | decide | omega) ?_ | refine q_eqB (by rfl) (by rfl) ?_ | refine q_eqA (by rfl) (by rfl) (by rfl) ?_ | refine q_neg (by rfl) ?_ | refine q_not (by rfl) ?_ | refine q_pick_t (by rfl) (by rfl) ?_ | refine q_pick_f (by rfl) (by rfl) ?_ | refine q_slc ?_ | refine q_idx ?_ | refine q_fld (by rfl) (by rfl) ?_ | refine q_fldA (by rfl) (by rfl) ?_ | refine q_faddrI (by rfl) ?_ | refine q_mx (by rfl) (by rfl) ?_ | refine q_mn (by rfl) (by rfl) ?_ | refine q_fnc (by rfl) ?_ | refine q_chkP (by rfl) ?_ | refine q_chkF (by rfl) ?_)) | (refine xd_load ?_; try (first | (refine l_ptr (by rfl) ?_; try (first | refine ld_box (by rfl) (by rfl) ?_ | refine ld_boxA (by rfl) (by rfl) ?_ | refine ld_box (last_live _ _) (by rfl) ?_ | refine ld_boxA (last_live _ _) (by rfl) ?_)) | (refine l_ipt (by rfl) ?_; try (first | refine ld_wd (by omega) (by omega) ?_ | refine ld_cellsA (Nat.le_of_ble_eq_true (by rfl)) ?_)))) | refine xd_store_last (by rfl) (by rfl) (by rfl) (by rfl) (Nat.le_of_ble_eq_true (by rfl)) ?_ | (refine xd_store (by rfl) (by rfl) ?_; try (first | refine st_box (by rfl) (by rfl) (by rfl) (Nat.le_of_ble_eq_true (by rfl)) ?_)) | refine xd_call (by rfl) (by rfl) ?_ | refine xd_box (by rfl) (by rfl) (by rfl) ?_ | refine xd_alloc (by rfl) ?_ | refine xd_buildSl (by rfl) (by rfl) ?_)) | (refine d_some (by rfl) (by rfl) ?_; try (first | (refine xd_q (by rfl) ?_; try (first | refine q_mv (by rfl) ?_ | refine q_faddr (by rfl) ?_ | (refine q_len ?_; try (first | refine len_wd (by rfl) (by assumption) ?_ | refine len_sl (by rfl) ?_ | refine len_imm (by rfl) ?_ | refine len_nil (by rfl) ?_)) | (refine q_iad ?_; try (first | refine idx_wd (by rfl) (by rfl) (by assumption) (by omega) (by omega) ?_ | refine idx_ptr (by rfl) (by rfl) (by decide) (by decide) ?_ | refine idx_sl (by rfl) (by rfl) (by decide) (by decide) ?_ | refine idx_imm (by rfl) (by rfl) (by decide) (by decide) ?_)) | refine q_cm (by rfl) (by rfl) ?_ | refine q_ar (by rfl) (by rfl) (by rfl) ?_ | refine q_conv (by rfl) ?_ | (refine q_eqN ?_; try (first | refine eqn_nil (by rfl) ?_ | refine eqn_imm (by rfl) ?_ | refine eqn_sl (by rfl) ?_)) | refine q_ext (by rfl) (by rfl) ?_ | refine q_build (by rfl) ?_ | refine q_shl (by rfl) (by rfl) (by first | decide | omega) ?_ | refine q_shr (by rfl) (by rfl) (by first | decide | omega) ?_ | refine q_eqB (by rfl) (by rfl) ?_ | refine q_eqA (by rfl) (by rfl) (by rfl) ?_ | refine q_neg (by rfl) ?_ | refine q_not (by rfl) ?_ | refine q_pick_t (by rfl) (by rfl) ?_ | refine q_pick_f (by rfl) (by rfl) ?_ | refine q_slc ?_ | refine q_idx ?_ | refine q_fld (by rfl) (by rfl) ?_ | refine q_fldA (by rfl) (by rfl) ?_ | refine q_faddrI (by rfl) ?_ | refine q_mx (by rfl) (by rfl) ?_ | refine q_mn (by rfl) (by rfl) ?_ | refine q_fnc (by rfl) ?_ | refine q_chkP (by rfl) ?_ | refine q_chkF (by rfl) ?_)) | (refine xd_load ?_; try (first | (refine l_ptr (by rfl) ?_; try (first | refine ld_box (by rfl) (by rfl) ?_ | refine ld_boxA (by rfl) (by rfl) ?_ | refine ld_box (last_live _ _) (by rfl) ?_ | refine ld_boxA (last_live _ _) (by rfl) ?_)) | (refine l_ipt (by rfl) ?_; try (first | refine ld_wd (by omega) (by omega) ?_ | refine ld_cellsA (Nat.le_of_ble_eq_true (by rfl)) ?_)))) | refine xd_store_last (by rfl) (by rfl) (by rfl) (by rfl) (Nat.le_of_ble_eq_true (by rfl)) ?_ | (refine xd_store (by rfl) (by rfl) ?_; try (first | refine st_box (by rfl) (by rfl) (by rfl) (Nat.le_of_ble_eq_true (by rfl)) ?_)) | refine xd_call (by rfl) (by rfl) ?_ | refine xd_box (by rfl) (by rfl) (by rfl) ?_ | refine xd_alloc (by rfl) ?_ | refine xd_buildSl (by rfl) (by rfl) ?_)) | (refine d_nil ?_; try (first | refine s_n ?_ | refine s_r ?_ | refine s_e ?_ | refine k_n ?_ | refine k_r ?_ | refine k_e (by rfl) ?_ | refine k_o (by rfl) ?_ | refine l_r ?_ | refine l_e ?_ | refine b_r ?_ | refine b_n ?_)) | refine d_none (by rfl) (by rfl) ?_ | refine d_guard (by rfl) (by rfl) (by rfl) ?_) | (refine g_x ?_; first | (refine x_q (by rfl) ?_; try (first | refine q_mv (by rfl) ?_ | refine q_faddr (by rfl) ?_ | (refine q_len ?_; try (first | refine len_wd (by rfl) (by assumption) ?_ | refine len_sl (by rfl) ?_ | refine len_imm (by rfl) ?_ | refine len_nil (by rfl) ?_)) | (refine q_iad ?_; try (first | refine idx_wd (by rfl) (by rfl) (by assumption) (by omega) (by omega) ?_ | refine idx_ptr (by rfl) (by rfl) (by decide) (by decide) ?_ | refine idx_sl (by rfl) (by rfl) (by decide) (by decide) ?_ | refine idx_imm (by rfl) (by rfl) (by decide) (by decide) ?_)) | refine q_cm (by rfl) (by rfl) ?_ | refine q_ar (by rfl) (by rfl) (by rfl) ?_ | refine q_conv (by rfl) ?_ | (refine q_eqN ?_; try (first | refine eqn_nil (by rfl) ?_ | refine eqn_imm (by rfl) ?_ | refine eqn_sl (by rfl) ?_)) | refine q_ext (by rfl) (by rfl) ?_ | refine q_build (by rfl) ?_ | refine q_shl (by rfl) (by rfl) (by first | decide | omega) ?_ | refine q_shr (by rfl) (by rfl) (by first | decide | omega) ?_ | refine q_eqB (by rfl) (by rfl) ?_ | refine q_eqA (by rfl) (by rfl) (by rfl) ?_ | refine q_neg (by rfl) ?_ | refine q_not (by rfl) ?_ | refine q_pick_t (by rfl) (by rfl) ?_ | refine q_pick_f (by rfl) (by rfl) ?_ | refine q_slc ?_ | refine q_idx ?_ | refine q_fld (by rfl) (by rfl) ?_ | refine q_fldA (by rfl) (by rfl) ?_ | refine q_faddrI (by rfl) ?_ | refine q_mx (by rfl) (by rfl) ?_ | refine q_mn (by rfl) (by rfl) ?_ | refine q_fnc (by rfl) ?_ | refine q_chkP (by rfl) ?_ | refine q_chkF (by rfl) ?_)) | (refine x_load ?_; try (first | (refine l_ptr (by rfl) ?_; try (first | refine ld_box (by rfl) (by rfl) ?_ | refine ld_boxA (by rfl) (by rfl) ?_ | refine ld_box (last_live _ _) (by rfl) ?_ | refine ld_boxA (last_live _ _) (by rfl) ?_)) | (refine l_ipt (by rfl) ?_; try (first | refine ld_wd (by omega) (by omega) ?_ | refine ld_cellsA (Nat.le_of_ble_eq_true (by rfl)) ?_)))) | refine x_store_last (by rfl) (by rfl) (by rfl) (by rfl) (Nat.le_of_ble_eq_true (by rfl)) ?_ | (refine x_store (by rfl) (by rfl) ?_; try (first | refine st_box (by rfl) (by rfl) (by rfl) (Nat.le_of_ble_eq_true (by rfl)) ?_)) | refine x_call (by rfl) (by rfl) ?_ | refine x_box (by rfl) (by rfl) ?_ | refine x_alloc ?_ | refine x_buildSl (by rfl) ?_ | refine x_app ?_) | (refine g_q ?_; first | refine q_mv (by rfl) ?_ | refine q_faddr (by rfl) ?_ | (refine q_len ?_; try (first | refine len_wd (by rfl) (by assumption) ?_ | refine len_sl (by rfl) ?_ | refine len_imm (by rfl) ?_ | refine len_nil (by rfl) ?_)) | (refine q_iad ?_; try (first | refine idx_wd (by rfl) (by rfl) (by assumption) (by omega) (by omega) ?_ | refine idx_ptr (by rfl) (by rfl) (by decide) (by decide) ?_ | refine idx_sl (by rfl) (by rfl) (by decide) (by decide) ?_ | refine idx_imm (by rfl) (by rfl) (by decide) (by decide) ?_)) | refine q_cm (by rfl) (by rfl) ?_ | refine q_ar (by rfl) (by rfl) (by rfl) ?_ | refine q_conv (by rfl) ?_ | (refine q_eqN ?_; try (first | refine eqn_nil (by rfl) ?_ | refine eqn_imm (by rfl) ?_ | refine eqn_sl (by rfl) ?_)) | refine q_ext (by rfl) (by rfl) ?_ | refine q_build (by rfl) ?_ | refine q_shl (by rfl) (by rfl) (by first | decide | omega) ?_ | refine q_shr (by rfl) (by rfl) (by first | decide | omega) ?_ | refine q_eqB (by rfl) (by rfl) ?_ | refine q_eqA (by rfl) (by rfl) (by rfl) ?_ | refine q_neg (by rfl) ?_ | refine q_not (by rfl) ?_ | refine q_pick_t (by rfl) (by rfl) ?_ | refine q_pick_f (by rfl) (by rfl) ?_ | refine q_slc ?_ | refine q_idx ?_ | refine q_fld (by rfl) (by rfl) ?_ | refine q_fldA (by rfl) (by rfl) ?_ | refine q_faddrI (by rfl) ?_ | refine q_mx (by rfl) (by rfl) ?_ | refine q_mn (by rfl) (by rfl) ?_ | refine q_fnc (by rfl) ?_ | refine q_chkP (by rfl) ?_ | refine q_chkF (by rfl) ?_) | (refine g_c ?_; first | refine c_t (by rfl) ?_ | refine c_f (by rfl) ?_) | (refine g_k ?_; first | refine k_n ?_ | refine k_r ?_ | refine k_e (by rfl) ?_ | refine k_o (by rfl) ?_) | (refine g_lo ?_; first | refine l_r ?_ | refine l_e ?_) | (refine g_xd ?_; first | (refine xd_q (by rfl) ?_; try (first | refine q_mv (by rfl) ?_ | refine q_faddr (by rfl) ?_ | (refine q_len ?_; try (first | refine len_wd (by rfl) (by assumption) ?_ | refine len_sl (by rfl) ?_ | refine len_imm (by rfl) ?_ | refine len_nil (by rfl) ?_)) | (refine q_iad ?_; try (first | refine idx_wd (by rfl) (by rfl) (by assumption) (by omega) (by omega) ?_ | refine idx_ptr (by rfl) (by rfl) (by decide) (by decide) ?_ | refine idx_sl (by rfl) (by rfl) (by decide) (by decide) ?_ | refine idx_imm (by rfl) (by rfl) (by decide) (by decide) ?_)) | refine q_cm (by rfl) (by rfl) ?_ | refine q_ar (by rfl) (by rfl) (by rfl) ?_ | refine q_conv (by rfl) ?_ | (refine q_eqN ?_; try (first | refine eqn_nil (by rfl) ?_ | refine eqn_imm (by rfl) ?_ | refine eqn_sl (by rfl) ?_)) | refine q_ext (by rfl) (by rfl) ?_ | refine q_build (by rfl) ?_ | refine q_shl (by rfl) (by rfl) (by first | decide | omega) ?_ | refine q_shr (by rfl) (by rfl) (by first | decide | omega) ?_ | refine q_eqB (by rfl) (by rfl) ?_ | refine q_eqA (by rfl) (by rfl) (by rfl) ?_ | refine q_neg (by rfl) ?_ | refine q_not (by rfl) ?_ | refine q_pick_t (by rfl) (by rfl) ?_ | refine q_pick_f (by rfl) (by rfl) ?_ | refine q_slc ?_ | refine q_idx ?_ | refine q_fld (by rfl) (by rfl) ?_ | refine q_fldA (by rfl) (by rfl) ?_ | refine q_faddrI (by rfl) ?_ | refine q_mx (by rfl) (by rfl) ?_ | refine q_mn (by rfl) (by rfl) ?_ | refine q_fnc (by rfl) ?_ | refine q_chkP (by rfl) ?_ | refine q_chkF (by rfl) ?_)) | (refine xd_load ?_; try (first | (refine l_ptr (by rfl) ?_; try (first | refine ld_box (by rfl) (by rfl) ?_ | refine ld_boxA (by rfl) (by rfl) ?_ | refine ld_box (last_live _ _) (by rfl) ?_ | refine ld_boxA (last_live _ _) (by rfl) ?_)) | (refine l_ipt (by rfl) ?_; try (first | refine ld_wd (by omega) (by omega) ?_ | refine ld_cellsA (Nat.le_of_ble_eq_true (by rfl)) ?_)))) | refine xd_store_last (by rfl) (by rfl) (by rfl) (by rfl) (Nat.le_of_ble_eq_true (by rfl)) ?_ | (refine xd_store (by rfl) (by rfl) ?_; try (first | refine st_box (by rfl) (by rfl) (by rfl) (Nat.le_of_ble_eq_true (by rfl)) ?_)) | refine xd_call (by rfl) (by rfl) ?_ | refine xd_box (by rfl) (by rfl) (by rfl) ?_ | refine xd_alloc (by rfl) ?_ | refine xd_buildSl (by rfl) (by rfl) ?_) | (refine g_l ?_; first | (refine l_ptr (by rfl) ?_; try (first | refine ld_box (by rfl) (by rfl) ?_ | refine ld_boxA (by rfl) (by rfl) ?_ | refine ld_box (last_live _ _) (by rfl) ?_ | refine ld_boxA (last_live _ _) (by rfl) ?_)) | (refine l_ipt (by rfl) ?_; try (first | refine ld_wd (by omega) (by omega) ?_ | refine ld_cellsA (Nat.le_of_ble_eq_true (by rfl)) ?_))) | (refine g_len ?_; first | refine len_wd (by rfl) (by assumption) ?_ | refine len_sl (by rfl) ?_ | refine len_imm (by rfl) ?_ | refine len_nil (by rfl) ?_) | (refine g_nil ?_; first | refine eqn_nil (by rfl) ?_ | refine eqn_imm (by rfl) ?_ | refine eqn_sl (by rfl) ?_) | (refine g_iad ?_; first | refine idx_wd (by rfl) (by rfl) (by assumption) (by omega) (by omega) ?_ | refine idx_ptr (by rfl) (by rfl) (by decide) (by decide) ?_ | refine idx_sl (by rfl) (by rfl) (by decide) (by decide) ?_ | refine idx_imm (by rfl) (by rfl) (by decide) (by decide) ?_) | (refine g_box ?_; first | refine ld_box (by rfl) (by rfl) ?_ | refine ld_boxA (by rfl) (by rfl) ?_ | refine ld_box (last_live _ _) (by rfl) ?_ | refine ld_boxA (last_live _ _) (by rfl) ?_) | (refine g_cells ?_; first | refine ld_wd (by omega) (by omega) ?_ | refine ld_cellsA (Nat.le_of_ble_eq_true (by rfl)) ?_) | (refine g_st ?_; first | refine st_box (by rfl) (by rfl) (by rfl) (Nat.le_of_ble_eq_true (by rfl)) ?_) | (refine g_b ?_; first | refine b_r ?_ | refine b_n ?_) | (refine g_r ?_; first | refine r_tmp (by rfl) ?_ | refine r_cell ?_ | refine r_nil ?_))
  exact hgo.out) : A := h ⟨k⟩
/-- As go2; a call that stands behind all else of its region may see boxes. -/
theorem go3 {A B : Prop} (k : B) (h : Held B → A := by
  intro hgo
  repeat (first | (refine g_o ?_; first | (refine o_some ?_; try (first | (refine x_q (by rfl) ?_; try (first | refine q_mv (by rfl) ?_ | refine q_faddr (by rfl) ?_ | (refine q_len ?_; try (first | refine len_wd (by rfl) (by assumption) ?_ | refine len_sl (by rfl) ?_ | refine len_imm (by rfl) ?_ | refine len_nil (by rfl) ?_)) | (refine q_iad ?_; try (first | refine idx_wd (by rfl) (by rfl) (by assumption) (by omega) (by omega) ?_ | refine idx_ptr (by rfl) (by rfl) (by decide) (by decide) ?_ | refine idx_sl (by rfl) (by rfl) (by decide) (by decide) ?_ | refine idx_imm (by rfl) (by rfl) (by decide) (by decide) ?_)) | refine q_cm (by rfl) (by rfl) ?_ | refine q_ar (by rfl) (by rfl) (by rfl) ?_ | refine q_conv (by rfl) ?_ | (refine q_eqN ?_; try (first | refine eqn_nil (by rfl) ?_ | refine eqn_imm (by rfl) ?_ | refine eqn_sl (by rfl) ?_)) | refine q_ext (by rfl) (by rfl) ?_ | refine q_build (by rfl) ?_ | refine q_shl (by rfl) (by rfl) (by first | decide | omega) ?_ | refine q_shr (by rfl) (by rfl) (by first | decide | omega) ?_ | refine q_eqB (by rfl) (by rfl) ?_ | refine q_eqA (by rfl) (by rfl) (by rfl) ?_ | refine q_neg (by rfl) ?_ | refine q_not (by rfl) ?_ | refine q_pick_t (by rfl) (by rfl) ?_ | refine q_pick_f (by rfl) (by rfl) ?_ | refine q_slc ?_ | refine q_idx ?_ | refine q_fld (by rfl) (by rfl) ?_ | refine q_fldA (by rfl) (by rfl) ?_ | refine q_faddrI (by rfl) ?_ | refine q_mx (by rfl) (by rfl) ?_ | refine q_mn (by rfl) (by rfl) ?_ | refine q_fnc (by rfl) ?_ | refine q_chkP (by rfl) ?_ | refine q_chkF (by rfl) ?_)) | (refine x_load ?_; try (first | (refine l_ptr (by rfl) ?_; try (first | refine ld_box (by rfl) (by rfl) ?_ | refine ld_boxA (by rfl) (by rfl) ?_ | refine ld_box (last_live _ _) (by rfl) ?_ | refine ld_boxA (last_live _ _) (by rfl) ?_)) | (refine l_ipt (by rfl) ?_; try (first | refine ld_wd (by omega) (by omega) ?_ | refine ld_cellsA (Nat.le_of_ble_eq_true (by rfl)) ?_)))) | refine x_store_last (by rfl) (by rfl) (by rfl) (by rfl) (Nat.le_of_ble_eq_true (by rfl)) ?_ | (refine x_store (by rfl) (by rfl) ?_; try (first | refine st_box (by rfl) (by rfl) (by rfl) (Nat.le_of_ble_eq_true (by rfl)) ?_)) | refine x_call (by rfl) (by rfl) ?_ | refine x_box (by rfl) (by rfl) ?_ | refine x_alloc ?_ | refine x_buildSl (by rfl) ?_ | refine x_app ?_)) | (refine o_nil ?_; try (first | refine s_n ?_ | refine s_r ?_ | refine s_e ?_ | refine k_n ?_ | refine k_r ?_ | refine k_e (by rfl) ?_ | refine k_o (by rfl) ?_ | refine l_r ?_ | refine l_e ?_ | refine b_r ?_ | refine b_n ?_)) | refine o_guard (by rfl) ?_ | refine o_guardT (by rfl) ?_ | refine o_none ?_ | refine o_guardN (by rfl) ?_) | (refine g_f ?_; first | refine f_seq ?_ | refine f_reg ?_ | (refine f_cond (by rfl) ?_; try (first | refine c_t (by rfl) ?_ | refine c_f (by rfl) ?_)) | refine f_block ?_ | refine f_skip ?_ | refine f_ret ?_ | refine f_exit ?_ | refine f_regD0 ?_ | refine f_regD ?_) | (refine g_s ?_; first | refine s_n ?_ | refine s_r ?_ | refine s_e ?_) | (refine g_d ?_; first | refine d_late (T := none) (by rfl) (by rfl) (by rfl) ?_ | (refine d_some (T := none) (by rfl) (by rfl) ?_; try (first | (refine xd_q (by rfl) ?_; try (first | refine q_mv (by rfl) ?_ | refine q_faddr (by rfl) ?_ | (refine q_len ?_; try (first | refine len_wd (by rfl) (by assumption) ?_ | refine len_sl (by rfl) ?_ | refine len_imm (by rfl) ?_ | refine len_nil (by rfl) ?_)) | (refine q_iad ?_; try (first | refine idx_wd (by rfl) (by rfl) (by assumption) (by omega) (by omega) ?_ | refine idx_ptr (by rfl) (by rfl) (by decide) (by decide) ?_ | refine idx_sl (by rfl) (by rfl) (by decide) (by decide) ?_ | refine idx_imm (by rfl) (by rfl) (by decide) (by decide) ?_)) | refine q_cm (by rfl) (by rfl) ?_ | refine q_ar (by rfl) (by rfl) (by rfl) ?_ | refine q_conv (by rfl) ?_ | (refine q_eqN ?_; try (first | refine eqn_nil (by rfl) ?_ | refine eqn_imm (by rfl) ?_ | refine eqn_sl (by rfl) ?_)) | refine q_ext (by rfl) (by rfl) ?_ | refine q_build (by rfl) ?_ | refine q_shl (by rfl) (by rfl) (by first | decide | omega) ?_ | refine q_shr (by rfl) (by rfl) (by first | decide | omega) ?_ | refine q_eqB (by rfl) (by rfl) ?_ | refine q_eqA (by rfl) (by rfl) (by rfl) ?_ | refine q_neg (by rfl) ?_ | refine q_not (by rfl) ?_ | refine q_pick_t (by rfl) (by rfl) ?_ | refine q_pick_f (by rfl) (by rfl) ?_ | refine q_slc ?_ | refine q_idx ?_ | refine q_fld (by rfl) (by rfl) ?_ | refine q_fldA (by rfl) (by rfl) ?_ | refine q_faddrI (by rfl) ?_ | refine q_mx (by rfl) (by rfl) ?_ | refine q_mn (by rfl) (by rfl) ?_ | refine q_fnc (by rfl) ?_ | refine q_chkP (by rfl) ?_ | refine q_chkF (by rfl) ?_)) | (refine xd_load ?_; try (first | (refine l_ptr (by rfl) ?_; try (first | refine ld_box (by rfl) (by rfl) ?_ | refine ld_boxA (by rfl) (by rfl) ?_ | refine ld_box (last_live _ _) (by rfl) ?_ | refine ld_boxA (last_live _ _) (by rfl) ?_)) | (refine l_ipt (by rfl) ?_; try (first | refine ld_wd (by omega) (by omega) ?_ | refine ld_cellsA (Nat.le_of_ble_eq_true (by rfl)) ?_)))) | refine xd_store_last (by rfl) (by rfl) (by rfl) (by rfl) (Nat.le_of_ble_eq_true (by rfl)) ?_ | (refine xd_store (by rfl) (by rfl) ?_; try (first | refine st_box (by rfl) (by rfl) (by rfl) (Nat.le_of_ble_eq_true (by rfl)) ?_)) | refine xd_call (by rfl) (by rfl) ?_ | refine xd_box (by rfl) (by rfl) (by rfl) ?_ | refine xd_alloc (by rfl) ?_ | refine xd_buildSl (by rfl) (by rfl) ?_)) | (refine d_some (by rfl) (by rfl) ?_; try (first | (refine xd_q (by rfl) ?_; try (first | refine q_mv (by rfl) ?_ | refine q_faddr (by rfl) ?_ | (refine q_len ?_; try (first | refine len_wd (by rfl) (by assumption) ?_ | refine len_sl (by rfl) ?_ | refine len_imm (by rfl) ?_ | refine len_nil (by rfl) ?_)) | (refine q_iad ?_; try (first | refine idx_wd (by rfl) (by rfl) (by assumption) (by omega) (by omega) ?_ | refine idx_ptr (by rfl) (by rfl) (by decide) (by decide) ?_ | refine idx_sl (by rfl) (by rfl) (by decide) (by decide) ?_ | refine idx_imm (by rfl) (by rfl) (by decide) (by decide) ?_)) | refine q_cm (by rfl) (by rfl) ?_ | refine q_ar (by rfl) (by rfl) (by rfl) ?_ | refine q_conv (by rfl) ?_ | (refine q_eqN ?_; try (first | refine eqn_nil (by rfl) ?_ | refine eqn_imm (by rfl) ?_ | refine eqn_sl (by rfl) ?_)) | refine q_ext (by rfl) (by rfl) ?_ | refine q_build (by rfl) ?_ | refine q_shl (by rfl) (by rfl) (by first | decide | omega) ?_ | refine q_shr (by rfl) (by rfl) (by first | decide | omega) ?_ | refine q_eqB (by rfl) (by rfl) ?_ | refine q_eqA (by rfl) (by rfl) (by rfl) ?_ | refine q_neg (by rfl) ?_ | refine q_not (by rfl) ?_ | refine q_pick_t (by rfl) (by rfl) ?_ | refine q_pick_f (by rfl) (by rfl) ?_ | refine q_slc ?_ | refine q_idx ?_ | refine q_fld (by rfl) (by rfl) ?_ | refine q_fldA (by rfl) (by rfl) ?_ | refine q_faddrI (by rfl) ?_ | refine q_mx (by rfl) (by rfl) ?_ | refine q_mn (by rfl) (by rfl) ?_ | refine q_fnc (by rfl) ?_ | refine q_chkP (by rfl) ?_ | refine q_chkF (by rfl) ?_)) | (refine xd_load ?_; try (first | (refine l_ptr (by rfl) ?_; try (first | refine ld_box (by rfl) (by rfl) ?_ | refine ld_boxA (by rfl) (by rfl) ?_ | refine ld_box (last_live _ _) (by rfl) ?_ | refine ld_boxA (last_live _ _) (by rfl) ?_)) | (refine l_ipt (by rfl) ?_; try (first | refine ld_wd (by omega) (by omega) ?_ | refine ld_cellsA (Nat.le_of_ble_eq_true (by rfl)) ?_)))) | refine xd_store_last (by rfl) (by rfl) (by rfl) (by rfl) (Nat.le_of_ble_eq_true (by rfl)) ?_ | (refine xd_store (by rfl) (by rfl) ?_; try (first | refine st_box (by rfl) (by rfl) (by rfl) (Nat.le_of_ble_eq_true (by rfl)) ?_)) | refine xd_call (by rfl) (by rfl) ?_ | refine xd_box (by rfl) (by rfl) (by rfl) ?_ | refine xd_alloc (by rfl) ?_ | refine xd_buildSl (by rfl) (by rfl) ?_)) | (refine d_nil ?_; try (first | refine s_n ?_ | refine s_r ?_ | refine s_e ?_ | refine k_n ?_ | refine k_r ?_ | refine k_e (by rfl) ?_ | refine k_o (by rfl) ?_ | refine l_r ?_ | refine l_e ?_ | refine b_r ?_ | refine b_n ?_)) | refine d_none (by rfl) (by rfl) ?_ | refine d_guard (by rfl) (by rfl) (by rfl) ?_) | (refine g_x ?_; first | (refine x_q (by rfl) ?_; try (first | refine q_mv (by rfl) ?_ | refine q_faddr (by rfl) ?_ | (refine q_len ?_; try (first | refine len_wd (by rfl) (by assumption) ?_ | refine len_sl (by rfl) ?_ | refine len_imm (by rfl) ?_ | refine len_nil (by rfl) ?_)) | (refine q_iad ?_; try (first | refine idx_wd (by rfl) (by rfl) (by assumption) (by omega) (by omega) ?_ | refine idx_ptr (by rfl) (by rfl) (by decide) (by decide) ?_ | refine idx_sl (by rfl) (by rfl) (by decide) (by decide) ?_ | refine idx_imm (by rfl) (by rfl) (by decide) (by decide) ?_)) | refine q_cm (by rfl) (by rfl) ?_ | refine q_ar (by rfl) (by rfl) (by rfl) ?_ | refine q_conv (by rfl) ?_ | (refine q_eqN ?_; try (first | refine eqn_nil (by rfl) ?_ | refine eqn_imm (by rfl) ?_ | refine eqn_sl (by rfl) ?_)) | refine q_ext (by rfl) (by rfl) ?_ | refine q_build (by rfl) ?_ | refine q_shl (by rfl) (by rfl) (by first | decide | omega) ?_ | refine q_shr (by rfl) (by rfl) (by first | decide | omega) ?_ | refine q_eqB (by rfl) (by rfl) ?_ | refine q_eqA (by rfl) (by rfl) (by rfl) ?_ | refine q_neg (by rfl) ?_ | refine q_not (by rfl) ?_ | refine q_pick_t (by rfl) (by rfl) ?_ | refine q_pick_f (by rfl) (by rfl) ?_ | refine q_slc ?_ | refine q_idx ?_ | refine q_fld (by rfl) (by rfl) ?_ | refine q_fldA (by rfl) (by rfl) ?_ | refine q_faddrI (by rfl) ?_ | refine q_mx (by rfl) (by rfl) ?_ | refine q_mn (by rfl) (by rfl) ?_ | refine q_fnc (by rfl) ?_ | refine q_chkP (by rfl) ?_ | refine q_chkF (by rfl) ?_)) | (refine x_load ?_; try (first | (refine l_ptr (by rfl) ?_; try (first | refine ld_box (by rfl) (by rfl) ?_ | refine ld_boxA (by rfl) (by rfl) ?_ | refine ld_box (last_live _ _) (by rfl) ?_ | refine ld_boxA (last_live _ _) (by rfl) ?_)) | (refine l_ipt (by rfl) ?_; try (first | refine ld_wd (by omega) (by omega) ?_ | refine ld_cellsA (Nat.le_of_ble_eq_true (by rfl)) ?_)))) | refine x_store_last (by rfl) (by rfl) (by rfl) (by rfl) (Nat.le_of_ble_eq_true (by rfl)) ?_ | (refine x_store (by rfl) (by rfl) ?_; try (first | refine st_box (by rfl) (by rfl) (by rfl) (Nat.le_of_ble_eq_true (by rfl)) ?_)) | refine x_call (by rfl) (by rfl) ?_ | refine x_box (by rfl) (by rfl) ?_ | refine x_alloc ?_ | refine x_buildSl (by rfl) ?_ | refine x_app ?_) | (refine g_q ?_; first | refine q_mv (by rfl) ?_ | refine q_faddr (by rfl) ?_ | (refine q_len ?_; try (first | refine len_wd (by rfl) (by assumption) ?_ | refine len_sl (by rfl) ?_ | refine len_imm (by rfl) ?_ | refine len_nil (by rfl) ?_)) | (refine q_iad ?_; try (first | refine idx_wd (by rfl) (by rfl) (by assumption) (by omega) (by omega) ?_ | refine idx_ptr (by rfl) (by rfl) (by decide) (by decide) ?_ | refine idx_sl (by rfl) (by rfl) (by decide) (by decide) ?_ | refine idx_imm (by rfl) (by rfl) (by decide) (by decide) ?_)) | refine q_cm (by rfl) (by rfl) ?_ | refine q_ar (by rfl) (by rfl) (by rfl) ?_ | refine q_conv (by rfl) ?_ | (refine q_eqN ?_; try (first | refine eqn_nil (by rfl) ?_ | refine eqn_imm (by rfl) ?_ | refine eqn_sl (by rfl) ?_)) | refine q_ext (by rfl) (by rfl) ?_ | refine q_build (by rfl) ?_ | refine q_shl (by rfl) (by rfl) (by first | decide | omega) ?_ | refine q_shr (by rfl) (by rfl) (by first | decide | omega) ?_ | refine q_eqB (by rfl) (by rfl) ?_ | refine q_eqA (by rfl) (by rfl) (by rfl) ?_ | refine q_neg (by rfl) ?_ | refine q_not (by rfl) ?_ | refine q_pick_t (by rfl) (by rfl) ?_ | refine q_pick_f (by rfl) (by rfl) ?_ | refine q_slc ?_ | refine q_idx ?_ | refine q_fld (by rfl) (by rfl) ?_ | refine q_fldA (by rfl) (by rfl) ?_ | refine q_faddrI (by rfl) ?_ | refine q_mx (by rfl) (by rfl) ?_ | refine q_mn (by rfl) (by rfl) ?_ | refine q_fnc (by rfl) ?_ | refine q_chkP (by rfl) ?_ | refine q_chkF (by rfl) ?_) | (refine g_c ?_; first | refine c_t (by rfl) ?_ | refine c_f (by rfl) ?_) | (refine g_k ?_; first | refine k_n ?_ | refine k_r ?_ | refine k_e (by rfl) ?_ | refine k_o (by rfl) ?_) | (refine g_lo ?_; first | refine l_r ?_ | refine l_e ?_) | (refine g_xd ?_; first | (refine xd_q (by rfl) ?_; try (first | refine q_mv (by rfl) ?_ | refine q_faddr (by rfl) ?_ | (refine q_len ?_; try (first | refine len_wd (by rfl) (by assumption) ?_ | refine len_sl (by rfl) ?_ | refine len_imm (by rfl) ?_ | refine len_nil (by rfl) ?_)) | (refine q_iad ?_; try (first | refine idx_wd (by rfl) (by rfl) (by assumption) (by omega) (by omega) ?_ | refine idx_ptr (by rfl) (by rfl) (by decide) (by decide) ?_ | refine idx_sl (by rfl) (by rfl) (by decide) (by decide) ?_ | refine idx_imm (by rfl) (by rfl) (by decide) (by decide) ?_)) | refine q_cm (by rfl) (by rfl) ?_ | refine q_ar (by rfl) (by rfl) (by rfl) ?_ | refine q_conv (by rfl) ?_ | (refine q_eqN ?_; try (first | refine eqn_nil (by rfl) ?_ | refine eqn_imm (by rfl) ?_ | refine eqn_sl (by rfl) ?_)) | refine q_ext (by rfl) (by rfl) ?_ | refine q_build (by rfl) ?_ | refine q_shl (by rfl) (by rfl) (by first | decide | omega) ?_ | refine q_shr (by rfl) (by rfl) (by first | decide | omega) ?_ | refine q_eqB (by rfl) (by rfl) ?_ | refine q_eqA (by rfl) (by rfl) (by rfl) ?_ | refine q_neg (by rfl) ?_ | refine q_not (by rfl) ?_ | refine q_pick_t (by rfl) (by rfl) ?_ | refine q_pick_f (by rfl) (by rfl) ?_ | refine q_slc ?_ | refine q_idx ?_ | refine q_fld (by rfl) (by rfl) ?_ | refine q_fldA (by rfl) (by rfl) ?_ | refine q_faddrI (by rfl) ?_ | refine q_mx (by rfl) (by rfl) ?_ | refine q_mn (by rfl) (by rfl) ?_ | refine q_fnc (by rfl) ?_ | refine q_chkP (by rfl) ?_ | refine q_chkF (by rfl) ?_)) | (refine xd_load ?_; try (first | (refine l_ptr (by rfl) ?_; try (first | refine ld_box (by rfl) (by rfl) ?_ | refine ld_boxA (by rfl) (by rfl) ?_ | refine ld_box (last_live _ _) (by rfl) ?_ | refine ld_boxA (last_live _ _) (by rfl) ?_)) | (refine l_ipt (by rfl) ?_; try (first | refine ld_wd (by omega) (by omega) ?_ | refine ld_cellsA (Nat.le_of_ble_eq_true (by rfl)) ?_)))) | refine xd_store_last (by rfl) (by rfl) (by rfl) (by rfl) (Nat.le_of_ble_eq_true (by rfl)) ?_ | (refine xd_store (by rfl) (by rfl) ?_; try (first | refine st_box (by rfl) (by rfl) (by rfl) (Nat.le_of_ble_eq_true (by rfl)) ?_)) | refine xd_call (by rfl) (by rfl) ?_ | refine xd_box (by rfl) (by rfl) (by rfl) ?_ | refine xd_alloc (by rfl) ?_ | refine xd_buildSl (by rfl) (by rfl) ?_) | (refine g_l ?_; first | (refine l_ptr (by rfl) ?_; try (first | refine ld_box (by rfl) (by rfl) ?_ | refine ld_boxA (by rfl) (by rfl) ?_ | refine ld_box (last_live _ _) (by rfl) ?_ | refine ld_boxA (last_live _ _) (by rfl) ?_)) | (refine l_ipt (by rfl) ?_; try (first | refine ld_wd (by omega) (by omega) ?_ | refine ld_cellsA (Nat.le_of_ble_eq_true (by rfl)) ?_))) | (refine g_len ?_; first | refine len_wd (by rfl) (by assumption) ?_ | refine len_sl (by rfl) ?_ | refine len_imm (by rfl) ?_ | refine len_nil (by rfl) ?_) | (refine g_nil ?_; first | refine eqn_nil (by rfl) ?_ | refine eqn_imm (by rfl) ?_ | refine eqn_sl (by rfl) ?_) | (refine g_iad ?_; first | refine idx_wd (by rfl) (by rfl) (by assumption) (by omega) (by omega) ?_ | refine idx_ptr (by rfl) (by rfl) (by decide) (by decide) ?_ | refine idx_sl (by rfl) (by rfl) (by decide) (by decide) ?_ | refine idx_imm (by rfl) (by rfl) (by decide) (by decide) ?_) | (refine g_box ?_; first | refine ld_box (by rfl) (by rfl) ?_ | refine ld_boxA (by rfl) (by rfl) ?_ | refine ld_box (last_live _ _) (by rfl) ?_ | refine ld_boxA (last_live _ _) (by rfl) ?_) | (refine g_cells ?_; first | refine ld_wd (by omega) (by omega) ?_ | refine ld_cellsA (Nat.le_of_ble_eq_true (by rfl)) ?_) | (refine g_st ?_; first | refine st_box (by rfl) (by rfl) (by rfl) (Nat.le_of_ble_eq_true (by rfl)) ?_) | (refine g_b ?_; first | refine b_r ?_ | refine b_n ?_) | (refine g_r ?_; first | refine r_tmp (by rfl) ?_ | refine r_cell ?_ | refine r_nil ?_))
  exact hgo.out) : A := h ⟨k⟩

theorem ref01_parts {c d : C} {a b : List Nat} (hc : Wd c a) (hd : Wd d b) (na : Norm a) (nb : Norm b) (hb0 : b ≠ []) (hl : a.length < 1073741824) : semC Try.prog n_ref01_parts [.c c, .c d] (PartsK (val a) (val b)) := by
  rcases Nat.lt_or_ge (val a) (val b) with hv | hv
  · refine semC_of_awpF ok_ref01_parts rfl (show HFVs [.c c, .c d] from ⟨hc.hf, hd.hf, trivial⟩) ?_
    refine go ?_
    refine semH_of_semC (ref01_order hc hd na.1 nb.1 (by omega)) (fun u hu => ?_)
    obtain ⟨r, rfl, r1, r2, r3⟩ := hu
    have hr : r < 0 := by
      rcases Nat.lt_trichotomy a.length b.length with h | h | h
      · rw [r1 h]
        decide
      · rw [r3 h]
        unfold sgn
        split
        · omega
        · omega
      · have := norm_lt nb na h
        omega
    refine go ?_
    cases hq : compare' Cm.lss r 0
    · simp [compare'] at hq
      omega
    · refine go ?_
      exact PartsK.fz .nil .nil (by rw [Nat.div_eq_of_lt hv]; rfl) hc na (by rw [Nat.mod_eq_of_lt hv])
  · rcases Nat.lt_or_ge b.length 2 with h | h
    · have hl1 : 0 < b.length := List.length_pos_iff.2 hb0
      match b, h, hl1 with
      | [x], _, _ => exact ref01_parts_short hc hd na nb hl (by omega)
    · exact ref01_parts_long hc hd na nb h hl (by omega)

def GcdK (A B : Nat) (u : V) : Prop := ∃ c l, u = .c c ∧ Wd c l ∧ Norm l ∧ val l = Nat.gcd A B
theorem ref01_divisor {c d : C} {a b : List Nat} (hc : Wd c a) (hd : Wd d b) (na : Norm a) (nb : Norm b) (hl : a.length < 1073741824) (hl' : b.length < 1073741824) : semC Try.prog n_ref01_divisor [.c c, .c d] (GcdK (val a) (val b)) := by
  refine semC_of_awpF ok_ref01_divisor rfl (show HFVs [.c c, .c d] from ⟨hc.hf, hd.hf, trivial⟩) ?_
  refine go ?_
  refine f_loop (fun n vs H => ∃ c' d' x y, vs = [.c c', .c d'] ∧ H = [] ∧ n = val y ∧ Wd c' x ∧ Wd d' y ∧ Norm x ∧ Norm y ∧ x.length < 1073741824 ∧ y.length < 1073741824 ∧ Nat.gcd (val x) (val y) = Nat.gcd (val a) (val b)) (by rfl) ⟨c, d, a, b, rfl, rfl, rfl, hc, hd, na, nb, hl, hl', rfl⟩ ?_
  rintro n vs H ⟨c', d', x, y, rfl, rfl, rfl, hc', hd', nx, ny, lx, ly, hg⟩
  refine go ?_
  cases hq : compare' Cm.gtr (y.length : Int) 0
  · simp [compare'] at hq
    subst hq
    refine go ?_
    exact ⟨_, .c (.hf hc'.hf), c', x, rfl, hc', nx, by rw [← hg]; simp [val]⟩
  · simp only [compare', dec_true] at hq
    have hy : y ≠ [] := fun e => by rw [e] at hq; simp at hq
    refine go ?_
    refine semH_of_semC (ref01_parts hc' hd' nx ny hy lx) (fun u hu => ?_)
    obtain ⟨c1, l1, d1, m1, rfl, w1, o1, v1, w2, o2, v2⟩ := hu
    refine go ?_
    have hp := val_pos ny hy
    have hlt : val m1 < val y := by rw [v2]; exact Nat.mod_lt _ hp
    refine l_n (by rfl) hlt ⟨_, _, y, m1, rfl, rfl, rfl, hd', w2, ny, o2, ly, ?_, ?_⟩
    · have := norm_len (n := y.length) o2 (Nat.lt_trans hlt (val_lt ny.1))
      omega
    · rw [v2, gcd_step, hg]

set_option maxHeartbeats 1000000 in
theorem ref01_ratio {cs ds : List C} {n d : Int} {k : Nat} (hn : IsW cs n) (hd : IsW ds d) (sn : Sz k n) (sd : Sz k d) (hk : k < 1073741824) (h0 : d ≠ 0) : semC Try.prog n_ref01_ratio [.agg cs, .agg ds] (RedK n d) := by
  refine semC_of_awpF ok_ref01_ratio rfl (show HFVs [.agg cs, .agg ds] from ⟨hn.hf, hd.hf, trivial⟩) ?_
  unfold Sz at sn sd
  obtain ⟨c1, l1, m1, rfl, w1, o1, g1, e1⟩ := hn.two
  obtain ⟨c2, l2, m2, rfl, w2, o2, g2, e2⟩ := hd.two
  refine go2 ?_
  refine semH_of_semC (ref01_whole_isNought hd) (fun u hu => ?_)
  obtain ⟨z, rfl, hz⟩ := hu
  cases z
  case true => exact absurd (hz.1 rfl) h0
  refine go2 ?_
  cases m2
  case false =>
    have hp : 0 < d := by
      have := val_nil_iff o2
      rcases Nat.eq_zero_or_pos (val l2) with h | h
      · rw [h] at e2
        exact absurd e2 h0
      · rw [e2]
        simp only [amt, cond_false]
        omega
    have rel : ∀ a b : Int, a * d = n * b → a * d = n * b := fun _ _ h => h
    have en : n.natAbs = n.natAbs := rfl
    have ed : d.natAbs = d.natAbs := rfl
    have hn1 := hn
    have hd1 := hd
    refine go2 ?_
    have a1 : l1.length ≤ k := norm_len o1 (by rw [← en, e1, amt_abs] at sn; exact sn)
    have a2 : l2.length ≤ k := norm_len o2 (by rw [← ed, e2, amt_abs] at sd; exact sd)
    refine semH_of_semC (ref01_isOne hd1) (fun u hu => ?_)
    obtain ⟨z, rfl, hz1⟩ := hu
    cases z
    case true =>
      refine go2 ?_
      have h1 := hz1.1 rfl
      refine RedK.fz (.of hn1 hd1 (by omega)) hp ?_ (rel _ _ rfl) (by omega) (by omega)
      rw [h1]
      simp
    refine go2 ?_
    refine semH_of_semC (ref01_divisor w1 w2 o1 o2 (by omega) (by omega)) (fun u hu => ?_)
    obtain ⟨cg, lg, rfl, wg, og, vg⟩ := hu
    have y0 : 0 < val l2 := by
      rw [e2] at hp
      simp only [amt, cond_false] at hp
      omega
    have g0 : 0 < val lg := by
      rw [vg]
      exact Nat.gcd_pos_of_pos_right _ y0
    have gn : lg ≠ [] := fun e => by
      rw [e] at g0
      exact absurd g0 (by decide)
    have lg0 : 0 < lg.length := List.length_pos_iff.2 gn
    refine go2 ?_
    cases hq : compare' Cm.neq (lg.length : Int) 1
    case false =>
      simp only [compare', dec_false] at hq
      have lg1 : lg.length = 1 := by omega
      refine go2 ?_
      cases hq2 : compare' Cm.neq ((at0 lg (0 : Int).toNat : Nat) : Int) 1
      case false =>
        simp only [compare', dec_false] at hq2
        have hg1 : val lg = 1 := by
          rw [len_one lg1]
          have : at0 lg (0 : Int).toNat = at0 lg 0 := rfl
          omega
        refine go2 ?_
        refine RedK.fz (.of hn1 hd1 (by omega)) hp ?_ (rel _ _ rfl) (by omega) (by omega)
        rw [e1, e2, ← hg1, vg]
        exact gcd_amt
      case true =>
        refine go2 ?_
        refine semH_of_semC (ref01_parts w1 wg o1 og gn (by omega)) (fun u hu => ?_)
        obtain ⟨ca, la, cb, lb, rfl, wa, oa, va, wb, ob, vb⟩ := hu
        refine go2 ?_
        refine semH_of_semC (ref01_parts w2 wg o2 og gn (by omega)) (fun u hu => ?_)
        obtain ⟨cc, lc, cd, ld, rfl, wc, oc, vc, wd, od, vd⟩ := hu
        refine go2 ?_
        refine semH_of_semC (ref01_signed m1 wa oa) (fun u hu => ?_)
        obtain ⟨es, rfl, he⟩ := hu
        obtain ⟨c5, l5, m5, rfl, _⟩ := he.two
        refine go2 ?_
        refine semH_of_semC (ref01_signed false wc oc) (fun u hu => ?_)
        obtain ⟨fs, rfl, hf⟩ := hu
        obtain ⟨c6, l6, m6, rfl, _⟩ := hf.two
        refine go2 ?_
        rw [va, vg] at he
        rw [vc, vg] at hf
        obtain ⟨f1, f2, f3, f4, f5⟩ := red_div (m := m1) (x := val l1) y0
        have f3' : (0 : Int) < amt false (val l2 / (val l1).gcd (val l2)) := by
          simp only [amt, cond_false]
          omega
        refine RedK.fz (.of he hf (by omega)) f3' f1 (rel _ _ (by rw [e1, e2]; exact f2)) ?_ ?_
        · rw [amt_abs, ← en, e1, amt_abs]
          exact f4
        · rw [amt_abs, ← ed, e2, amt_abs]
          exact f5
    case true =>
      refine go2 ?_
      refine semH_of_semC (ref01_parts w1 wg o1 og gn (by omega)) (fun u hu => ?_)
      obtain ⟨ca, la, cb, lb, rfl, wa, oa, va, wb, ob, vb⟩ := hu
      refine go2 ?_
      refine semH_of_semC (ref01_parts w2 wg o2 og gn (by omega)) (fun u hu => ?_)
      obtain ⟨cc, lc, cd, ld, rfl, wc, oc, vc, wd, od, vd⟩ := hu
      refine go2 ?_
      refine semH_of_semC (ref01_signed m1 wa oa) (fun u hu => ?_)
      obtain ⟨es, rfl, he⟩ := hu
      obtain ⟨c5, l5, m5, rfl, _⟩ := he.two
      refine go2 ?_
      refine semH_of_semC (ref01_signed false wc oc) (fun u hu => ?_)
      obtain ⟨fs, rfl, hf⟩ := hu
      obtain ⟨c6, l6, m6, rfl, _⟩ := hf.two
      refine go2 ?_
      rw [va, vg] at he
      rw [vc, vg] at hf
      obtain ⟨f1, f2, f3, f4, f5⟩ := red_div (m := m1) (x := val l1) y0
      have f3' : (0 : Int) < amt false (val l2 / (val l1).gcd (val l2)) := by
        simp only [amt, cond_false]
        omega
      refine RedK.fz (.of he hf (by omega)) f3' f1 (rel _ _ (by rw [e1, e2]; exact f2)) ?_ ?_
      · rw [amt_abs, ← en, e1, amt_abs]
        exact f4
      · rw [amt_abs, ← ed, e2, amt_abs]
        exact f5
  case true =>
    refine go2 ?_
    refine call_C (ref01_whole_neg hn) (fun u hu => ?_)
    obtain ⟨es, rfl, hn1⟩ := hu
    refine go2 ?_
    refine call_C (ref01_whole_neg hd) (fun u hu => ?_)
    obtain ⟨fs, rfl, hd1⟩ := hu
    have hp : 0 < -d := by
      have := val_pos o2 (g2 rfl)
      rw [e2]
      simp only [amt, cond_true]
      omega
    have rel : ∀ a b : Int, a * -d = -n * b → a * d = n * b := fun a b h => by
      rw [Int.mul_neg, Int.neg_mul] at h
      omega
    have en : (-n).natAbs = n.natAbs := Int.natAbs_neg n
    have ed : (-d).natAbs = d.natAbs := Int.natAbs_neg d
    generalize -n = n1 at hn1 rel en
    generalize -d = d1 at hd1 rel ed hp
    obtain ⟨c1, l1, m1, rfl, w1, o1, g1, e1⟩ := hn1.two
    obtain ⟨c2, l2, m2, rfl, w2, o2, g2, e2⟩ := hd1.two
    cases m2
    case true =>
      rw [e2] at hp
      simp only [amt, cond_true] at hp
      omega
    refine go2 ?_
    have a1 : l1.length ≤ k := norm_len o1 (by rw [← en, e1, amt_abs] at sn; exact sn)
    have a2 : l2.length ≤ k := norm_len o2 (by rw [← ed, e2, amt_abs] at sd; exact sd)
    refine semH_of_semC (ref01_isOne hd1) (fun u hu => ?_)
    obtain ⟨z, rfl, hz1⟩ := hu
    cases z
    case true =>
      refine go2 ?_
      have h1 := hz1.1 rfl
      refine RedK.fz (.of hn1 hd1 (by omega)) hp ?_ (rel _ _ rfl) (by omega) (by omega)
      rw [h1]
      simp
    refine go2 ?_
    refine semH_of_semC (ref01_divisor w1 w2 o1 o2 (by omega) (by omega)) (fun u hu => ?_)
    obtain ⟨cg, lg, rfl, wg, og, vg⟩ := hu
    have y0 : 0 < val l2 := by
      rw [e2] at hp
      simp only [amt, cond_false] at hp
      omega
    have g0 : 0 < val lg := by
      rw [vg]
      exact Nat.gcd_pos_of_pos_right _ y0
    have gn : lg ≠ [] := fun e => by
      rw [e] at g0
      exact absurd g0 (by decide)
    have lg0 : 0 < lg.length := List.length_pos_iff.2 gn
    refine go2 ?_
    cases hq : compare' Cm.neq (lg.length : Int) 1
    case false =>
      simp only [compare', dec_false] at hq
      have lg1 : lg.length = 1 := by omega
      refine go2 ?_
      cases hq2 : compare' Cm.neq ((at0 lg (0 : Int).toNat : Nat) : Int) 1
      case false =>
        simp only [compare', dec_false] at hq2
        have hg1 : val lg = 1 := by
          rw [len_one lg1]
          have : at0 lg (0 : Int).toNat = at0 lg 0 := rfl
          omega
        refine go2 ?_
        refine RedK.fz (.of hn1 hd1 (by omega)) hp ?_ (rel _ _ rfl) (by omega) (by omega)
        rw [e1, e2, ← hg1, vg]
        exact gcd_amt
      case true =>
        refine go2 ?_
        refine semH_of_semC (ref01_parts w1 wg o1 og gn (by omega)) (fun u hu => ?_)
        obtain ⟨ca, la, cb, lb, rfl, wa, oa, va, wb, ob, vb⟩ := hu
        refine go2 ?_
        refine semH_of_semC (ref01_parts w2 wg o2 og gn (by omega)) (fun u hu => ?_)
        obtain ⟨cc, lc, cd, ld, rfl, wc, oc, vc, wd, od, vd⟩ := hu
        refine go2 ?_
        refine semH_of_semC (ref01_signed m1 wa oa) (fun u hu => ?_)
        obtain ⟨es, rfl, he⟩ := hu
        obtain ⟨c5, l5, m5, rfl, _⟩ := he.two
        refine go2 ?_
        refine semH_of_semC (ref01_signed false wc oc) (fun u hu => ?_)
        obtain ⟨fs, rfl, hf⟩ := hu
        obtain ⟨c6, l6, m6, rfl, _⟩ := hf.two
        refine go2 ?_
        rw [va, vg] at he
        rw [vc, vg] at hf
        obtain ⟨f1, f2, f3, f4, f5⟩ := red_div (m := m1) (x := val l1) y0
        have f3' : (0 : Int) < amt false (val l2 / (val l1).gcd (val l2)) := by
          simp only [amt, cond_false]
          omega
        refine RedK.fz (.of he hf (by omega)) f3' f1 (rel _ _ (by rw [e1, e2]; exact f2)) ?_ ?_
        · rw [amt_abs, ← en, e1, amt_abs]
          exact f4
        · rw [amt_abs, ← ed, e2, amt_abs]
          exact f5
    case true =>
      refine go2 ?_
      refine semH_of_semC (ref01_parts w1 wg o1 og gn (by omega)) (fun u hu => ?_)
      obtain ⟨ca, la, cb, lb, rfl, wa, oa, va, wb, ob, vb⟩ := hu
      refine go2 ?_
      refine semH_of_semC (ref01_parts w2 wg o2 og gn (by omega)) (fun u hu => ?_)
      obtain ⟨cc, lc, cd, ld, rfl, wc, oc, vc, wd, od, vd⟩ := hu
      refine go2 ?_
      refine semH_of_semC (ref01_signed m1 wa oa) (fun u hu => ?_)
      obtain ⟨es, rfl, he⟩ := hu
      obtain ⟨c5, l5, m5, rfl, _⟩ := he.two
      refine go2 ?_
      refine semH_of_semC (ref01_signed false wc oc) (fun u hu => ?_)
      obtain ⟨fs, rfl, hf⟩ := hu
      obtain ⟨c6, l6, m6, rfl, _⟩ := hf.two
      refine go2 ?_
      rw [va, vg] at he
      rw [vc, vg] at hf
      obtain ⟨f1, f2, f3, f4, f5⟩ := red_div (m := m1) (x := val l1) y0
      have f3' : (0 : Int) < amt false (val l2 / (val l1).gcd (val l2)) := by
        simp only [amt, cond_false]
        omega
      refine RedK.fz (.of he hf (by omega)) f3' f1 (rel _ _ (by rw [e1, e2]; exact f2)) ?_ ?_
      · rw [amt_abs, ← en, e1, amt_abs]
        exact f4
      · rw [amt_abs, ← ed, e2, amt_abs]
        exact f5
end Go.Proofs.Ytjncgcnofiaiaaa
