/-
  Words: what a list of words is worth, and steps of abstract code over them.
-/
import Derived.Test.YtjncgcnofiaiaaaNm
set_option linter.unusedVariables false
set_option linter.unusedSimpArgs false
namespace Go.Proofs.Ytjncgcnofiaiaaa
open Go.RowKit

def W (x : Nat) : C := .int .u32 x
def i64 (n : Int) : V := .c (.int .i64 n)
def val : List Nat → Nat
  | [] => 0
  | x :: r => x + 4294967296 * val r
/-- The word at a place. -/
def at0 (l : List Nat) (i : Nat) : Nat := l.getD i 0
def OkW (l : List Nat) : Prop := ∀ x ∈ l, x < 4294967296
/-- A slice of words. -/
inductive Wd : C → List Nat → Prop
  | nil : Wd .nilSl []
  | imm (l : List Nat) : Wd (.imm l.length (l.map W)) l
def sgn (n : Int) : Int := if n < 0 then -1 else if n = 0 then 0 else 1

theorem HFL_words : ∀ l : List Nat, HFL (l.map W)
  | [] => trivial
  | x :: r => ⟨trivial, HFL_words r⟩
theorem Wd.hf {c : C} {l : List Nat} (h : Wd c l) : HFC c := by
  cases h
  · trivial
  · exact HFL_words _

theorem OkW.cons {x : Nat} {l : List Nat} (h : OkW (x :: l)) : x < 4294967296 ∧ OkW l := ⟨h x (by simp), fun y hy => h y (by simp [hy])⟩
theorem OkW.drop {l : List Nat} (h : OkW l) (n : Nat) : OkW (l.drop n) := fun x hx => h x (List.mem_of_mem_drop hx)
theorem OkW.take {l : List Nat} (h : OkW l) (n : Nat) : OkW (l.take n) := fun x hx => h x (List.mem_of_mem_take hx)
theorem OkW.get {l : List Nat} (h : OkW l) (i : Nat) : at0 l i < 4294967296 := by
  unfold at0
  rw [List.getD_eq_getElem?_getD]
  cases hi : l[i]? with
  | none => simp
  | some x => exact h x (List.mem_of_getElem? hi)
theorem val_lt : ∀ {l : List Nat}, OkW l → val l < 4294967296 ^ l.length
  | [], _ => by simp [val]
  | x :: r, h => by
    have h1 := val_lt h.cons.2
    have h2 := h.cons.1
    simp only [val, List.length_cons, Nat.pow_succ]
    have : val r + 1 ≤ 4294967296 ^ r.length := h1
    have := Nat.mul_le_mul_left 4294967296 this
    omega
theorem val_append : ∀ (a b : List Nat), val (a ++ b) = val a + 4294967296 ^ a.length * val b
  | [], b => by simp [val]
  | x :: r, b => by
    simp only [List.cons_append, val, val_append r b, List.length_cons, Nat.pow_succ]
    rw [Nat.mul_add, ← Nat.add_assoc, Nat.mul_comm _ 4294967296, Nat.mul_assoc]
theorem val_split (l : List Nat) (i : Nat) : val l = val (l.take i) + 4294967296 ^ (l.take i).length * val (l.drop i) := by
  rw [← val_append, List.take_append_drop]
theorem drop_cons {l : List Nat} {i : Nat} (h : i < l.length) : l.drop i = at0 l i :: l.drop (i + 1) := by
  unfold at0
  rw [List.drop_eq_getElem_cons h]
  congr 1
  simp [List.getD_eq_getElem?_getD, h]
/-- Two lists alike from i + 1 on, and not at i. -/
theorem val_less {a b : List Nat} {i : Nat} (ha : OkW a) (hb : OkW b) (hl : a.length = b.length) (hi : i < a.length) (hd : a.drop (i + 1) = b.drop (i + 1)) (h : at0 a i < at0 b i) : val a < val b := by
  rw [val_split a i, val_split b i, drop_cons hi, drop_cons (l := b) (by omega), hd]
  have h1 := val_lt (ha.take i)
  have e1 : (a.take i).length = i := by simp; omega
  have e2 : (b.take i).length = i := by simp; omega
  rw [e1] at h1 ⊢
  rw [e2]
  simp only [val]
  have h3 : at0 a i + 4294967296 * val (b.drop (i + 1)) + 1 ≤ at0 b i + 4294967296 * val (b.drop (i + 1)) := by omega
  have h4 := Nat.mul_le_mul_left (4294967296 ^ i) h3
  rw [Nat.mul_add] at h4
  omega

/-! ### Steps -/
theorem loop_I {g : Option (List V)} {h : Hp} {R : (Nat → List V → Hp → Prop) → Prop} (I : Nat → List V → Hp → Prop) {vs : List V} {n0 : Nat} (hg : g = some vs) (h0 : I n0 vs h) (hr : R I) : ∃ I, (∃ n vs, g = some vs ∧ I n vs h) ∧ R I :=
  ⟨I, ⟨n0, vs, hg, h0⟩, hr⟩
theorem next_I {g : Option (List V)} {h : Hp} {n : Nat} {I : Nat → List V → Hp → Prop} {vs : List V} {n' : Nat} (hg : g = some vs) (hn : n' < n) (h0 : I n' vs h) : ∃ n' vs', g = some vs' ∧ n' < n ∧ I n' vs' h := ⟨n', vs, hg, hn, h0⟩
theorem chk2 {n m : Int} {A : Prop} (h1 : 0 ≤ n) (h2 : n < m) (h : A) : chk (decide (0 ≤ n) && decide (n < m)) A := chk_intro (by simp [h1, h2]) h
theorem len_wd {x : Option V} {c : C} {l : List Nat} {K : V → Prop} (h : x = some (.c c)) (hc : Wd c l) (k : K (.c (.int .i64 l.length))) : qLen x K := by
  subst h
  cases hc
  · exact len_nil rfl k
  · exact len_imm rfl k
theorem idx_wd {x i : Option V} {c : C} {l : List Nat} {K : V → Prop} {k : IntKind} {n : Int} (h : x = some (.c c)) (h2 : i = some (.c (.int k n))) (hc : Wd c l) (h3 : 0 ≤ n) (h4 : n < l.length) (hk : K (.c (.ipt ((l.map W).drop n.toNat)))) : qIad none 1 x i K := by
  subst h h2
  cases hc with
  | nil => simp at h4; omega
  | imm => exact idx_imm rfl rfl h3 h4 (by simpa using hk)
/-- A word is read. -/
theorem ld_wd {size : Nat} {K : V → Prop} {l : List Nat} {n : Int} (h4 : n < l.length) (h3 : 0 ≤ n) (k : K (.c (.int .u32 (at0 l n.toNat : Nat)))) : ldCells ((l.map W).drop n.toNat) false size K := by
  have hlt : n.toNat < l.length := by omega
  refine ld_cells (c := W (l.getD n.toNat 0)) ?_ k
  simp [List.getElem?_drop, List.getD_eq_getElem?_getD, hlt]
theorem slc_wd {e : Env} {x : Option V} {lo hi : Option AO} {c : C} {l : List Nat} {a b : Int} {K : V → Prop} (h : x = some (.c c)) (hc : Wd c l) (h1 : bnd e 0 lo = some a) (h2 : bnd e l.length hi = some b) (h3 : 0 ≤ a) (h4 : a ≤ b) (h5 : b ≤ l.length)
    (k : ∀ c', Wd c' ((l.drop a.toNat).take (b.toNat - a.toNat)) → K (.c c')) : qSlc e 1 x lo hi none K := by
  subst h
  cases hc with
  | nil =>
    simp only [List.length_nil] at h2 h5
    have h2' : bnd e 0 hi = some b := by simpa using h2
    simp only [qSlc, h1, h2']
    refine chk_intro (by simp; omega) (k _ (by simpa using .nil))
  | imm =>
    simp only [qSlc, h1, h2]
    refine chk_intro (by simp; omega) (k _ ?_)
    have e1 : ((l.drop a.toNat).take (b.toNat - a.toNat)).length = b.toNat - a.toNat := by simp; omega
    have e2 : ((l.map W).drop (a.toNat * 1)).take ((b.toNat - a.toNat) * 1) = ((l.drop a.toNat).take (b.toNat - a.toNat)).map W := by simp [List.map_take, List.map_drop]
    rw [e2]
    have := Wd.imm ((l.drop a.toNat).take (b.toNat - a.toNat))
    rwa [e1] at this
theorem val_last {l : List Nat} (h : 0 < l.length) (h0 : at0 l (l.length - 1) = 0) : val (l.take (l.length - 1)) = val l := by
  rw [val_split l (l.length - 1), drop_cons (by omega), h0]
  have : l.length - 1 + 1 = l.length := by omega
  rw [this, List.drop_length]
  simp [val]
theorem word_at {l : List Nat} {n : Int} {i : Nat} (h : n = i) (hi : i < l.length) : ((l.map W).drop (n.toNat * 1))[0]? = some (W (l.getD i 0)) := by
  subst h
  simp [List.getElem?_drop, List.getD_eq_getElem?_getD, hi]

theorem wrap_i64 {n : Int} (h1 : -9223372036854775808 ≤ n) (h2 : n < 9223372036854775808) : IntKind.i64.wrap n = n := by
  have e : IntKind.i64.wrap n = if n % 18446744073709551616 ≥ 9223372036854775808 then n % 18446744073709551616 - 18446744073709551616 else n % 18446744073709551616 := by
    simp [IntKind.wrap, IntKind.bits, IntKind.signed]
  rw [e]
  split <;> omega
theorem wrap_i64' (n : Int) : IntKind.i64.wrap n = if n % 18446744073709551616 ≥ 9223372036854775808 then n % 18446744073709551616 - 18446744073709551616 else n % 18446744073709551616 := by
  simp [IntKind.wrap, IntKind.bits, IntKind.signed]
theorem wrap_u64 (n : Int) : IntKind.u64.wrap n = n % 18446744073709551616 := by simp [IntKind.wrap, IntKind.bits, IntKind.signed]
theorem wrap_u32 (n : Int) : IntKind.u32.wrap n = n % 4294967296 := by simp [IntKind.wrap, IntKind.bits, IntKind.signed]
theorem ar_add {k : IntKind} {a b : Int} : arith .add k a b = k.wrap (a + b) := rfl
theorem ar_sub {k : IntKind} {a b : Int} : arith .sub k a b = k.wrap (a - b) := rfl
theorem ar_mul {k : IntKind} {a b : Int} : arith .mul k a b = k.wrap (a * b) := rfl
/-- A box of words is closed. -/
theorem fz_words {p : BK → Prop} {H : Hp} {b n : Nat} {co : Option Nat} {bx : Box} (l : List Nat) (hb : H[b]? = some (.live bx)) (hk : p bx.kind) (hk' : bx.kind ≠ .bor) (hn : n = l.length) (hc : bx.cells.take n = l.map W) : Fz p H (.sl b 0 n co 1) (.imm l.length (l.map W)) := by
  subst hn
  refine .sl hb hk hk' ?_
  simp only [List.drop_zero, Nat.mul_one]
  rw [hc]
  exact .hf (HFL_words l)
theorem val_take_succ (l : List Nat) (i : Nat) : val (l.take (i + 1)) = val (l.take i) + 4294967296 ^ i * at0 l i := by
  rcases Nat.lt_or_ge i l.length with h | h
  · rw [List.take_add_one, val_append]
    have e : l[i]?.toList = [at0 l i] := by simp [at0, h]
    rw [e]
    have e2 : (l.take i).length = i := by simp; omega
    rw [e2]
    simp [val]
  · rw [List.take_of_length_le (by omega), List.take_of_length_le h]
    have : at0 l i = 0 := by simp [at0, h]
    rw [this]
    simp
theorem at0_ge {l : List Nat} {i : Nat} (h : l.length ≤ i) : at0 l i = 0 := by simp [at0, h]

/-! ### A list of words under way in a box -/
def OutB (H : Hp) (b : Nat) (el : TypeId) (out : List Nat) : Prop := ∃ cells, H[b]? = some (.live ⟨cells, el, .rw⟩) ∧ cells.take out.length = out.map W
theorem out_le {out : List Nat} {cells : List C} (h : cells.take out.length = out.map W) : out.length ≤ cells.length := by
  have := congrArg List.length h
  simp at this
  omega
theorem app_word {H : Hp} {el : TypeId} {s x : Option V} {K : V → Hp → Prop} {b n : Nat} {co co' : Option Nat} {out : List Nat} {cs : List C} {y : Nat} (h : s = some (.c (.sl b 0 n co 1))) (h2 : x = some (.c (.sl H.length 0 1 co' 1))) (ho : OutB H b el out) (hn : n = out.length) (hc : cs = [W y]) (hl : out.length < 4294967296)
    (k : ∀ H' b', OutB H' b' el (out ++ [y]) → K (.c (.sl b' 0 (out.length + 1) none 1)) H') : appX (H ++ [.live ⟨cs, el, .rw⟩]) el 1 4 s x K := by
  subst hn hc
  obtain ⟨cells, hb, hcells⟩ := ho
  have hlt := lt_of_getElem? hb
  have hle := out_le hcells
  refine app_sl (cs := cells) (xs := [W y]) (m := 1) h h2 (by simp [slCells]) rfl rfl (by rw [List.getElem?_append_left hlt]; exact hb) (by omega) (by omega) (by omega) (k _ _ ⟨cells.take (out.length * 1) ++ [W y], by simp, ?_⟩)
  rw [Nat.mul_one, hcells, ← List.map_singleton, ← List.map_append]
  exact List.take_of_length_le (by simp)
theorem fz_out {p : BK → Prop} {H : Hp} {b n : Nat} {co : Option Nat} {el : TypeId} {out : List Nat} (h : OutB H b el out) (hn : n = out.length) (hp : p .rw) : Fz p H (.sl b 0 n co 1) (.imm out.length (out.map W)) := by
  obtain ⟨cells, hb, hc⟩ := h
  exact fz_words out hb hp (by simp) hn (by rw [hn]; exact hc)
theorem call_C {P : Program} {f : FuncId} {args : List V} {K' K : V → Prop} (h : semC P f args K') (k : ∀ u, K' u → K u) : semC P f args K := semC_mono k h
attribute [local irreducible] compare' semH semC qLen qNil qIad qSlc qIdx ldBox ldCells stBox appX awpF awpOpsF awpDF xopF xopDF qval lval seqQ blockQ loopQ bodyF retKF cnd arith IntKind.wrap
/-- The code goes on to the next stop: the steps are looked for by themselves. -/
structure Held (B : Prop) : Prop where
  out : B
theorem go {A B : Prop} (k : B) (h : Held B → A := by
  intro hgo
  repeat (first | (refine g_o ?_; first | (refine o_some ?_; try (first | (refine x_q (by rfl) ?_; try (first | refine q_mv (by rfl) ?_ | refine q_faddr (by rfl) ?_ | (refine q_len ?_; try (first | refine len_wd (by rfl) (by assumption) ?_ | refine len_sl (by rfl) ?_ | refine len_imm (by rfl) ?_ | refine len_nil (by rfl) ?_)) | (refine q_iad ?_; try (first | refine idx_wd (by rfl) (by rfl) (by assumption) (by omega) (by omega) ?_)) | refine q_cm (by rfl) (by rfl) ?_ | refine q_ar (by rfl) (by rfl) (by rfl) ?_ | refine q_conv (by rfl) ?_ | (refine q_eqN ?_; try (first | refine eqn_nil (by rfl) ?_ | refine eqn_imm (by rfl) ?_ | refine eqn_sl (by rfl) ?_)) | refine q_ext (by rfl) (by rfl) ?_ | refine q_build (by rfl) ?_ | refine q_shl (by rfl) (by rfl) (by first | decide | omega) ?_ | refine q_shr (by rfl) (by rfl) (by first | decide | omega) ?_ | refine q_eqB (by rfl) (by rfl) ?_ | refine q_eqA (by rfl) (by rfl) (by rfl) ?_ | refine q_neg (by rfl) ?_ | refine q_not (by rfl) ?_ | refine q_pick_t (by rfl) (by rfl) ?_ | refine q_pick_f (by rfl) (by rfl) ?_ | refine q_slc ?_ | refine q_idx ?_ | refine q_fld (by rfl) (by rfl) ?_ | refine q_fldA (by rfl) (by rfl) ?_ | refine q_faddrI (by rfl) ?_ | refine q_mx (by rfl) (by rfl) ?_ | refine q_mn (by rfl) (by rfl) ?_ | refine q_fnc (by rfl) ?_ | refine q_chkP (by rfl) ?_ | refine q_chkF (by rfl) ?_)) | (refine x_load ?_; try (first | (refine l_ptr (by rfl) ?_; try (first | refine ld_box (by rfl) (by rfl) ?_ | refine ld_boxA (by rfl) (by rfl) ?_)) | (refine l_ipt (by rfl) ?_; try (first | refine ld_wd (by omega) (by omega) ?_)))) | (refine x_store (by rfl) (by rfl) ?_; try (first | refine st_box (by rfl) (by rfl) (by rfl) (by decide) ?_)) | refine x_call (by rfl) (by rfl) ?_ | refine x_box (by rfl) (by rfl) ?_ | refine x_alloc ?_ | refine x_buildSl (by rfl) ?_ | refine x_app ?_)) | (refine o_nil ?_; try (first | refine s_n ?_ | refine s_r ?_ | refine s_e ?_ | refine k_n ?_ | refine k_r ?_ | refine k_e (by rfl) ?_ | refine k_o (by rfl) ?_ | refine l_r ?_ | refine l_e ?_ | refine b_r ?_ | refine b_n ?_)) | refine o_guard (by rfl) ?_ | refine o_guardT (by rfl) ?_ | refine o_none ?_ | refine o_guardN (by rfl) ?_) | (refine g_f ?_; first | refine f_seq ?_ | refine f_reg ?_ | (refine f_cond (by rfl) ?_; try (first | refine c_t (by rfl) ?_ | refine c_f (by rfl) ?_)) | refine f_block ?_ | refine f_skip ?_ | refine f_ret ?_ | refine f_exit ?_ | refine f_regD0 ?_ | refine f_regD ?_) | (refine g_s ?_; first | refine s_n ?_ | refine s_r ?_ | refine s_e ?_) | (refine g_d ?_; first | (refine d_some (T := none) (by rfl) (by rfl) ?_; try (first | (refine xd_q (by rfl) ?_; try (first | refine q_mv (by rfl) ?_ | refine q_faddr (by rfl) ?_ | (refine q_len ?_; try (first | refine len_wd (by rfl) (by assumption) ?_ | refine len_sl (by rfl) ?_ | refine len_imm (by rfl) ?_ | refine len_nil (by rfl) ?_)) | (refine q_iad ?_; try (first | refine idx_wd (by rfl) (by rfl) (by assumption) (by omega) (by omega) ?_)) | refine q_cm (by rfl) (by rfl) ?_ | refine q_ar (by rfl) (by rfl) (by rfl) ?_ | refine q_conv (by rfl) ?_ | (refine q_eqN ?_; try (first | refine eqn_nil (by rfl) ?_ | refine eqn_imm (by rfl) ?_ | refine eqn_sl (by rfl) ?_)) | refine q_ext (by rfl) (by rfl) ?_ | refine q_build (by rfl) ?_ | refine q_shl (by rfl) (by rfl) (by first | decide | omega) ?_ | refine q_shr (by rfl) (by rfl) (by first | decide | omega) ?_ | refine q_eqB (by rfl) (by rfl) ?_ | refine q_eqA (by rfl) (by rfl) (by rfl) ?_ | refine q_neg (by rfl) ?_ | refine q_not (by rfl) ?_ | refine q_pick_t (by rfl) (by rfl) ?_ | refine q_pick_f (by rfl) (by rfl) ?_ | refine q_slc ?_ | refine q_idx ?_ | refine q_fld (by rfl) (by rfl) ?_ | refine q_fldA (by rfl) (by rfl) ?_ | refine q_faddrI (by rfl) ?_ | refine q_mx (by rfl) (by rfl) ?_ | refine q_mn (by rfl) (by rfl) ?_ | refine q_fnc (by rfl) ?_ | refine q_chkP (by rfl) ?_ | refine q_chkF (by rfl) ?_)) | (refine xd_load ?_; try (first | (refine l_ptr (by rfl) ?_; try (first | refine ld_box (by rfl) (by rfl) ?_ | refine ld_boxA (by rfl) (by rfl) ?_)) | (refine l_ipt (by rfl) ?_; try (first | refine ld_wd (by omega) (by omega) ?_)))) | (refine xd_store (by rfl) (by rfl) ?_; try (first | refine st_box (by rfl) (by rfl) (by rfl) (by decide) ?_)) | refine xd_call (by rfl) (by rfl) ?_ | refine xd_box (by rfl) (by rfl) (by rfl) ?_ | refine xd_alloc (by rfl) ?_ | refine xd_buildSl (by rfl) (by rfl) ?_)) | (refine d_some (by rfl) (by rfl) ?_; try (first | (refine xd_q (by rfl) ?_; try (first | refine q_mv (by rfl) ?_ | refine q_faddr (by rfl) ?_ | (refine q_len ?_; try (first | refine len_wd (by rfl) (by assumption) ?_ | refine len_sl (by rfl) ?_ | refine len_imm (by rfl) ?_ | refine len_nil (by rfl) ?_)) | (refine q_iad ?_; try (first | refine idx_wd (by rfl) (by rfl) (by assumption) (by omega) (by omega) ?_)) | refine q_cm (by rfl) (by rfl) ?_ | refine q_ar (by rfl) (by rfl) (by rfl) ?_ | refine q_conv (by rfl) ?_ | (refine q_eqN ?_; try (first | refine eqn_nil (by rfl) ?_ | refine eqn_imm (by rfl) ?_ | refine eqn_sl (by rfl) ?_)) | refine q_ext (by rfl) (by rfl) ?_ | refine q_build (by rfl) ?_ | refine q_shl (by rfl) (by rfl) (by first | decide | omega) ?_ | refine q_shr (by rfl) (by rfl) (by first | decide | omega) ?_ | refine q_eqB (by rfl) (by rfl) ?_ | refine q_eqA (by rfl) (by rfl) (by rfl) ?_ | refine q_neg (by rfl) ?_ | refine q_not (by rfl) ?_ | refine q_pick_t (by rfl) (by rfl) ?_ | refine q_pick_f (by rfl) (by rfl) ?_ | refine q_slc ?_ | refine q_idx ?_ | refine q_fld (by rfl) (by rfl) ?_ | refine q_fldA (by rfl) (by rfl) ?_ | refine q_faddrI (by rfl) ?_ | refine q_mx (by rfl) (by rfl) ?_ | refine q_mn (by rfl) (by rfl) ?_ | refine q_fnc (by rfl) ?_ | refine q_chkP (by rfl) ?_ | refine q_chkF (by rfl) ?_)) | (refine xd_load ?_; try (first | (refine l_ptr (by rfl) ?_; try (first | refine ld_box (by rfl) (by rfl) ?_ | refine ld_boxA (by rfl) (by rfl) ?_)) | (refine l_ipt (by rfl) ?_; try (first | refine ld_wd (by omega) (by omega) ?_)))) | (refine xd_store (by rfl) (by rfl) ?_; try (first | refine st_box (by rfl) (by rfl) (by rfl) (by decide) ?_)) | refine xd_call (by rfl) (by rfl) ?_ | refine xd_box (by rfl) (by rfl) (by rfl) ?_ | refine xd_alloc (by rfl) ?_ | refine xd_buildSl (by rfl) (by rfl) ?_)) | (refine d_nil ?_; try (first | refine s_n ?_ | refine s_r ?_ | refine s_e ?_ | refine k_n ?_ | refine k_r ?_ | refine k_e (by rfl) ?_ | refine k_o (by rfl) ?_ | refine l_r ?_ | refine l_e ?_ | refine b_r ?_ | refine b_n ?_)) | refine d_none (by rfl) (by rfl) ?_ | refine d_guard (by rfl) (by rfl) (by rfl) ?_) | (refine g_x ?_; first | (refine x_q (by rfl) ?_; try (first | refine q_mv (by rfl) ?_ | refine q_faddr (by rfl) ?_ | (refine q_len ?_; try (first | refine len_wd (by rfl) (by assumption) ?_ | refine len_sl (by rfl) ?_ | refine len_imm (by rfl) ?_ | refine len_nil (by rfl) ?_)) | (refine q_iad ?_; try (first | refine idx_wd (by rfl) (by rfl) (by assumption) (by omega) (by omega) ?_)) | refine q_cm (by rfl) (by rfl) ?_ | refine q_ar (by rfl) (by rfl) (by rfl) ?_ | refine q_conv (by rfl) ?_ | (refine q_eqN ?_; try (first | refine eqn_nil (by rfl) ?_ | refine eqn_imm (by rfl) ?_ | refine eqn_sl (by rfl) ?_)) | refine q_ext (by rfl) (by rfl) ?_ | refine q_build (by rfl) ?_ | refine q_shl (by rfl) (by rfl) (by first | decide | omega) ?_ | refine q_shr (by rfl) (by rfl) (by first | decide | omega) ?_ | refine q_eqB (by rfl) (by rfl) ?_ | refine q_eqA (by rfl) (by rfl) (by rfl) ?_ | refine q_neg (by rfl) ?_ | refine q_not (by rfl) ?_ | refine q_pick_t (by rfl) (by rfl) ?_ | refine q_pick_f (by rfl) (by rfl) ?_ | refine q_slc ?_ | refine q_idx ?_ | refine q_fld (by rfl) (by rfl) ?_ | refine q_fldA (by rfl) (by rfl) ?_ | refine q_faddrI (by rfl) ?_ | refine q_mx (by rfl) (by rfl) ?_ | refine q_mn (by rfl) (by rfl) ?_ | refine q_fnc (by rfl) ?_ | refine q_chkP (by rfl) ?_ | refine q_chkF (by rfl) ?_)) | (refine x_load ?_; try (first | (refine l_ptr (by rfl) ?_; try (first | refine ld_box (by rfl) (by rfl) ?_ | refine ld_boxA (by rfl) (by rfl) ?_)) | (refine l_ipt (by rfl) ?_; try (first | refine ld_wd (by omega) (by omega) ?_)))) | (refine x_store (by rfl) (by rfl) ?_; try (first | refine st_box (by rfl) (by rfl) (by rfl) (by decide) ?_)) | refine x_call (by rfl) (by rfl) ?_ | refine x_box (by rfl) (by rfl) ?_ | refine x_alloc ?_ | refine x_buildSl (by rfl) ?_ | refine x_app ?_) | (refine g_q ?_; first | refine q_mv (by rfl) ?_ | refine q_faddr (by rfl) ?_ | (refine q_len ?_; try (first | refine len_wd (by rfl) (by assumption) ?_ | refine len_sl (by rfl) ?_ | refine len_imm (by rfl) ?_ | refine len_nil (by rfl) ?_)) | (refine q_iad ?_; try (first | refine idx_wd (by rfl) (by rfl) (by assumption) (by omega) (by omega) ?_)) | refine q_cm (by rfl) (by rfl) ?_ | refine q_ar (by rfl) (by rfl) (by rfl) ?_ | refine q_conv (by rfl) ?_ | (refine q_eqN ?_; try (first | refine eqn_nil (by rfl) ?_ | refine eqn_imm (by rfl) ?_ | refine eqn_sl (by rfl) ?_)) | refine q_ext (by rfl) (by rfl) ?_ | refine q_build (by rfl) ?_ | refine q_shl (by rfl) (by rfl) (by first | decide | omega) ?_ | refine q_shr (by rfl) (by rfl) (by first | decide | omega) ?_ | refine q_eqB (by rfl) (by rfl) ?_ | refine q_eqA (by rfl) (by rfl) (by rfl) ?_ | refine q_neg (by rfl) ?_ | refine q_not (by rfl) ?_ | refine q_pick_t (by rfl) (by rfl) ?_ | refine q_pick_f (by rfl) (by rfl) ?_ | refine q_slc ?_ | refine q_idx ?_ | refine q_fld (by rfl) (by rfl) ?_ | refine q_fldA (by rfl) (by rfl) ?_ | refine q_faddrI (by rfl) ?_ | refine q_mx (by rfl) (by rfl) ?_ | refine q_mn (by rfl) (by rfl) ?_ | refine q_fnc (by rfl) ?_ | refine q_chkP (by rfl) ?_ | refine q_chkF (by rfl) ?_) | (refine g_c ?_; first | refine c_t (by rfl) ?_ | refine c_f (by rfl) ?_) | (refine g_k ?_; first | refine k_n ?_ | refine k_r ?_ | refine k_e (by rfl) ?_ | refine k_o (by rfl) ?_) | (refine g_lo ?_; first | refine l_r ?_ | refine l_e ?_) | (refine g_xd ?_; first | (refine xd_q (by rfl) ?_; try (first | refine q_mv (by rfl) ?_ | refine q_faddr (by rfl) ?_ | (refine q_len ?_; try (first | refine len_wd (by rfl) (by assumption) ?_ | refine len_sl (by rfl) ?_ | refine len_imm (by rfl) ?_ | refine len_nil (by rfl) ?_)) | (refine q_iad ?_; try (first | refine idx_wd (by rfl) (by rfl) (by assumption) (by omega) (by omega) ?_)) | refine q_cm (by rfl) (by rfl) ?_ | refine q_ar (by rfl) (by rfl) (by rfl) ?_ | refine q_conv (by rfl) ?_ | (refine q_eqN ?_; try (first | refine eqn_nil (by rfl) ?_ | refine eqn_imm (by rfl) ?_ | refine eqn_sl (by rfl) ?_)) | refine q_ext (by rfl) (by rfl) ?_ | refine q_build (by rfl) ?_ | refine q_shl (by rfl) (by rfl) (by first | decide | omega) ?_ | refine q_shr (by rfl) (by rfl) (by first | decide | omega) ?_ | refine q_eqB (by rfl) (by rfl) ?_ | refine q_eqA (by rfl) (by rfl) (by rfl) ?_ | refine q_neg (by rfl) ?_ | refine q_not (by rfl) ?_ | refine q_pick_t (by rfl) (by rfl) ?_ | refine q_pick_f (by rfl) (by rfl) ?_ | refine q_slc ?_ | refine q_idx ?_ | refine q_fld (by rfl) (by rfl) ?_ | refine q_fldA (by rfl) (by rfl) ?_ | refine q_faddrI (by rfl) ?_ | refine q_mx (by rfl) (by rfl) ?_ | refine q_mn (by rfl) (by rfl) ?_ | refine q_fnc (by rfl) ?_ | refine q_chkP (by rfl) ?_ | refine q_chkF (by rfl) ?_)) | (refine xd_load ?_; try (first | (refine l_ptr (by rfl) ?_; try (first | refine ld_box (by rfl) (by rfl) ?_ | refine ld_boxA (by rfl) (by rfl) ?_)) | (refine l_ipt (by rfl) ?_; try (first | refine ld_wd (by omega) (by omega) ?_)))) | (refine xd_store (by rfl) (by rfl) ?_; try (first | refine st_box (by rfl) (by rfl) (by rfl) (by decide) ?_)) | refine xd_call (by rfl) (by rfl) ?_ | refine xd_box (by rfl) (by rfl) (by rfl) ?_ | refine xd_alloc (by rfl) ?_ | refine xd_buildSl (by rfl) (by rfl) ?_) | (refine g_l ?_; first | (refine l_ptr (by rfl) ?_; try (first | refine ld_box (by rfl) (by rfl) ?_ | refine ld_boxA (by rfl) (by rfl) ?_)) | (refine l_ipt (by rfl) ?_; try (first | refine ld_wd (by omega) (by omega) ?_))) | (refine g_len ?_; first | refine len_wd (by rfl) (by assumption) ?_ | refine len_sl (by rfl) ?_ | refine len_imm (by rfl) ?_ | refine len_nil (by rfl) ?_) | (refine g_nil ?_; first | refine eqn_nil (by rfl) ?_ | refine eqn_imm (by rfl) ?_ | refine eqn_sl (by rfl) ?_) | (refine g_iad ?_; first | refine idx_wd (by rfl) (by rfl) (by assumption) (by omega) (by omega) ?_) | (refine g_box ?_; first | refine ld_box (by rfl) (by rfl) ?_ | refine ld_boxA (by rfl) (by rfl) ?_) | (refine g_cells ?_; first | refine ld_wd (by omega) (by omega) ?_) | (refine g_st ?_; first | refine st_box (by rfl) (by rfl) (by rfl) (by decide) ?_) | (refine g_b ?_; first | refine b_r ?_ | refine b_n ?_) | (refine g_r ?_; first | refine r_tmp (by rfl) ?_ | refine r_cell ?_ | refine r_nil ?_))
  exact hgo.out) : A := h ⟨k⟩
end Go.Proofs.Ytjncgcnofiaiaaa
