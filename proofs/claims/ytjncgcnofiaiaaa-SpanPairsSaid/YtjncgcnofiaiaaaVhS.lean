/-
  ref01.word: one word of a quotient.
-/
import Derived.Test.YtjncgcnofiaiaaaVhR
set_option linter.unusedVariables false
set_option linter.unusedSimpArgs false
namespace Go.Proofs.Ytjncgcnofiaiaaa
open Go.RowKit
set_option maxRecDepth 20000

def u64 (n : Nat) : V := .c (.int .u64 (n : Int))
theorem val_top2 {l : List Nat} {m : Nat} (hl : l.length = m + 2) : val l = (at0 l (m + 1) * 4294967296 + at0 l m) * 4294967296 ^ m + val (l.take m) := by
  have e := val_all (l := l) (n := m + 2) (by omega)
  rw [val_take_succ, val_take_succ] at e
  rw [← e, Nat.pow_succ]
  grind
theorem val_top3 {l : List Nat} {m : Nat} (hl : l.length = m + 3) : val l = ((at0 l (m + 2) * 4294967296 + at0 l (m + 1)) * 4294967296 + at0 l m) * 4294967296 ^ m + val (l.take m) := by
  have e := val_all (l := l) (n := m + 3) (by omega)
  rw [val_take_succ, val_take_succ, val_take_succ] at e
  rw [← e, Nat.pow_succ, Nat.pow_succ]
  grind
theorem ld_head {s : Option Slot} {size off i : Nat} {l r : List Nat} {el : TypeId} {kd : BK} {K : V → Prop} (h : s = some (.live ⟨(l ++ r).map W, el, kd⟩)) (ho : off = i) (hi : i < l.length) (kk : K (.c (.int .u32 (at0 l i : Nat)))) : ldBox s false size off K := by
  refine ld_word h ho (by simp; omega) ?_
  rw [at0_app hi]
  exact kk
theorem quoN (a b : Nat) (h : a < 18446744073709551616) : arith .quo .u64 (a : Int) (b : Int) = ((a / b : Nat) : Int) := by
  show IntKind.u64.wrap ((a : Int).tdiv b) = _
  rw [← Int.ofNat_tdiv, wrapN]
  exact Nat.lt_of_le_of_lt (Nat.div_le_self _ _) h
theorem subN (a b : Nat) (h : a < 18446744073709551616) (h2 : b ≤ a) : arith .sub .u64 (a : Int) (b : Int) = ((a - b : Nat) : Int) := by
  rw [ar_sub, show (a : Int) - b = ((a - b : Nat) : Int) by omega, wrapN _ (by omega)]
theorem mnN (a : Nat) : (if (4294967295 : Int) < (a : Int) then (4294967295 : Int) else (a : Int)) = ((min a 4294967295 : Nat) : Int) := by
  split <;> omega
theorem u32N (a : Nat) : IntKind.u32.wrap (a : Int) = ((a % 4294967296 : Nat) : Int) := by rw [wrap_u32]; omega
theorem shl32N (a : Nat) (h : a < 4294967296) : IntKind.u64.wrap ((a : Int) * 2 ^ (min (32 : Int).toNat IntKind.u64.bits)) = ((a * 4294967296 : Nat) : Int) := by
  rw [shl32, show (a : Int) * 4294967296 = ((a * 4294967296 : Nat) : Int) by omega, wrapN _ (by omega)]
theorem subI (a b : Nat) (h : a < 9223372036854775808) (h2 : b ≤ a) : arith .sub .i64 (a : Int) (b : Int) = ((a - b : Nat) : Int) := by
  rw [ar_sub, wrap_i64 (by omega) (by omega)]
  omega
theorem addI (a b : Nat) (h : a + b < 9223372036854775808) : arith .add .i64 (a : Int) (b : Int) = ((a + b : Nat) : Int) := by
  rw [ar_add, wrap_i64 (by omega) (by omega)]
  omega
theorem subI1 (a : Nat) (h : a < 9223372036854775808) (h2 : 1 ≤ a) : arith .sub .i64 (a : Int) 1 = ((a - 1 : Nat) : Int) := subI a 1 h h2
theorem subI2 (a : Nat) (h : a < 9223372036854775808) (h2 : 2 ≤ a) : arith .sub .i64 (a : Int) 2 = ((a - 2 : Nat) : Int) := subI a 2 h h2
theorem addI1 (a : Nat) (h : a < 9223372036854775807) : arith .add .i64 (a : Int) 1 = ((a + 1 : Nat) : Int) := addI a 1 (by omega)
theorem subN1 (a : Nat) (h : a < 18446744073709551616) (h2 : 1 ≤ a) : arith .sub .u64 (a : Int) 1 = ((a - 1 : Nat) : Int) := subN a 1 h h2
/-- The estimate, when it is made: not below the quotient, and at most one above. -/
structure Est (X Y q : Nat) : Prop where
  lo : X / Y ≤ q
  hi : q * Y ≤ X + Y
  lt : q < 4294967296
attribute [local irreducible] compare' semH semC qLen qNil qIad qSlc qIdx ldBox ldCells stBox appX awpF awpOpsF awpDF xopF xopDF qval lval seqQ blockQ loopQ bodyF retKF cnd arith IntKind.wrap

set_option maxHeartbeats 4000000 in
theorem ref01_word {H : Hp} {bx by' o k : Nat} {co co' : Option Nat} {pre xs post yl yr : List Nat} {el el' : TypeId} {kd : BK} {K : V → Hp → Prop}
    (hx : H[bx]? = some (.live ⟨(pre ++ xs ++ post).map W, el, .rw⟩)) (hy : H[by']? = some (.live ⟨(yl ++ yr).map W, el', kd⟩)) (hne : bx ≠ by') (ho : o = pre.length) (hk : yl.length = k) (hl : xs.length = k + 1) (h2 : 2 ≤ k) (hkm : k < 2147483648) (ox : OkW xs) (oy : OkW yl) (htop : 1 ≤ at0 yl (k - 1)) (hlt : val xs < val yl * 4294967296)
    (hK : ∀ xs', xs'.length = k + 1 → OkW xs' → val xs' = val xs % val yl → val xs / val yl < 4294967296 → K (.c (.int .u32 ((val xs / val yl : Nat) : Int))) (H.set bx (.live ⟨(pre ++ xs' ++ post).map W, el, .rw⟩))) :
    semH Try.prog n_ref01_word [.c (.sl bx o (k + 1) co 1), .c (.sl by' 0 k co' 1), u64 (at0 yl (k - 1)), u64 (at0 yl (k - 2))] H K := by
  subst ho
  have hbx : bx < H.length := lt_of_getElem? hx
  have gt := oy.get (k - 1)
  have gn := oy.get (k - 2)
  have g0 := ox.get k
  have g1 := ox.get (k - 1)
  have g2 := ox.get (k - 2)
  have hP : 0 < 4294967296 ^ (k - 2) := Nat.pow_pos (by decide)
  have hY := val_top2 (l := yl) (m := k - 2) (by omega)
  have hX := val_top3 (l := xs) (m := k - 2) (by omega)
  rw [show k - 2 + 1 = k - 1 by omega] at hY hX
  rw [show k - 2 + 2 = k by omega] at hX
  have hyl := val_lt (oy.take (k - 2))
  have hxl := val_lt (ox.take (k - 2))
  rw [show (yl.take (k - 2)).length = k - 2 by simp; omega] at hyl
  rw [show (xs.take (k - 2)).length = k - 2 by simp; omega] at hxl
  have hY0 : 0 < val yl := by
    rcases Nat.eq_zero_or_pos (val yl) with h | h
    · rw [h] at hlt
      omega
    · exact h
  have hQ : val xs / val yl < 4294967296 := by
    rw [Nat.div_lt_iff_lt_mul hY0, Nat.mul_comm]
    exact hlt
  have hQY : val xs / val yl * val yl ≤ val xs := Nat.div_mul_le_self _ _
  have hst := est_start hP hX g2 hxl hY hQY
  have hR : val xs < 4294967296 ^ (k + 1) := by
    have := val_lt ox
    rwa [hl] at this
  have hYR : val yl < 4294967296 ^ k := by
    have := val_lt oy
    rwa [hk] at this
  have hrn : ∀ q rest, q * at0 yl (k - 1) + rest = at0 xs k * 4294967296 + at0 xs (k - 1) → val xs / val yl ≤ q → q * at0 yl (k - 2) > rest * 4294967296 + at0 xs (k - 2) → val xs / val yl ≤ q - 1 ∧ 1 ≤ q := by
    intro q rest e1 e2 e3
    have h := est_round hP hX hxl hY e1 e3
    have h1 : val xs / val yl < q := (Nat.div_lt_iff_lt_mul hY0).2 h
    exact ⟨Nat.le_sub_one_of_lt h1, Nat.lt_of_le_of_lt (Nat.zero_le _) h1⟩
  have hen : ∀ q rest, q * at0 yl (k - 1) + rest = at0 xs k * 4294967296 + at0 xs (k - 1) → val xs / val yl ≤ q → q < 4294967296 → q * at0 yl (k - 2) ≤ rest * 4294967296 + at0 xs (k - 2) → Est (val xs) (val yl) q :=
    fun q rest e1 e2 e3 e4 => ⟨e2, est_end hP hX hY hyl htop e1 (by omega) e4, e3⟩
  have hov : ∀ q rest, q * at0 yl (k - 1) + rest = at0 xs k * 4294967296 + at0 xs (k - 1) → val xs / val yl ≤ q → q < 4294967296 → 4294967296 ≤ rest → Est (val xs) (val yl) q :=
    fun q rest e1 e2 e3 e4 => ⟨e2, Nat.le_trans (est_over hP hX hY hyl gn e1 e3 e4) (Nat.le_add_right _ _), e3⟩
  clear hX hY hxl hyl
  refine semH_of_awpF ok_ref01_word rfl ?_
  refine go ?_
  refine idx_sl (by rfl) (by rfl) (by omega) (by omega) ?_
  refine go ?_
  refine ld_mid (i := k) hx (by omega) (by omega) ?_
  refine go ?_
  rw [subI1 k (by omega) (by omega)]
  refine idx_sl (by rfl) (by rfl) (by omega) (by omega) ?_
  refine go ?_
  refine ld_mid (i := k - 1) hx (by omega) (by omega) ?_
  refine go ?_
  rw [wrapN _ (by omega : at0 xs k < 18446744073709551616), wrapN _ (by omega : at0 xs (k - 1) < 18446744073709551616), shl32N _ g0, or_words g0 g1]
  refine q_ar (by rfl) (by rfl) (by simp [needs]; omega) ?_
  rw [quoN _ _ (by omega)]
  refine go ?_
  rw [mnN]
  have hq0 : min ((at0 xs k * 4294967296 + at0 xs (k - 1)) / at0 yl (k - 1)) 4294967295 * at0 yl (k - 1) ≤ at0 xs k * 4294967296 + at0 xs (k - 1) := Nat.le_trans (Nat.mul_le_mul_right _ (Nat.min_le_left _ _)) (Nat.div_mul_le_self _ _)
  have hq1 : val xs / val yl ≤ min ((at0 xs k * 4294967296 + at0 xs (k - 1)) / at0 yl (k - 1)) 4294967295 := Nat.le_min.2 ⟨(Nat.le_div_iff_mul_le htop).2 hst, Nat.le_of_lt_succ hQ⟩
  have hq2 := Nat.min_le_right ((at0 xs k * 4294967296 + at0 xs (k - 1)) / at0 yl (k - 1)) 4294967295
  generalize min ((at0 xs k * 4294967296 + at0 xs (k - 1)) / at0 yl (k - 1)) 4294967295 = q0 at hq0 hq1 hq2 ⊢
  rw [mulN _ _ (by omega), subN _ _ (by omega) hq0]
  refine go ?_
  refine f_loop (fun n vs H' => ∃ q rest : Nat, vs = [.c (.sl bx pre.length (k + 1) co 1), .c (.sl by' 0 k co' 1), u64 (at0 yl (k - 1)), u64 (at0 yl (k - 2)), i64 k, u64 q, u64 rest] ∧ H' = H ∧ n = q ∧ q * at0 yl (k - 1) + rest = at0 xs k * 4294967296 + at0 xs (k - 1) ∧ val xs / val yl ≤ q ∧ q < 4294967296) (by rfl) ⟨q0, _, rfl, rfl, rfl, by omega, hq1, by omega⟩ ?_
  rintro n vs H' ⟨q, rest, rfl, rfl, rfl, p1, p2, p3⟩
  refine go ?_
  cases hr : compare' Cm.lss (rest : Int) 4294967296
  · simp [compare'] at hr
    have hE := hov n rest p1 p2 p3 (by omega)
    refine go ?_
    refine f_loop (fun m vs H2 => ∃ (i bo carry : Nat) (cur : List Nat), vs = [.c (.sl bx pre.length (k + 1) co 1), .c (.sl by' 0 k co' 1), i64 k, u64 n, u64 bo, u64 carry, i64 i] ∧ H2 = H'.set bx (.live ⟨(pre ++ cur ++ post).map W, el, .rw⟩) ∧ m = k + 1 - i ∧ i ≤ k + 1 ∧ cur.length = k + 1 ∧ OkW cur ∧ bo ≤ 1 ∧ carry < 4294967296 ∧ (k < i → carry = 0) ∧ val (cur.take i) + n * val (yl.take i) = val (xs.take i) + 4294967296 ^ i * (carry + bo) ∧ ∀ j, i ≤ j → at0 cur j = at0 xs j) (by rfl) ⟨0, 0, 0, xs, rfl, (set_same hx).symm, rfl, by omega, hl, ox, by omega, by omega, by omega, by simp [val], fun _ _ => rfl⟩ ?_
    rintro m vs H2 ⟨i, bo, carry, cur, rfl, rfl, rfl, p2', p3, p4, p5, p6, p7, p7', p8⟩
    have gc := p4.get i
    refine go ?_
    cases hq1 : compare' Cm.leq (i : Int) (k : Int)
    · simp [compare'] at hq1
      have ei : i = k + 1 := by omega
      subst ei
      have ec := p7 (by omega)
      subst ec
      rw [val_all (by omega), val_all (by omega), val_all (by omega)] at p7'
      have hC := val_lt p4
      rw [p3] at hC
      obtain ⟨z1, z2⟩ := word_end (q := n) (c := val cur) hY0 hE.lo hE.hi hC hR
      refine go ?_
      cases hb : compare' Cm.eql (bo : Int) 0
      · simp only [compare', dec_false] at hb
        have eb : bo = 1 := by omega
        subst eb
        obtain ⟨y1, y2, y3⟩ := z2 p7'
        refine go ?_
        refine f_loop (fun m vs H2 => ∃ (i carry : Nat) (c2 : List Nat), vs = [.c (.sl bx pre.length (k + 1) co 1), .c (.sl by' 0 k co' 1), i64 k, u64 n, u64 carry, i64 i] ∧ H2 = H'.set bx (.live ⟨(pre ++ c2 ++ post).map W, el, .rw⟩) ∧ m = k + 1 - i ∧ i ≤ k + 1 ∧ c2.length = k + 1 ∧ OkW c2 ∧ carry ≤ 1 ∧ val (c2.take i) + 4294967296 ^ i * carry = val (cur.take i) + val (yl.take i) ∧ ∀ j, i ≤ j → at0 c2 j = at0 cur j) (by rfl) ⟨0, 0, cur, rfl, rfl, rfl, by omega, p3, p4, by omega, by simp [val], fun _ _ => rfl⟩ ?_
        rintro m vs H2 ⟨i, carry, c2, rfl, rfl, rfl, r2, r3, r4, r5, r6, r8⟩
        have gc2 := r4.get i
        have gy := oy.get i
        refine go ?_
        cases hq2 : compare' Cm.leq (i : Int) (k : Int)
        · simp [compare'] at hq2
          have ei : i = k + 1 := by omega
          subst ei
          rw [val_all (by omega), val_all (by omega), val_all (by omega)] at r6
          have hC2 := val_lt r4
          rw [r3] at hC2
          refine go ?_
          rw [subN1 n (by omega) y2, u32N, y1, Nat.mod_eq_of_lt hQ]
          exact hK c2 r3 r4 (back_end hY0 (Nat.lt_of_lt_of_le hYR (Nat.pow_le_pow_right (by decide) (Nat.le_succ k))) hC2 y3 r5 r6) hQ
        · simp [compare'] at hq2
          refine go ?_
          refine idx_sl (by rfl) (by rfl) (by omega) (by omega) ?_
          refine go ?_
          refine ld_mid (i := i) (get_set hbx) (by omega) (by omega) ?_
          refine go ?_
          rw [wrapN _ (by omega : at0 c2 i < 18446744073709551616), addN _ _ (by omega)]
          cases hq3 : compare' Cm.lss (i : Int) (k : Int)
          · simp [compare'] at hq3
            have ei : i = k := by omega
            subst ei
            refine go ?_
            rw [u32N]
            refine idx_sl (by rfl) (by rfl) (by omega) (by omega) ?_
            refine go ?_
            refine st_mid (i := i) (get_set hbx) (by rfl) (by omega) (by omega) ?_
            rw [List.set_set]
            refine go ?_
            rw [shrN, addI1 i (by omega)]
            refine l_n (by rfl) (by omega) ⟨i + 1, _, c2.set i ((carry + at0 c2 i) % 4294967296), rfl, rfl, rfl, by omega, by simp [r3], r4.set (by omega), by omega, ?_, fun j hj => ?_⟩
            · rw [val_take_set (by omega), val_take_succ yl, val_take_succ cur, Nat.pow_succ, ← r8 i (Nat.le_refl i)]
              exact add_row r6 (by rw [at0_ge (l := yl) (by omega)]; simp)
            · rw [at0_set (by omega)]
              exact r8 j (by omega)
          · simp [compare'] at hq3
            refine go ?_
            refine idx_sl (by rfl) (by rfl) (by omega) (by omega) ?_
            refine go ?_
            refine ld_head (i := i) ((get_set_ne hne).trans hy) (by omega) (by omega) ?_
            refine go ?_
            rw [wrapN _ (by omega : at0 yl i < 18446744073709551616), addN _ _ (by omega)]
            refine go ?_
            rw [u32N]
            refine idx_sl (by rfl) (by rfl) (by omega) (by omega) ?_
            refine go ?_
            refine st_mid (i := i) (get_set hbx) (by rfl) (by omega) (by omega) ?_
            rw [List.set_set]
            refine go ?_
            rw [shrN, addI1 i (by omega)]
            refine l_n (by rfl) (by omega) ⟨i + 1, _, c2.set i ((carry + at0 c2 i + at0 yl i) % 4294967296), rfl, rfl, rfl, by omega, by simp [r3], r4.set (by omega), by omega, ?_, fun j hj => ?_⟩
            · rw [val_take_set (by omega), val_take_succ yl, val_take_succ cur, Nat.pow_succ, ← r8 i (Nat.le_refl i)]
              exact add_row r6 rfl
            · rw [at0_set (by omega)]
              exact r8 j (by omega)
      · simp only [compare', dec_true] at hb
        have eb : bo = 0 := by omega
        subst eb
        obtain ⟨y1, y2⟩ := z1 p7'
        refine go ?_
        rw [u32N, y1, Nat.mod_eq_of_lt hQ]
        exact hK cur p3 p4 y2 hQ
    · simp [compare'] at hq1
      refine go ?_
      cases hq2 : compare' Cm.lss (i : Int) (k : Int)
      · simp [compare'] at hq2
        have ei : i = k := by omega
        subst ei
        refine go ?_
        refine idx_sl (by rfl) (by rfl) (by omega) (by omega) ?_
        refine go ?_
        refine ld_mid (i := i) (get_set hbx) (by omega) (by omega) ?_
        refine go ?_
        rw [wrapN _ (by omega : at0 cur i < 18446744073709551616), u32N, wrapN _ (by omega : carry % 4294967296 < 18446744073709551616)]
        obtain ⟨d, w, b', e1, e2, e3, w1, w2, w3⟩ := sub_u64 (x := at0 cur i) (s := carry % 4294967296) (bo := bo) (p4.get i) (Nat.mod_lt _ (by decide)) p5
        rw [e1]
        refine go ?_
        rw [e2]
        refine idx_sl (by rfl) (by rfl) (by omega) (by omega) ?_
        refine go ?_
        refine st_mid (i := i) (get_set hbx) (by rfl) (by omega) (by omega) ?_
        rw [List.set_set]
        refine go ?_
        rw [e3, shrN, addI1 i (by omega)]
        refine l_n (by rfl) (by omega) ⟨i + 1, b', carry / 4294967296, cur.set i w, rfl, rfl, rfl, by omega, by simp [p3], p4.set w1, w2, by omega, by omega, ?_, fun j hj => ?_⟩
        · rw [val_take_set (by omega), val_take_succ yl, val_take_succ xs, Nat.pow_succ, ← p8 i (Nat.le_refl i)]
          exact sub_row (y := at0 yl i) p7' (by rw [at0_ge (by omega)]; simp) w3
        · rw [at0_set (by omega)]
          exact p8 j (by omega)
      · simp [compare'] at hq2
        have gy := oy.get i
        have hm : n * at0 yl i + carry < 18446744073709551616 := by
          have := Nat.mul_le_mul (Nat.le_of_lt_succ hE.lt) (Nat.le_of_lt_succ gy)
          omega
        refine go ?_
        refine idx_sl (by rfl) (by rfl) (by omega) (by omega) ?_
        refine go ?_
        refine ld_head (i := i) ((get_set_ne hne).trans hy) (by omega) (by omega) ?_
        refine go ?_
        rw [wrapN _ (by omega : at0 yl i < 18446744073709551616), mulN _ _ (by omega), addN _ _ (by omega)]
        refine go ?_
        refine idx_sl (by rfl) (by rfl) (by omega) (by omega) ?_
        refine go ?_
        refine ld_mid (i := i) (get_set hbx) (by omega) (by omega) ?_
        refine go ?_
        rw [wrapN _ (by omega : at0 cur i < 18446744073709551616), u32N, wrapN _ (by omega : (carry + n * at0 yl i) % 4294967296 < 18446744073709551616)]
        obtain ⟨d, w, b', e1, e2, e3, w1, w2, w3⟩ := sub_u64 (x := at0 cur i) (s := (carry + n * at0 yl i) % 4294967296) (bo := bo) (p4.get i) (Nat.mod_lt _ (by decide)) p5
        rw [e1]
        refine go ?_
        rw [e2]
        refine idx_sl (by rfl) (by rfl) (by omega) (by omega) ?_
        refine go ?_
        refine st_mid (i := i) (get_set hbx) (by rfl) (by omega) (by omega) ?_
        rw [List.set_set]
        refine go ?_
        rw [e3, shrN, addI1 i (by omega)]
        refine l_n (by rfl) (by omega) ⟨i + 1, b', (carry + n * at0 yl i) / 4294967296, cur.set i w, rfl, rfl, rfl, by omega, by simp [p3], p4.set w1, w2, by omega, by omega, ?_, fun j hj => ?_⟩
        · rw [val_take_set (by omega), val_take_succ yl, val_take_succ xs, Nat.pow_succ, ← p8 i (Nat.le_refl i)]
          exact sub_row p7' rfl w3
        · rw [at0_set (by omega)]
          exact p8 j (by omega)
  · simp [compare'] at hr
    refine go ?_
    rw [subI2 k (by omega) (by omega)]
    refine idx_sl (by rfl) (by rfl) (by omega) (by omega) ?_
    refine go ?_
    refine ld_mid (i := k - 2) hx (by omega) (by omega) ?_
    refine go ?_
    have hm : n * at0 yl (k - 2) < 18446744073709551616 := by
      have := Nat.mul_le_mul (Nat.le_of_lt_succ p3) (Nat.le_of_lt_succ gn)
      omega
    rw [mulN _ _ hm, wrapN _ (by omega : at0 xs (k - 2) < 18446744073709551616), shl32N _ (by omega), or_words (by omega) g2]
    cases hg : compare' Cm.gtr ((n * at0 yl (k - 2) : Nat) : Int) ((rest * 4294967296 + at0 xs (k - 2) : Nat) : Int)
    · simp only [compare', dec_false] at hg
      have hE := hen n rest p1 p2 p3 (by omega)
      refine go ?_
      refine f_loop (fun m vs H2 => ∃ (i bo carry : Nat) (cur : List Nat), vs = [.c (.sl bx pre.length (k + 1) co 1), .c (.sl by' 0 k co' 1), i64 k, u64 n, u64 bo, u64 carry, i64 i] ∧ H2 = H'.set bx (.live ⟨(pre ++ cur ++ post).map W, el, .rw⟩) ∧ m = k + 1 - i ∧ i ≤ k + 1 ∧ cur.length = k + 1 ∧ OkW cur ∧ bo ≤ 1 ∧ carry < 4294967296 ∧ (k < i → carry = 0) ∧ val (cur.take i) + n * val (yl.take i) = val (xs.take i) + 4294967296 ^ i * (carry + bo) ∧ ∀ j, i ≤ j → at0 cur j = at0 xs j) (by rfl) ⟨0, 0, 0, xs, rfl, (set_same hx).symm, rfl, by omega, hl, ox, by omega, by omega, by omega, by simp [val], fun _ _ => rfl⟩ ?_
      rintro m vs H2 ⟨i, bo, carry, cur, rfl, rfl, rfl, p2', p3, p4, p5, p6, p7, p7', p8⟩
      have gc := p4.get i
      refine go ?_
      cases hq1 : compare' Cm.leq (i : Int) (k : Int)
      · simp [compare'] at hq1
        have ei : i = k + 1 := by omega
        subst ei
        have ec := p7 (by omega)
        subst ec
        rw [val_all (by omega), val_all (by omega), val_all (by omega)] at p7'
        have hC := val_lt p4
        rw [p3] at hC
        obtain ⟨z1, z2⟩ := word_end (q := n) (c := val cur) hY0 hE.lo hE.hi hC hR
        refine go ?_
        cases hb : compare' Cm.eql (bo : Int) 0
        · simp only [compare', dec_false] at hb
          have eb : bo = 1 := by omega
          subst eb
          obtain ⟨y1, y2, y3⟩ := z2 p7'
          refine go ?_
          refine f_loop (fun m vs H2 => ∃ (i carry : Nat) (c2 : List Nat), vs = [.c (.sl bx pre.length (k + 1) co 1), .c (.sl by' 0 k co' 1), i64 k, u64 n, u64 carry, i64 i] ∧ H2 = H'.set bx (.live ⟨(pre ++ c2 ++ post).map W, el, .rw⟩) ∧ m = k + 1 - i ∧ i ≤ k + 1 ∧ c2.length = k + 1 ∧ OkW c2 ∧ carry ≤ 1 ∧ val (c2.take i) + 4294967296 ^ i * carry = val (cur.take i) + val (yl.take i) ∧ ∀ j, i ≤ j → at0 c2 j = at0 cur j) (by rfl) ⟨0, 0, cur, rfl, rfl, rfl, by omega, p3, p4, by omega, by simp [val], fun _ _ => rfl⟩ ?_
          rintro m vs H2 ⟨i, carry, c2, rfl, rfl, rfl, r2, r3, r4, r5, r6, r8⟩
          have gc2 := r4.get i
          have gy := oy.get i
          refine go ?_
          cases hq2 : compare' Cm.leq (i : Int) (k : Int)
          · simp [compare'] at hq2
            have ei : i = k + 1 := by omega
            subst ei
            rw [val_all (by omega), val_all (by omega), val_all (by omega)] at r6
            have hC2 := val_lt r4
            rw [r3] at hC2
            refine go ?_
            rw [subN1 n (by omega) y2, u32N, y1, Nat.mod_eq_of_lt hQ]
            exact hK c2 r3 r4 (back_end hY0 (Nat.lt_of_lt_of_le hYR (Nat.pow_le_pow_right (by decide) (Nat.le_succ k))) hC2 y3 r5 r6) hQ
          · simp [compare'] at hq2
            refine go ?_
            refine idx_sl (by rfl) (by rfl) (by omega) (by omega) ?_
            refine go ?_
            refine ld_mid (i := i) (get_set hbx) (by omega) (by omega) ?_
            refine go ?_
            rw [wrapN _ (by omega : at0 c2 i < 18446744073709551616), addN _ _ (by omega)]
            cases hq3 : compare' Cm.lss (i : Int) (k : Int)
            · simp [compare'] at hq3
              have ei : i = k := by omega
              subst ei
              refine go ?_
              rw [u32N]
              refine idx_sl (by rfl) (by rfl) (by omega) (by omega) ?_
              refine go ?_
              refine st_mid (i := i) (get_set hbx) (by rfl) (by omega) (by omega) ?_
              rw [List.set_set]
              refine go ?_
              rw [shrN, addI1 i (by omega)]
              refine l_n (by rfl) (by omega) ⟨i + 1, _, c2.set i ((carry + at0 c2 i) % 4294967296), rfl, rfl, rfl, by omega, by simp [r3], r4.set (by omega), by omega, ?_, fun j hj => ?_⟩
              · rw [val_take_set (by omega), val_take_succ yl, val_take_succ cur, Nat.pow_succ, ← r8 i (Nat.le_refl i)]
                exact add_row r6 (by rw [at0_ge (l := yl) (by omega)]; simp)
              · rw [at0_set (by omega)]
                exact r8 j (by omega)
            · simp [compare'] at hq3
              refine go ?_
              refine idx_sl (by rfl) (by rfl) (by omega) (by omega) ?_
              refine go ?_
              refine ld_head (i := i) ((get_set_ne hne).trans hy) (by omega) (by omega) ?_
              refine go ?_
              rw [wrapN _ (by omega : at0 yl i < 18446744073709551616), addN _ _ (by omega)]
              refine go ?_
              rw [u32N]
              refine idx_sl (by rfl) (by rfl) (by omega) (by omega) ?_
              refine go ?_
              refine st_mid (i := i) (get_set hbx) (by rfl) (by omega) (by omega) ?_
              rw [List.set_set]
              refine go ?_
              rw [shrN, addI1 i (by omega)]
              refine l_n (by rfl) (by omega) ⟨i + 1, _, c2.set i ((carry + at0 c2 i + at0 yl i) % 4294967296), rfl, rfl, rfl, by omega, by simp [r3], r4.set (by omega), by omega, ?_, fun j hj => ?_⟩
              · rw [val_take_set (by omega), val_take_succ yl, val_take_succ cur, Nat.pow_succ, ← r8 i (Nat.le_refl i)]
                exact add_row r6 rfl
              · rw [at0_set (by omega)]
                exact r8 j (by omega)
        · simp only [compare', dec_true] at hb
          have eb : bo = 0 := by omega
          subst eb
          obtain ⟨y1, y2⟩ := z1 p7'
          refine go ?_
          rw [u32N, y1, Nat.mod_eq_of_lt hQ]
          exact hK cur p3 p4 y2 hQ
      · simp [compare'] at hq1
        refine go ?_
        cases hq2 : compare' Cm.lss (i : Int) (k : Int)
        · simp [compare'] at hq2
          have ei : i = k := by omega
          subst ei
          refine go ?_
          refine idx_sl (by rfl) (by rfl) (by omega) (by omega) ?_
          refine go ?_
          refine ld_mid (i := i) (get_set hbx) (by omega) (by omega) ?_
          refine go ?_
          rw [wrapN _ (by omega : at0 cur i < 18446744073709551616), u32N, wrapN _ (by omega : carry % 4294967296 < 18446744073709551616)]
          obtain ⟨d, w, b', e1, e2, e3, w1, w2, w3⟩ := sub_u64 (x := at0 cur i) (s := carry % 4294967296) (bo := bo) (p4.get i) (Nat.mod_lt _ (by decide)) p5
          rw [e1]
          refine go ?_
          rw [e2]
          refine idx_sl (by rfl) (by rfl) (by omega) (by omega) ?_
          refine go ?_
          refine st_mid (i := i) (get_set hbx) (by rfl) (by omega) (by omega) ?_
          rw [List.set_set]
          refine go ?_
          rw [e3, shrN, addI1 i (by omega)]
          refine l_n (by rfl) (by omega) ⟨i + 1, b', carry / 4294967296, cur.set i w, rfl, rfl, rfl, by omega, by simp [p3], p4.set w1, w2, by omega, by omega, ?_, fun j hj => ?_⟩
          · rw [val_take_set (by omega), val_take_succ yl, val_take_succ xs, Nat.pow_succ, ← p8 i (Nat.le_refl i)]
            exact sub_row (y := at0 yl i) p7' (by rw [at0_ge (by omega)]; simp) w3
          · rw [at0_set (by omega)]
            exact p8 j (by omega)
        · simp [compare'] at hq2
          have gy := oy.get i
          have hm : n * at0 yl i + carry < 18446744073709551616 := by
            have := Nat.mul_le_mul (Nat.le_of_lt_succ hE.lt) (Nat.le_of_lt_succ gy)
            omega
          refine go ?_
          refine idx_sl (by rfl) (by rfl) (by omega) (by omega) ?_
          refine go ?_
          refine ld_head (i := i) ((get_set_ne hne).trans hy) (by omega) (by omega) ?_
          refine go ?_
          rw [wrapN _ (by omega : at0 yl i < 18446744073709551616), mulN _ _ (by omega), addN _ _ (by omega)]
          refine go ?_
          refine idx_sl (by rfl) (by rfl) (by omega) (by omega) ?_
          refine go ?_
          refine ld_mid (i := i) (get_set hbx) (by omega) (by omega) ?_
          refine go ?_
          rw [wrapN _ (by omega : at0 cur i < 18446744073709551616), u32N, wrapN _ (by omega : (carry + n * at0 yl i) % 4294967296 < 18446744073709551616)]
          obtain ⟨d, w, b', e1, e2, e3, w1, w2, w3⟩ := sub_u64 (x := at0 cur i) (s := (carry + n * at0 yl i) % 4294967296) (bo := bo) (p4.get i) (Nat.mod_lt _ (by decide)) p5
          rw [e1]
          refine go ?_
          rw [e2]
          refine idx_sl (by rfl) (by rfl) (by omega) (by omega) ?_
          refine go ?_
          refine st_mid (i := i) (get_set hbx) (by rfl) (by omega) (by omega) ?_
          rw [List.set_set]
          refine go ?_
          rw [e3, shrN, addI1 i (by omega)]
          refine l_n (by rfl) (by omega) ⟨i + 1, b', (carry + n * at0 yl i) / 4294967296, cur.set i w, rfl, rfl, rfl, by omega, by simp [p3], p4.set w1, w2, by omega, by omega, ?_, fun j hj => ?_⟩
          · rw [val_take_set (by omega), val_take_succ yl, val_take_succ xs, Nat.pow_succ, ← p8 i (Nat.le_refl i)]
            exact sub_row p7' rfl w3
          · rw [at0_set (by omega)]
            exact p8 j (by omega)
    · simp only [compare', dec_true] at hg
      obtain ⟨n1, n2⟩ := hrn n rest p1 p2 (by omega)
      refine go ?_
      rw [subN1 n (by omega) n2, addN _ _ (by omega)]
      refine l_n (by rfl) (by omega) ⟨n - 1, _, rfl, rfl, rfl, ?_, n1, by omega⟩
      have := Nat.sub_mul n 1 (at0 yl (k - 1))
      have := Nat.mul_le_mul_right (at0 yl (k - 1)) n2
      omega
end Go.Proofs.Ytjncgcnofiaiaaa
