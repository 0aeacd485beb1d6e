/-
  Words within a box; the number laws of subtracting a multiple and adding back.
-/
import Derived.Test.YtjncgcnofiaiaaaMa1
/-
  Shifting words.
-/
set_option linter.unusedVariables false
set_option linter.unusedSimpArgs false
namespace Go.Proofs.Ytjncgcnofiaiaaa
open Go.RowKit
set_option maxRecDepth 20000

theorem or_u32 {lo m n : Nat} (hn : n ≤ 31) (hlo : lo < 2 ^ n) (hm : m * 2 ^ n < 4294967296) : arith .or .u32 (lo : Int) ((m * 2 ^ n : Nat) : Int) = ((lo + m * 2 ^ n : Nat) : Int) := by
  have h31 : 2 ^ n ≤ 2147483648 := by
    have := Nat.pow_le_pow_right (n := 2) (by decide) hn
    simpa using this
  have hsum : lo + m * 2 ^ n < 4294967296 := by
    have e : lo + m * 2 ^ n = (m <<< n) ||| lo := by
      rw [← Nat.shiftLeft_add_eq_or_of_lt hlo, Nat.shiftLeft_eq]
      omega
    rw [e]
    exact Nat.or_lt_two_pow (n := 32) (by rw [Nat.shiftLeft_eq]; exact hm) (by omega)
  generalize hp : m * 2 ^ n = p at hm hsum
  have e : (BitVec.ofInt 32 (lo : Int) ||| BitVec.ofInt 32 (p : Int)).toNat = lo + p := by
    rw [BitVec.toNat_or, BitVec.toNat_ofInt, BitVec.toNat_ofInt]
    have e1 : ((lo : Int) % ((2 ^ 32 : Nat) : Int)).toNat = lo := by omega
    have e2 : ((p : Int) % ((2 ^ 32 : Nat) : Int)).toNat = p := by omega
    rw [e1, e2, Nat.or_comm, ← hp, ← Nat.shiftLeft_eq, ← Nat.shiftLeft_add_eq_or_of_lt hlo]
    omega
  show IntKind.u32.wrap ((BitVec.ofInt 32 (lo : Int) ||| BitVec.ofInt 32 (p : Int)).toNat : Int) = _
  rw [e, wrap_u32]
  omega
/-- A word shifted falls into a lower part, a multiple of 2^n, and what goes over. -/
theorem shl_parts {x n : Nat} (hn : n ≤ 31) (hx : x < 4294967296) : ∃ m, x * 2 ^ n % 4294967296 = m * 2 ^ n ∧ x * 2 ^ n / 4294967296 < 2 ^ n ∧ x * 2 ^ n < 18446744073709551616 := by
  have e : (4294967296 : Nat) = 2 ^ (32 - n) * 2 ^ n := by
    rw [← Nat.pow_add, show 32 - n + n = 32 by omega]
  have hp : 0 < 2 ^ n := Nat.pow_pos (by decide)
  have h31 : 2 ^ n ≤ 2147483648 := by
    have := Nat.pow_le_pow_right (n := 2) (by decide) hn
    simpa using this
  refine ⟨x % 2 ^ (32 - n), ?_, ?_, ?_⟩
  · rw [e, Nat.mul_mod_mul_right]
  · rw [Nat.div_lt_iff_lt_mul (by decide), Nat.mul_comm]
    exact Nat.mul_lt_mul_of_pos_left hx hp
  · have := Nat.mul_le_mul (Nat.le_of_lt hx) h31
    omega
theorem last_live (H : Hp) (s : Slot) : (H ++ [s])[H.length]? = some s := by simp
theorem set_last (H : Hp) (s t : Slot) : (H ++ [s]).set H.length t = H ++ [t] := by simp
attribute [local irreducible] compare' semH semC qLen qNil qIad qSlc qIdx ldBox ldCells stBox appX awpF awpOpsF awpDF xopF xopDF qval lval seqQ blockQ loopQ bodyF retKF cnd arith IntKind.wrap

theorem ref01_shifted {c : C} {a : List Nat} {n : Nat} (hc : Wd c a) (ha : OkW a) (hn : n ≤ 31) (hl : a.length < 2147483648) (H : Hp) {K : V → Hp → Prop}
    (hK : ∀ out, out.length = a.length + 1 → OkW out → val out = val a * 2 ^ n → K (.c (.sl H.length 0 (a.length + 1) (some (a.length + 1)) 1)) (H ++ [.live ⟨out.map W, T_uint32, .rw⟩])) :
    semH Try.prog n_ref01_shifted [.c c, .c (.int .u64 (n : Int))] H K := by
  refine semH_of_awpF ok_ref01_shifted rfl ?_
  refine go ?_
  have e : arith .add .i64 (a.length : Int) 1 = ((a.length + 1 : Nat) : Int) := by
    rw [ar_add, wrap_i64 (by omega) (by omega)]
    omega
  rw [e]
  refine x_mkSl (by rfl) (by rfl) ⟨by omega, by omega, by omega, by omega⟩ ?_
  rw [Int.toNat_natCast, zeros]
  refine go ?_
  refine f_loop (fun m vs H' => ∃ (i : Nat) (out : List Nat), vs = [.c c, .c (.int .u64 (n : Int)), .c (.sl H.length 0 (a.length + 1) (some (a.length + 1)) 1), i64 (i : Int)] ∧ H' = H ++ [.live ⟨out.map W, T_uint32, .rw⟩] ∧ m = a.length - i ∧ i ≤ a.length ∧ out.length = a.length + 1 ∧ OkW out ∧ val out = val (a.take i) * 2 ^ n ∧ at0 out i < 2 ^ n ∧ ∀ k, i < k → at0 out k = 0) (by rfl) ⟨0, _, rfl, rfl, rfl, by omega, by simp, fun x hx => by simp at hx; omega, by simp [val, val_zeros], by rw [at0_zeros]; exact Nat.pow_pos (by decide), fun k _ => at0_zeros _ k⟩ ?_
  rintro m vs H' ⟨i, out, rfl, rfl, rfl, k1, k2, k3, k4, k5, k6⟩
  refine go ?_
  cases h : compare' Cm.lss (i : Int) a.length
  · simp [compare'] at h
    refine go ?_
    have ei : i = a.length := by omega
    subst ei
    rw [val_all (Nat.le_refl _)] at k4
    exact hK out k2 k3 k4
  · simp [compare'] at h
    refine go ?_
    have gx := ha.get i
    obtain ⟨m, q1, q2, q3⟩ := shl_parts hn gx
    have h31 : 2 ^ n ≤ 2147483648 := by
      have := Nat.pow_le_pow_right (n := 2) (by decide) hn
      simpa using this
    rw [show IntKind.u64.wrap (IntKind.u64.wrap ((at0 a ((i : Nat) : Int).toNat : Nat) : Int) * 2 ^ min ((n : Nat) : Int).toNat IntKind.u64.bits) = ((at0 a i * 2 ^ n : Nat) : Int) by
      rw [Int.toNat_natCast, Int.toNat_natCast, wrapN _ (by omega), show min n IntKind.u64.bits = n from Nat.min_eq_left (by show n ≤ 64; omega), show ((at0 a i : Nat) : Int) * 2 ^ n = ((at0 a i * 2 ^ n : Nat) : Int) by simp, wrapN _ q3]]
    refine idx_sl (by rfl) (by rfl) (by omega) (by omega) ?_
    refine go ?_
    refine ld_word (k := i) (last_live _ _) (by omega) (by omega) ?_
    refine go ?_
    rw [show IntKind.u32.wrap ((at0 a i * 2 ^ n : Nat) : Int) = ((m * 2 ^ n : Nat) : Int) by rw [wrap_u32, ← q1]; omega, or_u32 hn k5 (by omega)]
    refine idx_sl (by rfl) (by rfl) (by omega) (by omega) ?_
    refine go ?_
    refine st_word (k := i) (last_live _ _) (by rfl) (by omega) (by omega) ?_
    rw [set_last]
    refine go ?_
    have e3 : arith .add .i64 ((i : Nat) : Int) 1 = ((i + 1 : Nat) : Int) := by
      rw [ar_add, wrap_i64 (by omega) (by omega)]
      omega
    rw [e3, shrN, show IntKind.u32.wrap ((at0 a i * 2 ^ n / 4294967296 : Nat) : Int) = ((at0 a i * 2 ^ n / 4294967296 : Nat) : Int) by rw [wrap_u32]; omega]
    refine idx_sl (by rfl) (by rfl) (by omega) (by omega) ?_
    refine go ?_
    refine st_word (k := i + 1) (last_live _ _) (by rfl) (by omega) (by simp; omega) ?_
    rw [set_last]
    refine go ?_
    rw [e3]
    have hw : at0 out i + m * 2 ^ n < 4294967296 := by
      have e5 : at0 out i + m * 2 ^ n = (m <<< n) ||| at0 out i := by
        rw [← Nat.shiftLeft_add_eq_or_of_lt k5, Nat.shiftLeft_eq]
        omega
      rw [e5]
      exact Nat.or_lt_two_pow (n := 32) (by rw [Nat.shiftLeft_eq]; omega) (by omega)
    refine l_n (by rfl) (by omega) ⟨i + 1, _, rfl, rfl, rfl, by omega, by simp [k2], (k3.set hw).set (by omega), ?_, ?_, fun k hk => ?_⟩
    · have v1 := val_set out i (at0 out i + m * 2 ^ n) (by omega)
      have v2 := val_set (out.set i (at0 out i + m * 2 ^ n)) (i + 1) (at0 a i * 2 ^ n / 4294967296) (by simp; omega)
      rw [at0_set (by omega), k6 (i + 1) (by omega), Nat.mul_zero, Nat.add_zero] at v2
      rw [v2, val_take_succ, Nat.add_mul, ← k4]
      rw [Nat.mul_add] at v1
      have v3 : 4294967296 ^ i * (m * 2 ^ n) + 4294967296 ^ (i + 1) * (at0 a i * 2 ^ n / 4294967296) = 4294967296 ^ i * at0 a i * 2 ^ n := by
        rw [← q1, Nat.pow_succ, Nat.mul_assoc, ← Nat.mul_add, Nat.mod_add_div, Nat.mul_assoc]
      omega
    · have : at0 ((out.set i (at0 out i + m * 2 ^ n)).set (i + 1) (at0 a i * 2 ^ n / 4294967296)) (i + 1) = at0 a i * 2 ^ n / 4294967296 := by
        unfold at0
        rw [List.getD_eq_getElem?_getD, List.getElem?_set_self (by simp; omega)]
        rfl
      rw [this]
      exact q2
    · rw [at0_set (by omega), at0_set (by omega)]
      exact k6 k (by omega)
end Go.Proofs.Ytjncgcnofiaiaaa

/-
  ref01.trim of a slice of a box.
-/
set_option linter.unusedVariables false
set_option linter.unusedSimpArgs false
namespace Go.Proofs.Ytjncgcnofiaiaaa
open Go.RowKit
set_option maxRecDepth 20000

theorem slc_sl {e : Env} {x : Option V} {lo hi : Option AO} {b off n : Nat} {co : Option Nat} {l h : Int} {K : V → Prop} (hx : x = some (.c (.sl b off n co 1))) (h1 : bnd e 0 lo = some l) (h2 : bnd e n hi = some h) (h3 : 0 ≤ l) (h4 : l ≤ h) (h5 : h ≤ n)
    (k : K (.c (.sl b (off + l.toNat * 1) (h.toNat - l.toNat) (co.map (· - l.toNat)) 1))) : qSlc e 1 x lo hi none K := by
  subst hx
  simp only [qSlc, h1, h2]
  exact chk_intro (by simp; omega) k
attribute [local irreducible] compare' semH semC qLen qNil qIad qSlc qIdx ldBox ldCells stBox appX awpF awpOpsF awpDF xopF xopDF qval lval seqQ blockQ loopQ bodyF retKF cnd arith IntKind.wrap

theorem ref01_trim_box {H : Hp} {b : Nat} {out : List Nat} {el : TypeId} {kd : BK} {co : Option Nat} {K : V → Hp → Prop} (hb : H[b]? = some (.live ⟨out.map W, el, kd⟩)) (hl : out.length < 4611686018427387904)
    (hK : ∀ k co', k ≤ out.length → val (out.take k) = val out → (k ≠ 0 → at0 out (k - 1) ≠ 0) → K (.c (.sl b 0 k co' 1)) H) : semH Try.prog n_ref01_trim [.c (.sl b 0 out.length co 1)] H K := by
  refine semH_of_awpF ok_ref01_trim rfl ?_
  refine go ?_
  refine f_loop (fun m vs H' => ∃ k co', vs = [.c (.sl b 0 k co' 1)] ∧ H' = H ∧ m = k ∧ k ≤ out.length ∧ val (out.take k) = val out) (by rfl) ⟨_, _, rfl, rfl, rfl, Nat.le_refl _, val_all (Nat.le_refl _)⟩ ?_
  rintro m vs H' ⟨k, co', rfl, rfl, rfl, k1, k2⟩
  refine go ?_
  cases hq : compare' Cm.gtr (m : Int) 0
  · simp [compare'] at hq
    refine go ?_
    exact hK m co' k1 k2 (fun h => absurd hq h)
  · simp [compare'] at hq
    refine go ?_
    have e : arith .sub .i64 (m : Int) 1 = ((m - 1 : Nat) : Int) := by
      rw [ar_sub, wrap_i64 (by omega) (by omega)]
      omega
    rw [e]
    refine idx_sl (by rfl) (by rfl) (by omega) (by omega) ?_
    refine go ?_
    refine ld_word (k := m - 1) hb (by omega) (by omega) ?_
    refine go ?_
    cases h : compare' Cm.eql ((at0 out (m - 1) : Nat) : Int) 0
    · simp only [compare', dec_false] at h
      refine go ?_
      exact hK m co' k1 k2 (fun _ => by omega)
    · simp only [compare', dec_true] at h
      refine go ?_
      refine slc_sl (by rfl) (by rfl) (by rfl) (by omega) (by rw [e]; omega) (by rw [e]; omega) ?_
      refine go ?_
      rw [e]
      refine l_n (by rfl) ?_ ⟨_, _, rfl, rfl, rfl, ?_, ?_⟩
      · simp; omega
      · simp; omega
      · have hv := val_take_succ out (m - 1)
        rw [show m - 1 + 1 = m by omega, show at0 out (m - 1) = 0 by omega] at hv
        simp
        omega
end Go.Proofs.Ytjncgcnofiaiaaa

/-
  The law of a quotient's word: the estimate out of the two top words.
-/
set_option linter.unusedVariables false
namespace Go.Proofs.Ytjncgcnofiaiaaa

section
variable {P X Y head x2 xl top next yl q rest : Nat}
/-- While the estimate fails the test, it is above the quotient. -/
theorem est_round (hP : 0 < P) (hX : X = (head * 4294967296 + x2) * P + xl) (hxl : xl < P) (hY : Y = (top * 4294967296 + next) * P + yl) (hq : q * top + rest = head) (ht : q * next > rest * 4294967296 + x2) : X < q * Y := by
  have h1 : q * (top * 4294967296 + next) = (q * top) * 4294967296 + q * next := by rw [Nat.mul_add, Nat.mul_assoc]
  have h2 : head * 4294967296 + x2 + 1 ≤ q * (top * 4294967296 + next) := by
    rw [h1, ← hq, Nat.add_mul]
    omega
  have h3 := Nat.mul_le_mul_right P h2
  have h4 : q * Y = q * (top * 4294967296 + next) * P + q * yl := by rw [hY, Nat.mul_add, Nat.mul_assoc]
  rw [Nat.add_mul, Nat.one_mul] at h3
  rw [hX, h4]
  omega
/-- When it passes the test, it is at most one above. -/
theorem est_end (hP : 0 < P) (hX : X = (head * 4294967296 + x2) * P + xl) (hY : Y = (top * 4294967296 + next) * P + yl) (hyl : yl < P) (htop : 1 ≤ top) (hq : q * top + rest = head) (hqB : q ≤ 4294967296) (h : q * next ≤ rest * 4294967296 + x2) : q * Y ≤ X + Y := by
  have h1 : q * (top * 4294967296 + next) = (q * top) * 4294967296 + q * next := by rw [Nat.mul_add, Nat.mul_assoc]
  have h2 : q * (top * 4294967296 + next) ≤ head * 4294967296 + x2 := by
    rw [h1, ← hq, Nat.add_mul]
    omega
  have h3 := Nat.mul_le_mul_right P h2
  have h4 : q * Y = q * (top * 4294967296 + next) * P + q * yl := by rw [hY, Nat.mul_add, Nat.mul_assoc]
  have h5 : q * yl ≤ 4294967296 * P := Nat.mul_le_mul hqB (Nat.le_of_lt hyl)
  have h6 : 4294967296 * P ≤ Y := by
    rw [hY]
    have : 4294967296 * P ≤ (top * 4294967296 + next) * P := Nat.mul_le_mul_right P (by omega)
    omega
  rw [h4, hX]
  omega
/-- When the rest is too great for a test, it is no greater than the quotient. -/
theorem est_over (hP : 0 < P) (hX : X = (head * 4294967296 + x2) * P + xl) (hY : Y = (top * 4294967296 + next) * P + yl) (hyl : yl < P) (hn : next < 4294967296) (hq : q * top + rest = head) (hqB : q < 4294967296) (h : 4294967296 ≤ rest) : q * Y ≤ X := by
  have h0 : Y ≤ (top + 1) * 4294967296 * P := by
    rw [hY]
    have h1 : (top * 4294967296 + next + 1) * P ≤ (top + 1) * 4294967296 * P := Nat.mul_le_mul_right P (by omega)
    rw [Nat.add_mul _ 1, Nat.one_mul] at h1
    omega
  have h1 := Nat.mul_le_mul_left q h0
  have h2 : q * ((top + 1) * 4294967296 * P) = (q * top + q) * 4294967296 * P := by
    rw [← Nat.mul_assoc, ← Nat.mul_assoc, Nat.mul_add, Nat.mul_one]
  have h3 : (q * top + q) * 4294967296 * P ≤ (head * 4294967296 + x2) * P := Nat.mul_le_mul_right P (by omega)
  rw [hX]
  omega
/-- The estimate to begin with is not below the quotient. -/
theorem est_start {Q : Nat} (hP : 0 < P) (hX : X = (head * 4294967296 + x2) * P + xl) (hx2 : x2 < 4294967296) (hxl : xl < P) (hY : Y = (top * 4294967296 + next) * P + yl) (hQ : Q * Y ≤ X) : Q * top ≤ head := by
  rcases Nat.lt_or_ge head (Q * top) with h | h
  · exfalso
    have h1 : (head + 1) * 4294967296 * P ≤ Q * top * 4294967296 * P := Nat.mul_le_mul_right P (Nat.mul_le_mul_right _ h)
    have h2 : Q * (top * 4294967296 * P) ≤ Q * Y := Nat.mul_le_mul_left Q (Nat.le_trans (Nat.mul_le_mul_right P (Nat.le_add_right _ next)) (by rw [hY]; exact Nat.le_add_right _ _))
    have h3 : Q * (top * 4294967296 * P) = Q * top * 4294967296 * P := by rw [← Nat.mul_assoc, ← Nat.mul_assoc]
    have h4 : (head * 4294967296 + x2 + 1) * P ≤ (head + 1) * 4294967296 * P := Nat.mul_le_mul_right P (by omega)
    rw [Nat.add_mul _ 1, Nat.one_mul] at h4
    omega
  · exact h
end
end Go.Proofs.Ytjncgcnofiaiaaa

/-
  Words within a box; the number laws of subtracting a multiple and adding back.
-/
set_option linter.unusedVariables false
set_option linter.unusedSimpArgs false
namespace Go.Proofs.Ytjncgcnofiaiaaa
open Go.RowKit

theorem at0_app {a b : List Nat} {i : Nat} (h : i < a.length) : at0 (a ++ b) i = at0 a i := by
  simp [at0, List.getElem?_append_left h]
theorem at0_mid {pre cur post : List Nat} {i : Nat} (h : i < cur.length) : at0 (pre ++ cur ++ post) (pre.length + i) = at0 cur i := by
  rw [at0_app (by simp; omega)]
  simp [at0, List.getElem?_append_right]
theorem set_mid {pre cur post : List Nat} {i w : Nat} (h : i < cur.length) : (pre ++ cur ++ post).set (pre.length + i) w = pre ++ cur.set i w ++ post := by
  rw [List.append_assoc, List.set_append_right _ _ (by omega), show pre.length + i - pre.length = i by omega, List.set_append_left _ _ h, List.append_assoc]
theorem ld_mid {s : Option Slot} {size off i : Nat} {pre cur post : List Nat} {el : TypeId} {kd : BK} {K : V → Prop} (h : s = some (.live ⟨(pre ++ cur ++ post).map W, el, kd⟩)) (ho : off = pre.length + i) (hi : i < cur.length) (kk : K (.c (.int .u32 (at0 cur i : Nat)))) : ldBox s false size off K := by
  refine ld_word h ho (by simp; omega) ?_
  rw [at0_mid hi]
  exact kk
theorem st_mid {s : Option Slot} {b off i w : Nat} {pre cur post : List Nat} {el : TypeId} {ds : Option (List C)} {K : Nat → Slot → Prop} (h : s = some (.live ⟨(pre ++ cur ++ post).map W, el, .rw⟩)) (h2 : ds = some [.int .u32 (w : Nat)]) (ho : off = pre.length + i) (hi : i < cur.length) (kk : K b (.live ⟨(pre ++ cur.set i w ++ post).map W, el, .rw⟩)) : stBox s b 1 off ds K := by
  refine st_word h h2 ho (by simp; omega) ?_
  rw [set_mid hi]
  exact kk
theorem get_set {H : Hp} {b : Nat} {s : Slot} (h : b < H.length) : (H.set b s)[b]? = some s := by
  simp [h]
theorem get_set_ne {H : Hp} {b c : Nat} {s : Slot} (h : b ≠ c) : (H.set b s)[c]? = H[c]? := by
  simp [List.getElem?_set_ne h]
theorem set_same {H : Hp} {b : Nat} {s : Slot} (h : H[b]? = some s) : H.set b s = H := by
  obtain ⟨h1, h2⟩ := List.getElem?_eq_some_iff.1 h
  rw [← h2, List.set_getElem_self]
theorem val_take_set {l : List Nat} {i w : Nat} (h : i < l.length) : val ((l.set i w).take (i + 1)) = val (l.take i) + 4294967296 ^ i * w := by
  rw [val_take_succ]
  have e : at0 (l.set i w) i = w := by simp [at0, h]
  rw [e, List.take_set_of_le (Nat.le_refl i)]

theorem sub_u64 {x s bo : Nat} (hx : x < 4294967296) (hs : s < 4294967296) (hb : bo ≤ 1) : ∃ d w b' : Nat, arith .sub .u64 (arith .sub .u64 (x : Int) (s : Int)) (bo : Int) = (d : Int) ∧ IntKind.u32.wrap (d : Int) = (w : Int) ∧ (d : Int).fdiv (2 ^ (min (63 : Int).toNat IntKind.u64.bits)) = (b' : Int) ∧ w < 4294967296 ∧ b' ≤ 1 ∧ x + 4294967296 * b' = w + s + bo := by
  have e2 : (2 : Int) ^ (min (63 : Int).toNat IntKind.u64.bits) = 9223372036854775808 := by decide
  rw [e2]
  rcases Nat.lt_or_ge x (s + bo) with h | h
  · refine ⟨18446744073709551616 + x - s - bo, 4294967296 + x - s - bo, 1, ?_, ?_, ?_, by omega, by omega, by omega⟩
    · rw [ar_sub, ar_sub, wrap_u64, wrap_u64]
      omega
    · rw [wrap_u32]
      omega
    · rw [Int.fdiv_eq_ediv_of_nonneg _ (by decide)]
      omega
  · refine ⟨x - s - bo, x - s - bo, 0, ?_, ?_, ?_, by omega, by omega, by omega⟩
    · rw [ar_sub, ar_sub, wrap_u64, wrap_u64]
      omega
    · rw [wrap_u32]
      omega
    · rw [Int.fdiv_eq_ediv_of_nonneg _ (by decide)]
      omega
theorem sub_row {p c u v x w q y carry bo t b' : Nat} (h : c + q * u = v + p * (carry + bo)) (ht : t = carry + q * y) (hw : x + 4294967296 * b' = w + t % 4294967296 + bo) : c + p * w + q * (u + p * y) = v + p * x + p * 4294967296 * (t / 4294967296 + b') := by
  have e : x + 4294967296 * (t / 4294967296 + b') = w + bo + t := by omega
  have e1 := congrArg (p * ·) e
  simp only [Nat.mul_add] at e1
  rw [ht] at e1
  rw [ht]
  generalize hk : (carry + q * y) / 4294967296 = k at e1 ⊢
  have e2 : q * (u + p * y) = q * u + p * (q * y) := by rw [Nat.mul_add, Nat.mul_left_comm]
  have e3 : p * 4294967296 * (k + b') = p * (4294967296 * k) + p * (4294967296 * b') := by rw [Nat.mul_assoc, Nat.mul_add, Nat.mul_add]
  simp only [Nat.mul_add] at h e1
  rw [e2, e3]
  omega
theorem add_row {p c u v x y carry s : Nat} (h : c + p * carry = v + u) (hs : s = carry + x + y) : c + p * (s % 4294967296) + p * 4294967296 * (s / 4294967296) = v + p * x + (u + p * y) := by
  have e : s % 4294967296 + 4294967296 * (s / 4294967296) = carry + x + y := by omega
  have e1 := congrArg (p * ·) e
  simp only [Nat.mul_add] at e1
  rw [Nat.mul_assoc]
  omega
/-- The divisor is added back. -/
theorem back_end {X Y c c2 carry R : Nat} (hY : 0 < Y) (hYR : Y < R) (hc : c2 < R) (h1 : c + Y = X % Y + R) (h2 : carry ≤ 1) (h3 : c2 + R * carry = c + Y) : c2 = X % Y := by
  have hm := Nat.mod_lt X hY
  generalize X % Y = r at hm h1 ⊢
  have hcc : carry = 0 ∨ carry = 1 := by omega
  rcases hcc with h | h
  · subst h
    rw [Nat.mul_zero] at h3
    omega
  · subst h
    rw [Nat.mul_one] at h3
    omega
/-- A quotient's word is right, or one too great. -/
theorem word_end {X Y q c R : Nat} (hY : 0 < Y) (h1 : X / Y ≤ q) (h2 : q * Y ≤ X + Y) (hc : c < R) (hXR : X < R) :
    (c + q * Y = X + R * (0 + 0) → q = X / Y ∧ c = X % Y) ∧ (c + q * Y = X + R * (0 + 1) → q - 1 = X / Y ∧ 1 ≤ q ∧ c + Y = X % Y + R) := by
  have hd := Nat.div_add_mod X Y
  have hm := Nat.mod_lt X hY
  rw [Nat.mul_comm] at hd
  generalize X / Y = d at h1 hd ⊢
  generalize X % Y = r at hm hd ⊢
  constructor
  · intro h
    rw [Nat.add_zero, Nat.mul_zero, Nat.add_zero] at h
    have e : q = d := by
      rcases Nat.lt_or_ge d q with h3 | h3
      · have := Nat.mul_le_mul_right Y h3
        rw [Nat.succ_mul] at this
        omega
      · omega
    subst e
    exact ⟨rfl, by omega⟩
  · intro h
    rw [Nat.zero_add, Nat.mul_one] at h
    have h3 : d < q := by
      rcases Nat.lt_or_ge d q with h3 | h3
      · exact h3
      · have := Nat.mul_le_mul_right Y h3
        omega
    have h4 : q ≤ d + 1 := by
      rcases Nat.lt_or_ge (d + 1) q with h4 | h4
      · have := Nat.mul_le_mul_right Y h4
        rw [Nat.succ_mul, Nat.succ_mul] at this
        omega
      · exact h4
    have e : q = d + 1 := by omega
    subst e
    rw [Nat.succ_mul] at h
    exact ⟨by omega, by omega, by omega⟩
end Go.Proofs.Ytjncgcnofiaiaaa
