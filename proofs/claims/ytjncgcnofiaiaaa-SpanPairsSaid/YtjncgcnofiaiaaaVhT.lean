/-
  The number laws of long division: one round, the beginning, the end; shifting back.
-/
import Derived.Test.YtjncgcnofiaiaaaVhS
set_option linter.unusedVariables false
set_option linter.unusedSimpArgs false
namespace Go.Proofs.Ytjncgcnofiaiaaa
open Go.RowKit
set_option maxRecDepth 20000

theorem pow31 {n : Nat} (h : n ≤ 31) : 2 ^ n ≤ 2147483648 := by
  have := Nat.pow_le_pow_right (n := 2) (by decide) h
  simpa using this
theorem pow32 {n : Nat} (h : n ≤ 32) : 2 ^ n ≤ 4294967296 := by
  have := Nat.pow_le_pow_right (n := 2) (by decide) h
  simpa using this
theorem val_drop_set {l : List Nat} {i w : Nat} (h : i < l.length) : val ((l.set i w).drop i) = w + 4294967296 * val (l.drop (i + 1)) := by
  have e : (l.set i w).drop i = w :: l.drop (i + 1) := by
    rw [drop_cons (by simpa using h)]
    have e1 : at0 (l.set i w) i = w := by simp [at0, h]
    rw [e1, List.drop_set_of_lt (by omega)]
  rw [e]
  rfl
theorem parts_eq (xs : List Nat) (i k : Nat) : xs.take i ++ (xs.drop i).take (k + 1) ++ xs.drop (i + k + 1) = xs := by
  have e : xs.drop (i + k + 1) = (xs.drop i).drop (k + 1) := by rw [List.drop_drop]; congr 1
  rw [e, List.append_assoc, List.take_append_drop, List.take_append_drop]
theorem parts_round {xs out : List Nat} {i k Y T : Nat} (ox : OkW xs) (hl : i + k + 1 ≤ xs.length) (hY : 0 < Y) (hYk : Y < 4294967296 ^ k) (h1 : val xs + 4294967296 ^ (i + 1) * val (out.drop (i + 1)) * Y = T) (h2 : val (xs.drop (i + 1)) < Y) (hi : i < out.length) :
    val ((xs.drop i).take (k + 1)) < Y * 4294967296 ∧ ∀ seg, seg.length = k + 1 → val seg = val ((xs.drop i).take (k + 1)) % Y →
      val (xs.take i ++ seg ++ xs.drop (i + k + 1)) + 4294967296 ^ i * val ((out.set i (val ((xs.drop i).take (k + 1)) / Y)).drop i) * Y = T ∧ val ((xs.take i ++ seg ++ xs.drop (i + k + 1)).drop i) < Y := by
  have e0 : (xs.drop i).take (k + 1) = at0 xs i :: (xs.drop (i + 1)).take k := by rw [drop_cons (by omega), List.take_succ_cons]
  have e1 : val ((xs.drop i).take (k + 1)) = at0 xs i + 4294967296 * val ((xs.drop (i + 1)).take k) := by rw [e0]; rfl
  have hs := val_split (xs.drop (i + 1)) k
  have e2 : ((xs.drop (i + 1)).take k).length = k := by simp; omega
  have e3 : (xs.drop (i + 1)).drop k = xs.drop (i + k + 1) := by rw [List.drop_drop]; congr 1; omega
  rw [e2, e3] at hs
  have hp0 : val (xs.drop (i + k + 1)) = 0 := by
    rcases Nat.eq_zero_or_pos (val (xs.drop (i + k + 1))) with h | h
    · exact h
    · have := Nat.mul_le_mul_left (4294967296 ^ k) h
      omega
  rw [hp0, Nat.mul_zero, Nat.add_zero] at hs
  have gx := ox.get i
  have hl1 : (xs.take i).length = i := by simp; omega
  have hX : val xs = val (xs.take i) + 4294967296 ^ i * val ((xs.drop i).take (k + 1)) := by
    have h3 := val_split xs i
    rw [hl1] at h3
    have h4 := val_split (xs.drop i) (k + 1)
    have e4 : (xs.drop i).drop (k + 1) = xs.drop (i + k + 1) := by rw [List.drop_drop]; congr 1
    rw [e4, hp0, Nat.mul_zero, Nat.add_zero] at h4
    rw [h3, h4]
  refine ⟨by omega, fun seg hsl hsv => ⟨?_, ?_⟩⟩
  · rw [val_drop_set hi, List.append_assoc, val_append, val_append, hp0, Nat.mul_zero, Nat.add_zero, hl1, hsv]
    have hd := Nat.div_add_mod (val ((xs.drop i).take (k + 1))) Y
    rw [← h1, hX, Nat.pow_succ]
    generalize val ((xs.drop i).take (k + 1)) = S at hd ⊢
    generalize S / Y = q at hd ⊢
    generalize S % Y = r at hd ⊢
    generalize 4294967296 ^ i = p
    generalize val (out.drop (i + 1)) = o
    generalize val (xs.take i) = x0
    subst hd
    grind
  · have e5 : (xs.take i ++ seg ++ xs.drop (i + k + 1)).drop i = seg ++ xs.drop (i + k + 1) := by
      rw [List.append_assoc, List.drop_append]
      simp only [hl1]
      rw [List.drop_of_length_le (by omega), Nat.sub_self]
      rfl
    rw [e5, val_append, hp0, Nat.mul_zero, Nat.add_zero, hsv]
    exact Nat.mod_lt _ hY
theorem parts_end {x o A B n : Nat} (hB : 0 < B) (h1 : x + o * (B * 2 ^ n) = A * 2 ^ n) (h2 : x < B * 2 ^ n) : o = A / B ∧ x = A % B * 2 ^ n := by
  have hp : 0 < 2 ^ n := Nat.pow_pos (by decide)
  generalize 2 ^ n = p at h1 h2 hp ⊢
  have e : o = A * p / (B * p) := by
    rw [← h1, Nat.add_mul_div_right _ _ (Nat.mul_pos hB hp), Nat.div_eq_of_lt h2, Nat.zero_add]
  rw [Nat.mul_div_mul_right _ _ hp] at e
  refine ⟨e, ?_⟩
  have e2 : x = A * p % (B * p) := by
    rw [← h1, Nat.add_mul_mod_self_right, Nat.mod_eq_of_lt h2]
  rw [e2, Nat.mul_mod_mul_right]
/-- The length of a shifted divisor, trimmed, is what it was; its top word is great. -/
theorem shifted_len {b yo : List Nat} {n k : Nat} (nb : Norm b) (hb : b ≠ []) (h1 : 2147483648 ≤ at0 b (b.length - 1) * 2 ^ n) (h2 : at0 b (b.length - 1) * 2 ^ n < 4294967296) (oy : OkW yo) (hv : val yo = val b * 2 ^ n) (hk : k ≤ yo.length) (ht : val (yo.take k) = val yo) (hz : k ≠ 0 → at0 yo (k - 1) ≠ 0) :
    k = b.length ∧ 2147483648 * 4294967296 ^ (b.length - 1) ≤ val (yo.take k) ∧ val (yo.take k) < 4294967296 ^ k := by
  have hl : 0 < b.length := List.length_pos_iff.2 hb
  have e := val_take_succ b (b.length - 1)
  rw [show b.length - 1 + 1 = b.length by omega, val_all (Nat.le_refl _)] at e
  have hlo := val_lt (nb.1.take (b.length - 1))
  rw [show (b.take (b.length - 1)).length = b.length - 1 by simp] at hlo
  have e2 : val (yo.take k) = val (b.take (b.length - 1)) * 2 ^ n + 4294967296 ^ (b.length - 1) * (at0 b (b.length - 1) * 2 ^ n) := by
    rw [ht, hv, e, Nat.add_mul, Nat.mul_assoc]
  have ge : 4294967296 ^ (b.length - 1) * 2147483648 ≤ 4294967296 ^ (b.length - 1) * (at0 b (b.length - 1) * 2 ^ n) := Nat.mul_le_mul_left _ h1
  have lt : val (yo.take k) < 4294967296 ^ b.length := by
    have hp : 0 < 2 ^ n := Nat.pow_pos (by decide)
    have hd : at0 b (b.length - 1) * 2 ^ n + 2 ^ n ≤ 4294967296 := by
      have hn : n ≤ 32 := by
        rcases Nat.lt_or_ge 32 n with h | h
        · have h4 : 2 ^ 33 ≤ 2 ^ n := Nat.pow_le_pow_right (by decide) h
          have h5 : 1 ≤ at0 b (b.length - 1) := by
            rcases Nat.eq_zero_or_pos (at0 b (b.length - 1)) with h6 | h6
            · rw [h6] at h1
              omega
            · exact h6
          have := Nat.mul_le_mul h5 h4
          omega
        · exact h
      have hB : 4294967296 = 2 ^ (32 - n) * 2 ^ n := by rw [← Nat.pow_add, show 32 - n + n = 32 by omega]
      have h3 : at0 b (b.length - 1) < 2 ^ (32 - n) := by
        rw [hB] at h2
        exact Nat.lt_of_mul_lt_mul_right h2
      have h4 := Nat.mul_le_mul_right (2 ^ n) h3
      rw [← hB, Nat.succ_mul] at h4
      exact h4
    have h3 : val (b.take (b.length - 1)) * 2 ^ n < 4294967296 ^ (b.length - 1) * 2 ^ n := Nat.mul_lt_mul_of_pos_right hlo hp
    have h5 := Nat.mul_le_mul_left (4294967296 ^ (b.length - 1)) hd
    rw [Nat.mul_add] at h5
    have h6 : 4294967296 ^ (b.length - 1 + 1) = 4294967296 ^ (b.length - 1) * 4294967296 := Nat.pow_succ ..
    rw [show b.length - 1 + 1 = b.length by omega] at h6
    omega
  have hno : Norm (yo.take k) := ⟨oy.take k, fun hne => by
    have h0 : k ≠ 0 := fun e => hne (by simp [e])
    have el : (yo.take k).length = k := by simp; omega
    rw [el]
    have : at0 (yo.take k) (k - 1) = at0 yo (k - 1) := by
      unfold at0
      rw [List.getD_eq_getElem?_getD, List.getD_eq_getElem?_getD, List.getElem?_take_of_lt (by omega)]
    rw [this]
    exact hz h0⟩
  have el : (yo.take k).length = k := by simp; omega
  have hk1 : k ≤ b.length := by
    have := norm_len hno lt
    omega
  have hge : 4294967296 ^ (b.length - 1) ≤ val (yo.take k) := by
    have h6 : 0 < 4294967296 ^ (b.length - 1) := Nat.pow_pos (by decide)
    omega
  have hk2 : b.length - 1 < k := by
    have h7 := val_lt (oy.take k)
    rw [el] at h7
    exact (Nat.pow_lt_pow_iff_right (by decide)).1 (Nat.lt_of_le_of_lt hge h7)
  have ek : k = b.length := by omega
  refine ⟨ek, ?_, ?_⟩
  · rw [Nat.mul_comm]
    omega
  · rw [ek]
    rw [ek] at lt
    exact lt
theorem parts_start {a xs : List Nat} {n k m Y : Nat} (oa : OkW a) (hn : n ≤ 31) (hk : 1 ≤ k) (hm : m + k = a.length + 1) (hl : xs.length = a.length + 1) (hv : val xs = val a * 2 ^ n) (hY : 2147483648 * 4294967296 ^ (k - 1) ≤ Y) : val (xs.drop m) < Y := by
  have hs := val_split xs m
  rw [show (xs.take m).length = m by simp; omega, hv] at hs
  have ha := val_lt oa
  have h31 : 2 ^ n ≤ 2147483648 := pow31 hn
  have h1 : val a * 2 ^ n < 4294967296 ^ a.length * 2147483648 := Nat.lt_of_le_of_lt (Nat.mul_le_mul_left _ h31) (Nat.mul_lt_mul_of_pos_right ha (by decide))
  have e : 4294967296 ^ a.length = 4294967296 ^ m * 4294967296 ^ (k - 1) := by rw [← Nat.pow_add, show m + (k - 1) = a.length by omega]
  rw [e, Nat.mul_assoc, Nat.mul_comm _ 2147483648] at h1
  have h2 := Nat.mul_le_mul_left (4294967296 ^ m) hY
  have h3 : 4294967296 ^ m * val (xs.drop m) < 4294967296 ^ m * Y := by omega
  exact Nat.lt_of_mul_lt_mul_left h3

theorem or_u32' {lo m s : Nat} (hs : s ≤ 32) (hlo : lo < 2 ^ s) (hm : m * 2 ^ s < 4294967296) : arith .or .u32 (lo : Int) ((m * 2 ^ s : Nat) : Int) = ((lo + m * 2 ^ s : Nat) : Int) ∧ lo + m * 2 ^ s < 4294967296 := by
  have h32 : 2 ^ s ≤ 4294967296 := pow32 hs
  have hsum : lo + m * 2 ^ s < 4294967296 := by
    have e : lo + m * 2 ^ s = (m <<< s) ||| lo := by
      rw [← Nat.shiftLeft_add_eq_or_of_lt hlo, Nat.shiftLeft_eq]
      omega
    rw [e]
    exact Nat.or_lt_two_pow (n := 32) (by rw [Nat.shiftLeft_eq]; exact hm) (by omega)
  refine ⟨?_, hsum⟩
  generalize hp : m * 2 ^ s = p at hm hsum
  have e : (BitVec.ofInt 32 (lo : Int) ||| BitVec.ofInt 32 (p : Int)).toNat = lo + p := by
    rw [BitVec.toNat_or, BitVec.toNat_ofInt, BitVec.toNat_ofInt]
    have e1 : ((lo : Int) % ((2 ^ 32 : Nat) : Int)).toNat = lo := by omega
    have e2 : ((p : Int) % ((2 ^ 32 : Nat) : Int)).toNat = p := by omega
    rw [e1, e2, Nat.or_comm, ← hp, ← Nat.shiftLeft_eq, ← Nat.shiftLeft_add_eq_or_of_lt hlo]
    omega
  show IntKind.u32.wrap ((BitVec.ofInt 32 (lo : Int) ||| BitVec.ofInt 32 (p : Int)).toNat : Int) = _
  rw [e, wrap_u32]
  omega
/-- A word of the amount shifted back. -/
theorem back_word {x y n : Nat} (hn : n ≤ 31) (hx : x < 4294967296) (hy : y < 4294967296) : ∃ m, y * 2 ^ (32 - n) % 4294967296 = m * 2 ^ (32 - n) ∧ x / 2 ^ n < 2 ^ (32 - n) ∧ y * 2 ^ (32 - n) < 18446744073709551616 * 2 ∧ m * 2 ^ (32 - n) < 4294967296 ∧ 2 ^ n * (x / 2 ^ n + m * 2 ^ (32 - n)) + x % 2 ^ n = x + 4294967296 * (y % 2 ^ n) := by
  have hB : 4294967296 = 2 ^ n * 2 ^ (32 - n) := by rw [← Nat.pow_add, show n + (32 - n) = 32 by omega]
  have hp : 0 < 2 ^ n := Nat.pow_pos (by decide)
  have hq : 0 < 2 ^ (32 - n) := Nat.pow_pos (by decide)
  have h32 : 2 ^ (32 - n) ≤ 4294967296 := pow32 (by omega)
  refine ⟨y % 2 ^ n, ?_, ?_, ?_, ?_, ?_⟩
  · rw [hB, Nat.mul_mod_mul_right]
  · rw [Nat.div_lt_iff_lt_mul hp, Nat.mul_comm, ← hB]
    exact hx
  · have := Nat.mul_le_mul (Nat.le_of_lt hy) h32
    omega
  · have := Nat.mul_lt_mul_of_pos_right (Nat.mod_lt y hp) hq
    rwa [← hB] at this
  · have hd := Nat.div_add_mod x (2 ^ n)
    have e : 2 ^ n * (y % 2 ^ n * 2 ^ (32 - n)) = 4294967296 * (y % 2 ^ n) := by
      rw [hB]
      grind
    rw [Nat.mul_add, e]
    omega
theorem back_row {p q c v x y w : Nat} (h : q * c = v + p * (x % q)) (hw : q * w + x % q = x + 4294967296 * (y % q)) : q * (c + p * w) = v + p * x + p * 4294967296 * (y % q) := by
  have e : q * (p * w) + p * (x % q) = p * x + p * 4294967296 * (y % q) := by
    have := congrArg (p * ·) hw
    grind
  rw [Nat.mul_add, h]
  omega
theorem back_start {t : List Nat} {n r : Nat} (hn : n ≤ 32) (h : val t = r * 2 ^ n) : at0 t 0 % 2 ^ n = 0 := by
  cases t with
  | nil => simp [at0]
  | cons x l =>
    have e : val (x :: l) = x + 4294967296 * val l := rfl
    have hB : 4294967296 = 2 ^ (32 - n) * 2 ^ n := by rw [← Nat.pow_add, show 32 - n + n = 32 by omega]
    have e2 : at0 (x :: l) 0 = x := by simp [at0]
    rw [e2]
    rw [e, hB] at h
    have e3 : x + 2 ^ (32 - n) * val l * 2 ^ n = r * 2 ^ n := by rw [← h]; grind
    have := congrArg (· % 2 ^ n) e3
    simp only [Nat.add_mul_mod_self_right, Nat.mul_mod_left] at this
    exact this
end Go.Proofs.Ytjncgcnofiaiaaa
