/-
  Words within a box; the number laws of subtracting a multiple and adding back.
-/
import Derived.Test.YtjncgcnofiaiaaaVhQ
set_option linter.unusedVariables false
set_option linter.unusedSimpArgs false
namespace Go.Proofs.Ytjncgcnofiaiaaa
open Go.RowKit

theorem at0_app {a b : List Nat} {i : Nat} (h : i < a.length) : at0 (a ++ b) i = at0 a i := by
  simp [at0, List.getElem?_append_left h]
theorem at0_mid {pre cur post : List Nat} {i : Nat} (h : i < cur.length) : at0 (pre ++ cur ++ post) (pre.length + i) = at0 cur i := by
  rw [at0_app (by simp; omega)]
  simp [at0, List.getElem?_append_right]
theorem set_mid {pre cur post : List Nat} {i w : Nat} (h : i < cur.length) : (pre ++ cur ++ post).set (pre.length + i) w = pre ++ cur.set i w ++ post := by
  rw [List.append_assoc, List.set_append_right _ _ (by omega), show pre.length + i - pre.length = i by omega, List.set_append_left _ _ h, List.append_assoc]
theorem ld_mid {s : Option Slot} {size off i : Nat} {pre cur post : List Nat} {el : TypeId} {kd : BK} {K : V → Prop} (h : s = some (.live ⟨(pre ++ cur ++ post).map W, el, kd⟩)) (ho : off = pre.length + i) (hi : i < cur.length) (kk : K (.c (.int .u32 (at0 cur i : Nat)))) : ldBox s false size off K := by
  refine ld_word h ho (by simp; omega) ?_
  rw [at0_mid hi]
  exact kk
theorem st_mid {s : Option Slot} {b off i w : Nat} {pre cur post : List Nat} {el : TypeId} {ds : Option (List C)} {K : Nat → Slot → Prop} (h : s = some (.live ⟨(pre ++ cur ++ post).map W, el, .rw⟩)) (h2 : ds = some [.int .u32 (w : Nat)]) (ho : off = pre.length + i) (hi : i < cur.length) (kk : K b (.live ⟨(pre ++ cur.set i w ++ post).map W, el, .rw⟩)) : stBox s b 1 off ds K := by
  refine st_word h h2 ho (by simp; omega) ?_
  rw [set_mid hi]
  exact kk
theorem get_set {H : Hp} {b : Nat} {s : Slot} (h : b < H.length) : (H.set b s)[b]? = some s := by
  simp [h]
theorem get_set_ne {H : Hp} {b c : Nat} {s : Slot} (h : b ≠ c) : (H.set b s)[c]? = H[c]? := by
  simp [List.getElem?_set_ne h]
theorem set_same {H : Hp} {b : Nat} {s : Slot} (h : H[b]? = some s) : H.set b s = H := by
  obtain ⟨h1, h2⟩ := List.getElem?_eq_some_iff.1 h
  rw [← h2, List.set_getElem_self]
theorem val_take_set {l : List Nat} {i w : Nat} (h : i < l.length) : val ((l.set i w).take (i + 1)) = val (l.take i) + 4294967296 ^ i * w := by
  rw [val_take_succ]
  have e : at0 (l.set i w) i = w := by simp [at0, h]
  rw [e, List.take_set_of_le (Nat.le_refl i)]

theorem sub_u64 {x s bo : Nat} (hx : x < 4294967296) (hs : s < 4294967296) (hb : bo ≤ 1) : ∃ d w b' : Nat, arith .sub .u64 (arith .sub .u64 (x : Int) (s : Int)) (bo : Int) = (d : Int) ∧ IntKind.u32.wrap (d : Int) = (w : Int) ∧ (d : Int).fdiv (2 ^ (min (63 : Int).toNat IntKind.u64.bits)) = (b' : Int) ∧ w < 4294967296 ∧ b' ≤ 1 ∧ x + 4294967296 * b' = w + s + bo := by
  have e2 : (2 : Int) ^ (min (63 : Int).toNat IntKind.u64.bits) = 9223372036854775808 := by decide
  rw [e2]
  rcases Nat.lt_or_ge x (s + bo) with h | h
  · refine ⟨18446744073709551616 + x - s - bo, 4294967296 + x - s - bo, 1, ?_, ?_, ?_, by omega, by omega, by omega⟩
    · rw [ar_sub, ar_sub, wrap_u64, wrap_u64]
      omega
    · rw [wrap_u32]
      omega
    · rw [Int.fdiv_eq_ediv_of_nonneg _ (by decide)]
      omega
  · refine ⟨x - s - bo, x - s - bo, 0, ?_, ?_, ?_, by omega, by omega, by omega⟩
    · rw [ar_sub, ar_sub, wrap_u64, wrap_u64]
      omega
    · rw [wrap_u32]
      omega
    · rw [Int.fdiv_eq_ediv_of_nonneg _ (by decide)]
      omega
theorem sub_row {p c u v x w q y carry bo t b' : Nat} (h : c + q * u = v + p * (carry + bo)) (ht : t = carry + q * y) (hw : x + 4294967296 * b' = w + t % 4294967296 + bo) : c + p * w + q * (u + p * y) = v + p * x + p * 4294967296 * (t / 4294967296 + b') := by
  have e : x + 4294967296 * (t / 4294967296 + b') = w + bo + t := by omega
  have e1 := congrArg (p * ·) e
  simp only [Nat.mul_add] at e1
  rw [ht] at e1
  rw [ht]
  generalize hk : (carry + q * y) / 4294967296 = k at e1 ⊢
  have e2 : q * (u + p * y) = q * u + p * (q * y) := by rw [Nat.mul_add, Nat.mul_left_comm]
  have e3 : p * 4294967296 * (k + b') = p * (4294967296 * k) + p * (4294967296 * b') := by rw [Nat.mul_assoc, Nat.mul_add, Nat.mul_add]
  simp only [Nat.mul_add] at h e1
  rw [e2, e3]
  omega
theorem add_row {p c u v x y carry s : Nat} (h : c + p * carry = v + u) (hs : s = carry + x + y) : c + p * (s % 4294967296) + p * 4294967296 * (s / 4294967296) = v + p * x + (u + p * y) := by
  have e : s % 4294967296 + 4294967296 * (s / 4294967296) = carry + x + y := by omega
  have e1 := congrArg (p * ·) e
  simp only [Nat.mul_add] at e1
  rw [Nat.mul_assoc]
  omega
/-- The divisor is added back. -/
theorem back_end {X Y c c2 carry R : Nat} (hY : 0 < Y) (hYR : Y < R) (hc : c2 < R) (h1 : c + Y = X % Y + R) (h2 : carry ≤ 1) (h3 : c2 + R * carry = c + Y) : c2 = X % Y := by
  have hm := Nat.mod_lt X hY
  generalize X % Y = r at hm h1 ⊢
  have hcc : carry = 0 ∨ carry = 1 := by omega
  rcases hcc with h | h
  · subst h
    rw [Nat.mul_zero] at h3
    omega
  · subst h
    rw [Nat.mul_one] at h3
    omega
/-- A quotient's word is right, or one too great. -/
theorem word_end {X Y q c R : Nat} (hY : 0 < Y) (h1 : X / Y ≤ q) (h2 : q * Y ≤ X + Y) (hc : c < R) (hXR : X < R) :
    (c + q * Y = X + R * (0 + 0) → q = X / Y ∧ c = X % Y) ∧ (c + q * Y = X + R * (0 + 1) → q - 1 = X / Y ∧ 1 ≤ q ∧ c + Y = X % Y + R) := by
  have hd := Nat.div_add_mod X Y
  have hm := Nat.mod_lt X hY
  rw [Nat.mul_comm] at hd
  generalize X / Y = d at h1 hd ⊢
  generalize X % Y = r at hm hd ⊢
  constructor
  · intro h
    rw [Nat.add_zero, Nat.mul_zero, Nat.add_zero] at h
    have e : q = d := by
      rcases Nat.lt_or_ge d q with h3 | h3
      · have := Nat.mul_le_mul_right Y h3
        rw [Nat.succ_mul] at this
        omega
      · omega
    subst e
    exact ⟨rfl, by omega⟩
  · intro h
    rw [Nat.zero_add, Nat.mul_one] at h
    have h3 : d < q := by
      rcases Nat.lt_or_ge d q with h3 | h3
      · exact h3
      · have := Nat.mul_le_mul_right Y h3
        omega
    have h4 : q ≤ d + 1 := by
      rcases Nat.lt_or_ge (d + 1) q with h4 | h4
      · have := Nat.mul_le_mul_right Y h4
        rw [Nat.succ_mul, Nat.succ_mul] at this
        omega
      · exact h4
    have e : q = d + 1 := by omega
    subst e
    rw [Nat.succ_mul] at h
    exact ⟨by omega, by omega, by omega⟩
end Go.Proofs.Ytjncgcnofiaiaaa
