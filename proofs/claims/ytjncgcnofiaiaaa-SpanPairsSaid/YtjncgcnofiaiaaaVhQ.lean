/-
  The law of a quotient's word: the estimate out of the two top words.
-/
import Derived.Test.YtjncgcnofiaiaaaVhP
set_option linter.unusedVariables false
namespace Go.Proofs.Ytjncgcnofiaiaaa

section
variable {P X Y head x2 xl top next yl q rest : Nat}
/-- While the estimate fails the test, it is above the quotient. -/
theorem est_round (hP : 0 < P) (hX : X = (head * 4294967296 + x2) * P + xl) (hxl : xl < P) (hY : Y = (top * 4294967296 + next) * P + yl) (hq : q * top + rest = head) (ht : q * next > rest * 4294967296 + x2) : X < q * Y := by
  have h1 : q * (top * 4294967296 + next) = (q * top) * 4294967296 + q * next := by rw [Nat.mul_add, Nat.mul_assoc]
  have h2 : head * 4294967296 + x2 + 1 ≤ q * (top * 4294967296 + next) := by
    rw [h1, ← hq, Nat.add_mul]
    omega
  have h3 := Nat.mul_le_mul_right P h2
  have h4 : q * Y = q * (top * 4294967296 + next) * P + q * yl := by rw [hY, Nat.mul_add, Nat.mul_assoc]
  rw [Nat.add_mul, Nat.one_mul] at h3
  rw [hX, h4]
  omega
/-- When it passes the test, it is at most one above. -/
theorem est_end (hP : 0 < P) (hX : X = (head * 4294967296 + x2) * P + xl) (hY : Y = (top * 4294967296 + next) * P + yl) (hyl : yl < P) (htop : 1 ≤ top) (hq : q * top + rest = head) (hqB : q ≤ 4294967296) (h : q * next ≤ rest * 4294967296 + x2) : q * Y ≤ X + Y := by
  have h1 : q * (top * 4294967296 + next) = (q * top) * 4294967296 + q * next := by rw [Nat.mul_add, Nat.mul_assoc]
  have h2 : q * (top * 4294967296 + next) ≤ head * 4294967296 + x2 := by
    rw [h1, ← hq, Nat.add_mul]
    omega
  have h3 := Nat.mul_le_mul_right P h2
  have h4 : q * Y = q * (top * 4294967296 + next) * P + q * yl := by rw [hY, Nat.mul_add, Nat.mul_assoc]
  have h5 : q * yl ≤ 4294967296 * P := Nat.mul_le_mul hqB (Nat.le_of_lt hyl)
  have h6 : 4294967296 * P ≤ Y := by
    rw [hY]
    have : 4294967296 * P ≤ (top * 4294967296 + next) * P := Nat.mul_le_mul_right P (by omega)
    omega
  rw [h4, hX]
  omega
/-- When the rest is too great for a test, it is no greater than the quotient. -/
theorem est_over (hP : 0 < P) (hX : X = (head * 4294967296 + x2) * P + xl) (hY : Y = (top * 4294967296 + next) * P + yl) (hyl : yl < P) (hn : next < 4294967296) (hq : q * top + rest = head) (hqB : q < 4294967296) (h : 4294967296 ≤ rest) : q * Y ≤ X := by
  have h0 : Y ≤ (top + 1) * 4294967296 * P := by
    rw [hY]
    have h1 : (top * 4294967296 + next + 1) * P ≤ (top + 1) * 4294967296 * P := Nat.mul_le_mul_right P (by omega)
    rw [Nat.add_mul _ 1, Nat.one_mul] at h1
    omega
  have h1 := Nat.mul_le_mul_left q h0
  have h2 : q * ((top + 1) * 4294967296 * P) = (q * top + q) * 4294967296 * P := by
    rw [← Nat.mul_assoc, ← Nat.mul_assoc, Nat.mul_add, Nat.mul_one]
  have h3 : (q * top + q) * 4294967296 * P ≤ (head * 4294967296 + x2) * P := Nat.mul_le_mul_right P (by omega)
  rw [hX]
  omega
/-- The estimate to begin with is not below the quotient. -/
theorem est_start {Q : Nat} (hP : 0 < P) (hX : X = (head * 4294967296 + x2) * P + xl) (hx2 : x2 < 4294967296) (hxl : xl < P) (hY : Y = (top * 4294967296 + next) * P + yl) (hQ : Q * Y ≤ X) : Q * top ≤ head := by
  rcases Nat.lt_or_ge head (Q * top) with h | h
  · exfalso
    have h1 : (head + 1) * 4294967296 * P ≤ Q * top * 4294967296 * P := Nat.mul_le_mul_right P (Nat.mul_le_mul_right _ h)
    have h2 : Q * (top * 4294967296 * P) ≤ Q * Y := Nat.mul_le_mul_left Q (Nat.le_trans (Nat.mul_le_mul_right P (Nat.le_add_right _ next)) (by rw [hY]; exact Nat.le_add_right _ _))
    have h3 : Q * (top * 4294967296 * P) = Q * top * 4294967296 * P := by rw [← Nat.mul_assoc, ← Nat.mul_assoc]
    have h4 : (head * 4294967296 + x2 + 1) * P ≤ (head + 1) * 4294967296 * P := Nat.mul_le_mul_right P (by omega)
    rw [Nat.add_mul _ 1, Nat.one_mul] at h4
    omega
  · exact h
end
end Go.Proofs.Ytjncgcnofiaiaaa
