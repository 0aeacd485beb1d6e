/-
  num.quoWords with a divisor of two words or more.
-/
import Derived.Test.YtjncgcnofiaiaaaMa7
/-
  num.quoWords: the number laws that ref01.word did not need; copying, shifting up, division by one word.
-/
set_option linter.unusedVariables false
set_option linter.unusedSimpArgs false
namespace Go.Proofs.Ytjncgcnofiaiaaa
open Go.RowKit
set_option maxRecDepth 20000

section
variable {P X Y head x2 xl top next yl q rest : Nat}
theorem est_over' (hP : 0 < P) (hX : X = (head * 4294967296 + x2) * P + xl) (hY : Y = (top * 4294967296 + next) * P + yl) (hyl : yl < P) (hn : next < 4294967296) (hq : q * top + rest = head) (h : q ≤ rest) : q * Y ≤ X := by
  have h0 : Y ≤ (top + 1) * 4294967296 * P := by
    rw [hY]
    have h1 : (top * 4294967296 + next + 1) * P ≤ (top + 1) * 4294967296 * P := Nat.mul_le_mul_right P (by omega)
    rw [Nat.add_mul _ 1, Nat.one_mul] at h1
    omega
  have h1 := Nat.mul_le_mul_left q h0
  have h2 : q * ((top + 1) * 4294967296 * P) = (q * top + q) * 4294967296 * P := by
    rw [← Nat.mul_assoc, ← Nat.mul_assoc, Nat.mul_add, Nat.mul_one]
  have h3 : (q * top + q) * 4294967296 * P ≤ (head * 4294967296 + x2) * P := Nat.mul_le_mul_right P (by omega)
  rw [hX]
  omega
/-- The two top words are not above the divisor's, one place up. -/
theorem head_le (hP : 0 < P) (hX : X = (head * 4294967296 + x2) * P + xl) (hY : Y = (top * 4294967296 + next) * P + yl) (hyl : yl < P) (h : X < Y * 4294967296) : head ≤ top * 4294967296 + next := by
  rcases Nat.lt_or_ge (top * 4294967296 + next) head with h1 | h1
  · exfalso
    have h2 : (top * 4294967296 + next + 1) * 4294967296 * P ≤ head * 4294967296 * P := Nat.mul_le_mul_right P (Nat.mul_le_mul_right _ h1)
    have h3 : (top * 4294967296 + next + 1) * 4294967296 * P = (top * 4294967296 + next) * P * 4294967296 + P * 4294967296 := by grind
    have h4 : (head * 4294967296 + x2) * P = head * 4294967296 * P + x2 * P := Nat.add_mul ..
    have h5 : Y * 4294967296 = (top * 4294967296 + next) * P * 4294967296 + yl * 4294967296 := by rw [hY, Nat.add_mul]
    omega
  · exact h1
end
theorem quo_le {head top next : Nat} (h : head ≤ top * 4294967296 + next) (h1 : 2147483648 ≤ top) (h2 : next < 4294967296) : head / top ≤ 4294967297 := by
  have h3 : head < 4294967298 * top := by omega
  have := (Nat.div_lt_iff_lt_mul (by omega : 0 < top)).2 h3
  omega
theorem sub_i64 {x s bo : Nat} (hx : x < 4294967296) (hs : s < 4294967296) (hb : bo ≤ 1) : ∃ (d : Int) (w b' : Nat), arith .sub .i64 (arith .sub .i64 (x : Int) (bo : Int)) (s : Int) = d ∧ IntKind.u32.wrap d = (w : Int) ∧ (d < 0 ↔ b' = 1) ∧ w < 4294967296 ∧ b' ≤ 1 ∧ x + 4294967296 * b' = w + s + bo := by
  have e : arith .sub .i64 (arith .sub .i64 (x : Int) (bo : Int)) (s : Int) = (x : Int) - bo - s := by
    rw [ar_sub, ar_sub, wrap_i64 (n := (x : Int) - bo) (by omega) (by omega), wrap_i64 (by omega) (by omega)]
  rcases Nat.lt_or_ge x (s + bo) with h | h
  · exact ⟨_, 4294967296 + x - s - bo, 1, e, by rw [wrap_u32]; omega, by omega, by omega, by omega, by omega⟩
  · exact ⟨_, x - s - bo, 0, e, by rw [wrap_u32]; omega, by omega, by omega, by omega, by omega⟩
theorem i64N (a : Nat) (h : a < 9223372036854775808) : IntKind.i64.wrap (a : Int) = (a : Int) := wrap_i64 (by omega) (by omega)
/-- What of a word shifted up goes over into the next. -/
def ovr (l : List Nat) (s i : Nat) : Nat := match i with
  | 0 => 0
  | i + 1 => at0 l i * 2 ^ s / 4294967296
theorem up_row {p v a x s c w : Nat} (h : v + p * c = a * 2 ^ s) (hw : w = x * 2 ^ s % 4294967296 + c) : v + p * w + p * 4294967296 * (x * 2 ^ s / 4294967296) = (a + p * x) * 2 ^ s := by
  have e := Nat.div_add_mod (x * 2 ^ s) 4294967296
  have e2 : (a + p * x) * 2 ^ s = a * 2 ^ s + p * (x * 2 ^ s) := by rw [Nat.add_mul, Nat.mul_assoc]
  rw [e2, ← h, hw]
  generalize x * 2 ^ s % 4294967296 = r at e ⊢
  generalize x * 2 ^ s / 4294967296 = q at e ⊢
  rw [← e]
  grind
theorem ovr_shr {x s : Nat} (hs : s ≤ 31) : x / 2 ^ (32 - s) = x * 2 ^ s / 4294967296 := by
  have hB : 4294967296 = 2 ^ (32 - s) * 2 ^ s := by rw [← Nat.pow_add, show 32 - s + s = 32 by omega]
  rw [hB, Nat.mul_div_mul_right _ _ (Nat.pow_pos (by decide))]
/-- A word shifted up, and what comes over from below. -/
theorem up_word {x y s : Nat} (hs : s ≤ 31) (hx : x < 4294967296) (hy : y < 4294967296) : arith .or .u32 ((x * 2 ^ s % 4294967296 : Nat) : Int) ((y * 2 ^ s / 4294967296 : Nat) : Int) = ((x * 2 ^ s % 4294967296 + y * 2 ^ s / 4294967296 : Nat) : Int) ∧ x * 2 ^ s % 4294967296 + y * 2 ^ s / 4294967296 < 4294967296 := by
  obtain ⟨m, q1, _, _⟩ := shl_parts hs hx
  obtain ⟨_, _, q2, _⟩ := shl_parts hs hy
  obtain ⟨r1, r2⟩ := or_u32' (lo := y * 2 ^ s / 4294967296) (m := m) (s := s) (by omega) q2 (by rw [← q1]; exact Nat.mod_lt _ (by decide))
  rw [q1]
  refine ⟨?_, by omega⟩
  have ec : arith .or .u32 ((m * 2 ^ s : Nat) : Int) ((y * 2 ^ s / 4294967296 : Nat) : Int) = arith .or .u32 ((y * 2 ^ s / 4294967296 : Nat) : Int) ((m * 2 ^ s : Nat) : Int) := by
    show IntKind.u32.wrap ((BitVec.ofInt 32 ((m * 2 ^ s : Nat) : Int) ||| BitVec.ofInt 32 ((y * 2 ^ s / 4294967296 : Nat) : Int)).toNat : Int) = IntKind.u32.wrap ((BitVec.ofInt 32 ((y * 2 ^ s / 4294967296 : Nat) : Int) ||| BitVec.ofInt 32 ((m * 2 ^ s : Nat) : Int)).toNat : Int)
    rw [BitVec.or_comm]
  rw [ec, r1, Nat.add_comm]
theorem shlU (x s : Nat) (hs : s ≤ 32) : IntKind.u32.wrap (((x : Nat) : Int) * 2 ^ (min ((s : Nat) : Int).toNat IntKind.u32.bits)) = ((x * 2 ^ s % 4294967296 : Nat) : Int) := by
  rw [Int.toNat_natCast, show min s IntKind.u32.bits = s from Nat.min_eq_left (by show s ≤ 32; omega), show ((x : Nat) : Int) * 2 ^ s = ((x * 2 ^ s : Nat) : Int) by simp, u32N]
theorem shrU (x s : Nat) (hs : s ≤ 32) : ((x : Nat) : Int).fdiv (2 ^ (min ((s : Nat) : Int).toNat IntKind.u32.bits)) = ((x / 2 ^ s : Nat) : Int) := by
  rw [Int.toNat_natCast, show min s IntKind.u32.bits = s from Nat.min_eq_left (by show s ≤ 32; omega), Int.fdiv_eq_ediv_of_nonneg _ (by exact_mod_cast Nat.zero_le (2 ^ s))]
  simp
/-- Nothing stands above what is worth less. -/
theorem above_nought {l : List Nat} {n : Nat} (h : val l < 4294967296 ^ n) (hn : n < l.length) : val (l.take n) = val l ∧ at0 l n = 0 := by
  have hs := val_split l n
  rw [show (l.take n).length = n by simp; omega, drop_cons hn] at hs
  have hz : at0 l n + 4294967296 * val (l.drop (n + 1)) = 0 := by
    rcases Nat.eq_zero_or_pos (at0 l n + 4294967296 * val (l.drop (n + 1))) with h1 | h1
    · exact h1
    · have := Nat.mul_le_mul_left (4294967296 ^ n) h1
      simp only [val] at hs
      omega
  simp only [val] at hs
  rw [hz, Nat.mul_zero, Nat.add_zero] at hs
  exact ⟨hs.symm, by omega⟩
theorem app_copy {H : Hp} {el : TypeId} {x : Option V} {K : V → Hp → Prop} {c : C} {l : List Nat} (h : x = some (.c c)) (hc : Wd c l) (hl : l.length < 4294967296) (k0 : l = [] → K (.c .nilSl) H) (k : l ≠ [] → K (.c (.sl H.length 0 l.length none 1)) (H ++ [.live ⟨l.map W, el, .rw⟩])) : appX H el 1 4 (some (.c .nilSl)) x K := by
  subst h
  cases hc with
  | nil =>
    refine chk_intro (by rfl) ?_
    exact cnd_true (by rfl) (k0 rfl)
  | imm =>
    refine chk_intro (by simp) ?_
    by_cases h0 : l = []
    · subst h0
      exact cnd_true (by rfl) (k0 rfl)
    · have hp := List.length_pos_iff.2 h0
      have e : (l.map W).take (l.length * 1) = l.map W := List.take_of_length_le (by simp)
      refine cnd_false ?_ (chk_intro ?_ (by rw [e]; exact k h0))
      · cases hb : Nat.beq l.length 0 with
        | false => rfl
        | true =>
          have := Nat.eq_of_beq_eq_true hb
          omega
      · rw [Bool.and_eq_true]
        exact ⟨dec_true.2 (by omega), dec_true.2 (by omega)⟩
def QWK (A B n : Nat) (u : V) : Prop := ∃ c l d m, u = .tup [.c c, .c d] ∧ Wd c l ∧ OkW l ∧ val l = A / B ∧ l.length ≤ n + 1 ∧ Wd d m ∧ OkW m ∧ val m = A % B ∧ m.length ≤ n + 1
theorem QWK.fz {A B n : Nat} {c d c' d' : C} {l m : List Nat} {H : Hp} (f1 : Fz (· ≠ .bor) H c c') (f2 : Fz (· ≠ .bor) H d d') (h1 : Wd c' l) (h2 : OkW l) (h3 : val l = A / B) (h4 : l.length ≤ n + 1) (h5 : Wd d' m) (h6 : OkW m) (h7 : val m = A % B) (h8 : m.length ≤ n + 1) : ∃ e, FzV H (.tup [.c c, .c d]) e ∧ QWK A B n e :=
  ⟨_, .tup (.cons (.c f1) (.cons (.c f2) .nil)), c', l, d', m, rfl, h1, h2, h3, h4, h5, h6, h7, h8⟩
attribute [local irreducible] compare' semH semC qLen qNil qIad qSlc qIdx ldBox ldCells stBox appX awpF awpOpsF awpDF xopF xopDF qval lval seqQ blockQ loopQ bodyF retKF cnd arith IntKind.wrap

theorem num_quoWords_less {c d : C} {a b : List Nat} (hc : Wd c a) (hd : Wd d b) (na : Norm a) (nb : Norm b) (hl : a.length < 1073741824) (hv : val a < val b) : semC Try.prog n_num_quoWords [.c c, .c d] (QWK (val a) (val b) a.length) := by
  refine semC_of_awpF ok_num_quoWords rfl (show HFVs [.c c, .c d] from ⟨hc.hf, hd.hf, trivial⟩) ?_
  refine go2 ?_
  refine semH_of_semC (num_cmpWords hc hd na.1 nb.1 (by omega)) (fun u hu => ?_)
  obtain ⟨r, rfl, r1, r2, r3⟩ := hu
  have hr : r < 0 := by
    rcases Nat.lt_trichotomy a.length b.length with h | h | h
    · rw [r1 h]
      decide
    · rw [r3 h]
      exact (by unfold sgn; rw [if_pos (by omega)]; decide)
    · have := norm_lt nb na h
      omega
  refine go2 ?_
  cases hq : compare' Cm.lss r 0
  · simp [compare'] at hq
    omega
  · refine go2 ?_
    refine app_copy (l := a) (by rfl) hc (by omega) (fun h0 => ?_) (fun h0 => ?_)
    · refine go2 ?_
      exact QWK.fz (.hf trivial) (.hf trivial) .nil (fun x hx => by cases hx) (by rw [Nat.div_eq_of_lt hv]; rfl) (by simp) .nil (fun x hx => by cases hx) (by rw [Nat.mod_eq_of_lt hv, h0]) (by simp)
    · refine go2 ?_
      exact QWK.fz (.hf trivial) (fz_words a (by rfl) (by simp) (by simp) rfl (by exact List.take_of_length_le (by simp))) .nil (fun x hx => by cases hx) (by rw [Nat.div_eq_of_lt hv]; rfl) (by simp) (.imm a) na.1 (by rw [Nat.mod_eq_of_lt hv]) (by omega)

theorem num_quoWords_short {c d : C} {a : List Nat} {b : Nat} (hc : Wd c a) (hd : Wd d [b]) (na : Norm a) (nb : Norm [b]) (hl : a.length < 1073741824) (hv : ¬ val a < val [b]) : semC Try.prog n_num_quoWords [.c c, .c d] (QWK (val a) (val [b]) a.length) := by
  refine semC_of_awpF ok_num_quoWords rfl (show HFVs [.c c, .c d] from ⟨hc.hf, hd.hf, trivial⟩) ?_
  have hb0 : b ≠ 0 := by simpa [at0] using nb.2 (by simp)
  have hbB : b < 4294967296 := nb.1 b (by simp)
  have hL : [b].length = 1 := rfl
  have e0 : val [b] = b := by simp [val]
  rw [e0] at hv ⊢
  have la : 1 ≤ a.length := by
    rcases Nat.eq_zero_or_pos a.length with h | h
    · have : a = [] := List.length_eq_zero_iff.1 h
      subst this
      simp [val] at hv
      omega
    · exact h
  refine go2 ?_
  refine semH_of_semC (num_cmpWords hc hd na.1 nb.1 (by omega)) (fun u hu => ?_)
  obtain ⟨r, rfl, r1, r2, r3⟩ := hu
  have hr : 0 ≤ r := by
    rcases Nat.lt_trichotomy a.length [b].length with h | h | h
    · omega
    · rw [r3 h, e0]
      unfold sgn
      split
      · omega
      · split <;> omega
    · rw [r2 h]
      decide
  refine go2 ?_
  cases hq : compare' Cm.lss r 0
  case true =>
    simp [compare'] at hq
    omega
  refine go2 ?_
  refine c_t (by simp [compare']) ?_
  refine go2 ?_
  refine x_mkSl (by rfl) (by rfl) ⟨by omega, by omega, by omega, by omega⟩ ?_
  rw [Int.toNat_natCast, zeros]
  refine go2 ?_
  rw [subI1 a.length (by omega) la]
  refine f_loop (fun n vs H => ∃ (j rest : Nat) (out : List Nat), vs = [.c c, .c d, .c (.sl 0 0 a.length (some a.length) 1), u64 rest, i64 ((j : Int) - 1)] ∧ H = [.live ⟨out.map W, T_uint32, .rw⟩] ∧ n = j ∧ j ≤ a.length ∧ out.length = a.length ∧ OkW out ∧ rest < b ∧ val (a.drop j) = val (out.drop j) * b + rest) (by rfl) ⟨a.length, 0, _, ?_, rfl, rfl, Nat.le_refl _, by simp, fun x hx => by simp at hx; omega, by omega, by simp [val]⟩ ?_
  · rw [show ((a.length - 1 : Nat) : Int) = (a.length : Int) - 1 by omega]
    rfl
  rintro n vs H ⟨j, rest, out, rfl, rfl, rfl, j1, j2, j3, j4, j5⟩
  refine go2 ?_
  cases hq2 : compare' Cm.geq ((n : Int) - 1) 0
  · simp [compare'] at hq2
    have ej : n = 0 := by omega
    subst ej
    rw [List.drop_zero, List.drop_zero] at j5
    refine go2 ?_
    rw [u32N, Nat.mod_eq_of_lt (by omega : rest < 4294967296)]
    have hb1 : 0 < b := by omega
    refine QWK.fz (fz_words out (by rfl) (by simp) (by simp) j2.symm (by rw [← j2]; exact List.take_of_length_le (by simp))) (fz_words [rest] (by rfl) (by simp) (by simp) rfl rfl) (.imm out) j3 ?_ (by omega) (.imm [rest]) (fun x hx => by simp at hx; omega) ?_ (by simp)
    · rw [j5, Nat.mul_comm, Nat.mul_add_div hb1, Nat.div_eq_of_lt j4, Nat.add_zero]
    · rw [j5, Nat.mul_comm, Nat.mul_add_mod, Nat.mod_eq_of_lt j4]
      simp [val]
  · simp [compare'] at hq2
    obtain ⟨i, rfl⟩ : ∃ i, n = i + 1 := ⟨n - 1, by omega⟩
    rw [show ((i + 1 : Nat) : Int) - 1 = (i : Int) by omega]
    have ga := na.1.get i
    obtain ⟨s1, s2, s3⟩ := short_round (j := i) na.1 (by omega) hbB j4 (by omega) (by omega) j5
    refine go2 ?_
    rw [Int.toNat_natCast, wrapN _ (by omega : at0 a i < 18446744073709551616), shl32N _ (by omega), or_words (by omega) ga]
    refine go2 ?_
    rw [show at0 [b] (0 : Int).toNat = b from rfl, wrapN _ (by omega : b < 18446744073709551616)]
    refine q_ar (by rfl) (by rfl) (by simp [needs]; omega) ?_
    rw [quoN _ _ (by omega)]
    refine go2 ?_
    rw [u32N, Nat.mod_eq_of_lt s1]
    refine idx_sl (by rfl) (by rfl) (by omega) (by omega) ?_
    refine go2 ?_
    refine st_word (k := i) (by rfl) (by rfl) (by omega) (by omega) ?_
    refine go2 ?_
    rw [show at0 [b] (0 : Int).toNat = b from rfl, wrapN _ (by omega : b < 18446744073709551616)]
    refine q_ar (by rfl) (by rfl) (by simp [needs]; omega) ?_
    rw [remN]
    refine go2 ?_
    refine l_n (by rfl) (by omega) ⟨i, _, _, ?_, rfl, rfl, by omega, by simp [j2], j3.set s1, s3, s2⟩
    rw [show arith .sub .i64 ((i : Nat) : Int) 1 = (i : Int) - 1 by rw [ar_sub, wrap_i64 (by omega) (by omega)]]
    rfl
end Go.Proofs.Ytjncgcnofiaiaaa

/-
  num.quoWords with a divisor of two words or more.
-/
set_option linter.unusedVariables false
set_option linter.unusedSimpArgs false
namespace Go.Proofs.Ytjncgcnofiaiaaa
open Go.RowKit
set_option maxRecDepth 20000
theorem pow_up (n : Nat) : 4294967296 ^ (n + 1) = 4294967296 ^ n * 4294967296 := Nat.pow_succ ..
theorem shrU' (x s : Nat) (hs : s ≤ 32) : ((x : Nat) : Int).fdiv (2 ^ (min s IntKind.u32.bits)) = ((x / 2 ^ s : Nat) : Int) := by
  have := shrU x s hs
  rwa [Int.toNat_natCast] at this
structure EstF (xs yl : List Nat) (k : Nat) : Prop where
  start : (at0 xs (k + 1) * 4294967296 + at0 xs k) / at0 yl k ≤ 4294967297
  lo : val xs / val yl ≤ (at0 xs (k + 1) * 4294967296 + at0 xs k) / at0 yl k
  big : ∀ q, 4294967296 ≤ q → val xs / val yl ≤ q - 1
  round : ∀ q rest, q * at0 yl k + rest = at0 xs (k + 1) * 4294967296 + at0 xs k → q * at0 yl (k - 1) > rest * 4294967296 + at0 xs (k - 1) → val xs / val yl ≤ q - 1 ∧ 1 ≤ q
  fin : ∀ q rest, q * at0 yl k + rest = at0 xs (k + 1) * 4294967296 + at0 xs k → val xs / val yl ≤ q → q < 4294967296 → q * at0 yl (k - 1) ≤ rest * 4294967296 + at0 xs (k - 1) → Est (val xs) (val yl) q
  over : ∀ q rest, q * at0 yl k + rest = at0 xs (k + 1) * 4294967296 + at0 xs k → val xs / val yl ≤ q → q ≤ rest → Est (val xs) (val yl) q
  lt : val xs / val yl < 4294967296
  pos : 0 < val yl
theorem est_facts {xs yl : List Nat} {k : Nat} (lk : yl.length = k + 1) (lx : xs.length = k + 2) (h1 : 1 ≤ k) (ox : OkW xs) (oy : OkW yl) (htop : 2147483648 ≤ at0 yl k) (hlt : val xs < val yl * 4294967296) : EstF xs yl k := by
  have gn := oy.get (k - 1)
  have g2 := ox.get (k - 1)
  have hP : 0 < 4294967296 ^ (k - 1) := Nat.pow_pos (by decide)
  have hY := val_top2 (l := yl) (m := k - 1) (by omega)
  have hX := val_top3 (l := xs) (m := k - 1) (by omega)
  rw [show k - 1 + 1 = k by omega] at hY hX
  rw [show k - 1 + 2 = k + 1 by omega] at hX
  have hyl := val_lt (oy.take (k - 1))
  have hxl := val_lt (ox.take (k - 1))
  rw [show (yl.take (k - 1)).length = k - 1 by simp; omega] at hyl
  rw [show (xs.take (k - 1)).length = k - 1 by simp; omega] at hxl
  have hY0 : 0 < val yl := by
    rcases Nat.eq_zero_or_pos (val yl) with h | h
    · rw [h] at hlt
      omega
    · exact h
  have hQ : val xs / val yl < 4294967296 := by
    rw [Nat.div_lt_iff_lt_mul hY0, Nat.mul_comm]
    exact hlt
  have hQY : val xs / val yl * val yl ≤ val xs := Nat.div_mul_le_self _ _
  refine ⟨quo_le (head_le hP hX hY hyl hlt) htop gn, (Nat.le_div_iff_mul_le (by omega)).2 (est_start hP hX g2 hxl hY hQY), fun q h => Nat.le_trans (Nat.le_of_lt_succ hQ) (by omega), fun q rest e1 e3 => ?_, fun q rest e1 e2 e3 e4 => ⟨e2, est_end hP hX hY hyl (by omega) e1 (by omega) e4, e3⟩, fun q rest e1 e2 e4 => ?_, hQ, hY0⟩
  · have h1 : val xs / val yl < q := (Nat.div_lt_iff_lt_mul hY0).2 (est_round hP hX hxl hY e1 e3)
    exact ⟨Nat.le_sub_one_of_lt h1, Nat.lt_of_le_of_lt (Nat.zero_le _) h1⟩
  · have h1 := est_over' hP hX hY hyl gn e1 e4
    have h3 : q ≤ val xs / val yl := (Nat.le_div_iff_mul_le hY0).2 h1
    exact ⟨e2, Nat.le_trans h1 (Nat.le_add_right _ _), Nat.lt_of_le_of_lt h3 hQ⟩
theorem round_split {xs out : List Nat} {i k Y T : Nat} (ox : OkW xs) (hl : i + k + 1 ≤ xs.length) (hY : 0 < Y) (hYk : Y < 4294967296 ^ k) (h1 : val xs + 4294967296 ^ (i + 1) * val (out.drop (i + 1)) * Y = T) (h2 : val (xs.drop (i + 1)) < Y) (hi : i < out.length) :
    ∃ pre seg post : List Nat, xs = pre ++ seg ++ post ∧ pre.length = i ∧ seg.length = k + 1 ∧ OkW pre ∧ OkW seg ∧ OkW post ∧ val seg < Y * 4294967296 ∧ ∀ seg' : List Nat, seg'.length = k + 1 → val seg' = val seg % Y → val (pre ++ seg' ++ post) + 4294967296 ^ i * val ((out.set i (val seg / Y)).drop i) * Y = T ∧ val ((pre ++ seg' ++ post).drop i) < Y := by
  obtain ⟨q1, q2⟩ := parts_round (i := i) (k := k) (out := out) ox hl hY hYk h1 h2 hi
  exact ⟨_, _, _, (parts_eq xs i k).symm, by simp; omega, by simp; omega, ox.take _, (ox.drop i).take _, ox.drop _, q1, q2⟩
theorem top_great {b vl : List Nat} {s k : Nat} (nb : OkW b) (hk : b.length = k + 1) (n2 : 2147483648 ≤ at0 b k * 2 ^ s) (ov : OkW vl) (hv : vl.length = k + 1) (e : val vl = val b * 2 ^ s) : 2147483648 * 4294967296 ^ k ≤ val vl ∧ 2147483648 ≤ at0 vl k := by
  have eb := val_take_succ b k
  rw [val_all (by omega)] at eb
  have ev := val_take_succ vl k
  rw [val_all (by omega)] at ev
  have hlo := val_lt (ov.take k)
  rw [show (vl.take k).length = k by simp; omega] at hlo
  have h1 : 4294967296 ^ k * 2147483648 ≤ 4294967296 ^ k * (at0 b k * 2 ^ s) := Nat.mul_le_mul_left _ n2
  have h2 : val b * 2 ^ s = val (b.take k) * 2 ^ s + 4294967296 ^ k * (at0 b k * 2 ^ s) := by rw [eb, Nat.add_mul, Nat.mul_assoc]
  refine ⟨by rw [Nat.mul_comm]; omega, ?_⟩
  rcases Nat.lt_or_ge (at0 vl k) 2147483648 with h | h
  · have := Nat.mul_le_mul_left (4294967296 ^ k) h
    rw [Nat.mul_succ] at this
    omega
  · exact h
theorem okW_app {a b : List Nat} (h1 : OkW a) (h2 : OkW b) : OkW (a ++ b) := fun x hx => (List.mem_append.1 hx).elim (h1 x) (h2 x)
attribute [local irreducible] compare' semH semC qLen qNil qIad qSlc qIdx ldBox ldCells stBox appX awpF awpOpsF awpDF xopF xopDF qval lval seqQ blockQ loopQ bodyF retKF cnd arith IntKind.wrap

set_option maxHeartbeats 8000000 in
theorem num_quoWords_long {c d : C} {a b : List Nat} (hc : Wd c a) (hd : Wd d b) (na : Norm a) (nb : Norm b) (h2 : 2 ≤ b.length) (hl : a.length < 1073741824) (hv : ¬ val a < val b) : semC Try.prog n_num_quoWords [.c c, .c d] (QWK (val a) (val b) a.length) := by
  refine semC_of_awpF ok_num_quoWords rfl (show HFVs [.c c, .c d] from ⟨hc.hf, hd.hf, trivial⟩) ?_
  have hb0 : b ≠ [] := fun e => by rw [e] at h2; simp at h2
  have hab : b.length ≤ a.length := by
    rcases Nat.lt_or_ge a.length b.length with h | h
    · exact absurd (norm_lt na nb h) hv
    · exact h
  have hvb := val_pos nb hb0
  refine go2 ?_
  refine semH_of_semC (num_cmpWords hc hd na.1 nb.1 (by omega)) (fun u hu => ?_)
  obtain ⟨r, rfl, r1, r2, r3⟩ := hu
  have hr : 0 ≤ r := by
    rcases Nat.lt_trichotomy a.length b.length with h | h | h
    · omega
    · rw [r3 h]
      unfold sgn
      split
      · omega
      · split <;> omega
    · rw [r2 h]
      decide
  clear r1 r2 r3
  refine go2 ?_
  cases hq : compare' Cm.lss r 0
  case true =>
    simp [compare'] at hq
    omega
  clear hq hr
  refine go2 ?_
  cases hq1 : compare' Cm.eql (b.length : Int) 1
  case true =>
    simp [compare'] at hq1
    omega
  clear hq1
  refine go2 ?_
  rw [subI1 b.length (by omega) (by omega)]
  refine go2 ?_
  rw [Int.toNat_natCast]
  have gtop := nb.2 hb0
  have gb := nb.1.get (b.length - 1)
  refine semH_of_semC (bits_LeadingZeros32 gb (by omega)) (fun u hu => ?_)
  obtain ⟨s, rfl, n1, n2, n3⟩ := hu
  refine go2 ?_
  rw [nn n1, addI1 a.length (by omega)]
  refine x_mkSl (by rfl) (by rfl) ⟨by omega, by omega, by omega, by omega⟩ ?_
  rw [Int.toNat_natCast, zeros]
  refine go2 ?_
  refine x_mkSl (by rfl) (by rfl) ⟨by omega, by omega, by omega, by omega⟩ ?_
  rw [Int.toNat_natCast, zeros]
  refine go2 ?_
  refine f_loop (fun z vs H => ∃ (i : Nat) (vl : List Nat), vs = [.c c, .c d, u64 s, .c (.sl 0 0 (a.length + 1) (some (a.length + 1)) 1), .c (.sl 1 0 b.length (some b.length) 1), i64 b.length, i64 i] ∧ H = [.live ⟨(List.replicate (a.length + 1) 0).map W, T_uint32, .rw⟩, .live ⟨vl.map W, T_uint32, .rw⟩] ∧ z = b.length - i ∧ i ≤ b.length ∧ vl.length = b.length ∧ OkW vl ∧ val (vl.take i) + 4294967296 ^ i * ovr b s i = val (b.take i) * 2 ^ s) (by rfl) ⟨0, _, rfl, rfl, rfl, by omega, by simp, fun x hx => by simp at hx; omega, by simp [val, ovr]⟩ ?_
  rintro z vs H ⟨i, vl, rfl, rfl, rfl, v1, v2, v3, v4⟩
  refine go2 ?_
  cases hq2 : compare' Cm.lss (i : Int) (b.length : Int)
  case true =>
    simp [compare'] at hq2
    have gi := nb.1.get i
    refine go2 ?_
    rw [Int.toNat_natCast, shlU _ _ (by omega)]
    refine idx_sl (by rfl) (by rfl) (by omega) (by omega) ?_
    refine go2 ?_
    refine st_word (k := i) (by rfl) (by rfl) (by omega) (by omega) ?_
    refine go2 ?_
    cases hi0 : compare' Cm.gtr (i : Int) 0
    case false =>
      simp [compare'] at hi0
      subst hi0
      refine go2 ?_
      rw [addI1 0 (by omega)]
      refine l_n (by rfl) (by omega) ⟨0 + 1, _, rfl, rfl, rfl, by omega, by simp [v2], v3.set (Nat.mod_lt _ (by decide)), ?_⟩
      rw [val_take_set (by omega), val_take_succ b, pow_up 0]
      exact up_row v4 rfl
    case true =>
      simp [compare'] at hi0
      obtain ⟨j, rfl⟩ : ∃ j, i = j + 1 := ⟨i - 1, by omega⟩
      have gj := nb.1.get j
      obtain ⟨w1, w2⟩ := up_word (y := at0 b j) n1 gi gj
      refine go2 ?_
      cases hs0 : compare' Cm.gtr (s : Int) 0
      case false =>
        simp [compare'] at hs0
        subst hs0
        have hz : ovr b 0 (j + 1) = 0 := by
          show at0 b j * 2 ^ 0 / 4294967296 = 0
          rw [Nat.pow_zero, Nat.mul_one]
          exact Nat.div_eq_of_lt gj
        refine go2 ?_
        rw [addI1 (j + 1) (by omega)]
        refine l_n (by rfl) (by omega) ⟨j + 1 + 1, _, rfl, rfl, rfl, by omega, by simp [v2], v3.set (Nat.mod_lt _ (by decide)), ?_⟩
        rw [val_take_set (by omega), val_take_succ b, pow_up (j + 1)]
        exact up_row v4 (by rw [hz]; rfl)
      case true =>
        simp only [compare', dec_true] at hs0
        refine go2 ?_
        refine idx_sl (by rfl) (by rfl) (by omega) (by omega) ?_
        refine go2 ?_
        refine ld_word (k := j + 1) (by rfl) (by omega) (by simp; omega) ?_
        refine go2 ?_
        rw [subI1 (j + 1) (by omega) (by omega), show j + 1 - 1 = j by omega]
        refine idx_wd (by rfl) (by rfl) hd (by omega) (by omega) ?_
        refine go2 ?_
        rw [show arith .sub .u64 32 (s : Int) = ((32 - s : Nat) : Int) from subN 32 s (by omega) (by omega)]
        refine go2 ?_
        simp only [Int.toNat_natCast]
        rw [shrU' _ _ (by omega), ovr_shr n1, show at0 (vl.set (j + 1) (at0 b (j + 1) * 2 ^ s % 4294967296)) (j + 1) = at0 b (j + 1) * 2 ^ s % 4294967296 by simp [at0, show j + 1 < vl.length by omega], w1]
        refine idx_sl (by rfl) (by rfl) (by omega) (by omega) ?_
        refine go2 ?_
        refine st_word (k := j + 1) (by rfl) (by rfl) (by omega) (by simp; omega) ?_
        refine go2 ?_
        rw [addI1 (j + 1) (by omega)]
        refine l_n (by rfl) (by omega) ⟨j + 1 + 1, _, rfl, rfl, rfl, by omega, by simp [v2], by rw [List.set_set]; exact v3.set w2, ?_⟩
        rw [List.set_set, val_take_set (by omega), val_take_succ b, pow_up (j + 1)]
        exact up_row v4 rfl
  simp [compare'] at hq2
  have ei : i = b.length := by omega
  subst ei
  have hz : ovr b s b.length = 0 := by
    obtain ⟨j, hj⟩ : ∃ j, b.length = j + 1 := ⟨b.length - 1, by omega⟩
    rw [hj]
    show at0 b j * 2 ^ s / 4294967296 = 0
    rw [show j = b.length - 1 by omega]
    exact Nat.div_eq_of_lt n3
  rw [hz, Nat.mul_zero, Nat.add_zero, val_all (l := vl) (by omega), val_all (Nat.le_refl _)] at v4
  clear hz v1 hq2
  refine go2 ?_
  refine f_loop (fun z vs H => ∃ (i : Nat) (ul : List Nat), vs = [.c c, u64 s, .c (.sl 0 0 (a.length + 1) (some (a.length + 1)) 1), .c (.sl 1 0 b.length (some b.length) 1), i64 ((a.length + 1 : Nat) : Int), i64 i] ∧ H = [.live ⟨ul.map W, T_uint32, .rw⟩, .live ⟨vl.map W, T_uint32, .rw⟩] ∧ z = a.length + 1 - i ∧ i ≤ a.length + 1 ∧ ul.length = a.length + 1 ∧ OkW ul ∧ val (ul.take i) + 4294967296 ^ i * ovr a s i = val (a.take i) * 2 ^ s ∧ ∀ k, i ≤ k → at0 ul k = 0) (by rfl) ⟨0, _, rfl, rfl, rfl, by omega, by simp, fun x hx => by simp at hx; omega, by simp [val, ovr], fun k _ => at0_zeros _ k⟩ ?_
  rintro z vs H ⟨i, ul, rfl, rfl, rfl, u1, u2, u3, u4, u5⟩
  refine go2 ?_
  cases hq2 : compare' Cm.lss (i : Int) ((a.length + 1 : Nat) : Int)
  case true =>
    simp only [compare', dec_true] at hq2
    have gi := na.1.get i
    refine go2 ?_
    cases hq3 : compare' Cm.lss (i : Int) (a.length : Int)
    case true =>
      simp only [compare', dec_true] at hq3
      refine go2 ?_
      rw [Int.toNat_natCast, shlU _ _ (by omega)]
      refine idx_sl (by rfl) (by rfl) (by omega) (by omega) ?_
      refine go2 ?_
      refine st_word (k := i) (by rfl) (by rfl) (by omega) (by omega) ?_
      refine go2 ?_
      cases hi0 : compare' Cm.gtr (i : Int) 0
      case false =>
        simp [compare'] at hi0
        subst hi0
        refine go2 ?_
        rw [addI1 0 (by omega)]
        refine l_n (by rfl) (by omega) ⟨0 + 1, _, rfl, rfl, rfl, by omega, by simp [u2], u3.set (Nat.mod_lt _ (by decide)), ?_, fun k hk => ?_⟩
        · rw [val_take_set (by omega), val_take_succ a, pow_up 0]
          exact up_row u4 rfl
        · rw [at0_set (by omega)]; exact u5 k (by omega)
      case true =>
        simp [compare'] at hi0
        obtain ⟨j, rfl⟩ : ∃ j, i = j + 1 := ⟨i - 1, by omega⟩
        have gj := na.1.get j
        obtain ⟨w1, w2⟩ := up_word (y := at0 a j) n1 gi gj
        refine go2 ?_
        cases hs0 : compare' Cm.gtr (s : Int) 0
        case false =>
          simp [compare'] at hs0
          subst hs0
          have hz : ovr a 0 (j + 1) = 0 := by
            show at0 a j * 2 ^ 0 / 4294967296 = 0
            rw [Nat.pow_zero, Nat.mul_one]
            exact Nat.div_eq_of_lt gj
          refine go2 ?_
          rw [addI1 (j + 1) (by omega)]
          refine l_n (by rfl) (by omega) ⟨j + 1 + 1, _, rfl, rfl, rfl, by omega, by simp [u2], u3.set (Nat.mod_lt _ (by decide)), ?_, fun k hk => ?_⟩
          · rw [val_take_set (by omega), val_take_succ a, pow_up (j + 1)]
            exact up_row u4 (by rw [hz]; rfl)
          · rw [at0_set (by omega)]; exact u5 k (by omega)
        case true =>
          simp only [compare', dec_true] at hs0
          refine go2 ?_
          refine idx_sl (by rfl) (by rfl) (by omega) (by omega) ?_
          refine go2 ?_
          refine ld_word (k := j + 1) (by rfl) (by omega) (by simp; omega) ?_
          refine go2 ?_
          rw [subI1 (j + 1) (by omega) (by omega), show j + 1 - 1 = j by omega]
          refine idx_wd (by rfl) (by rfl) hc (by omega) (by omega) ?_
          refine go2 ?_
          rw [show arith .sub .u64 32 (s : Int) = ((32 - s : Nat) : Int) from subN 32 s (by omega) (by omega)]
          refine go2 ?_
          simp only [Int.toNat_natCast]
          rw [shrU' _ _ (by omega), ovr_shr n1, show at0 (ul.set (j + 1) (at0 a (j + 1) * 2 ^ s % 4294967296)) (j + 1) = at0 a (j + 1) * 2 ^ s % 4294967296 by simp [at0, show j + 1 < ul.length by omega], w1]
          refine idx_sl (by rfl) (by rfl) (by omega) (by omega) ?_
          refine go2 ?_
          refine st_word (k := j + 1) (by rfl) (by rfl) (by omega) (by simp; omega) ?_
          refine go2 ?_
          rw [addI1 (j + 1) (by omega)]
          refine l_n (by rfl) (by omega) ⟨j + 1 + 1, _, rfl, rfl, rfl, by omega, by simp [u2], by rw [List.set_set]; exact u3.set w2, ?_, fun k hk => ?_⟩
          · rw [List.set_set, val_take_set (by omega), val_take_succ a, pow_up (j + 1)]
            exact up_row u4 rfl
          · rw [List.set_set]; rw [at0_set (by omega)]
            exact u5 k (by omega)
    case false =>
      simp only [compare', dec_false] at hq3
      have ei : i = a.length := by omega
      have gz : at0 a i = 0 := at0_ge (by omega)
      refine go2 ?_
      cases hi0 : compare' Cm.gtr (i : Int) 0
      case false =>
        simp [compare'] at hi0
        subst hi0
        refine go2 ?_
        rw [addI1 0 (by omega)]
        refine l_n (by rfl) (by omega) ⟨0 + 1, _, rfl, rfl, rfl, by omega, u2, u3, ?_, fun k hk => ?_⟩
        · rw [val_take_succ ul, u5 _ (Nat.le_refl _), val_take_succ a, pow_up 0]
          exact up_row u4 (by rw [gz]; simp [ovr])
        · exact u5 k (by omega)
      case true =>
        simp [compare'] at hi0
        obtain ⟨j, rfl⟩ : ∃ j, i = j + 1 := ⟨i - 1, by omega⟩
        have gj := na.1.get j
        obtain ⟨w1, w2⟩ := up_word (y := at0 a j) n1 gi gj
        refine go2 ?_
        cases hs0 : compare' Cm.gtr (s : Int) 0
        case false =>
          simp [compare'] at hs0
          subst hs0
          have hz : ovr a 0 (j + 1) = 0 := by
            show at0 a j * 2 ^ 0 / 4294967296 = 0
            rw [Nat.pow_zero, Nat.mul_one]
            exact Nat.div_eq_of_lt gj
          refine go2 ?_
          rw [addI1 (j + 1) (by omega)]
          refine l_n (by rfl) (by omega) ⟨j + 1 + 1, _, rfl, rfl, rfl, by omega, u2, u3, ?_, fun k hk => ?_⟩
          · rw [val_take_succ ul, u5 _ (Nat.le_refl _), val_take_succ a, pow_up (j + 1)]
            exact up_row u4 (by simp [gz, hz])
          · exact u5 k (by omega)
        case true =>
          simp only [compare', dec_true] at hs0
          refine go2 ?_
          refine idx_sl (by rfl) (by rfl) (by omega) (by omega) ?_
          refine go2 ?_
          refine ld_word (k := j + 1) (by rfl) (by omega) (by omega) ?_
          refine go2 ?_
          rw [subI1 (j + 1) (by omega) (by omega), show j + 1 - 1 = j by omega]
          refine idx_wd (by rfl) (by rfl) hc (by omega) (by omega) ?_
          refine go2 ?_
          rw [show arith .sub .u64 32 (s : Int) = ((32 - s : Nat) : Int) from subN 32 s (by omega) (by omega)]
          refine go2 ?_
          simp only [Int.toNat_natCast]
          rw [shrU' _ _ (by omega), ovr_shr n1, show at0 ul (j + 1) = at0 a (j + 1) * 2 ^ s % 4294967296 by have h := u5 _ (Nat.le_refl (j + 1)); simp [h, gz], w1]
          refine idx_sl (by rfl) (by rfl) (by omega) (by omega) ?_
          refine go2 ?_
          refine st_word (k := j + 1) (by rfl) (by rfl) (by omega) (by omega) ?_
          refine go2 ?_
          rw [addI1 (j + 1) (by omega)]
          refine l_n (by rfl) (by omega) ⟨j + 1 + 1, _, rfl, rfl, rfl, by omega, by simp [u2], by exact u3.set w2, ?_, fun k hk => ?_⟩
          · rw [val_take_set (by omega), val_take_succ a, pow_up (j + 1)]
            exact up_row u4 rfl
          · rw [at0_set (by omega)]
            exact u5 k (by omega)
  simp only [compare', dec_false] at hq2
  have ei : i = a.length + 1 := by omega
  subst ei
  have hz : ovr a s (a.length + 1) = 0 := by
    show at0 a a.length * 2 ^ s / 4294967296 = 0
    rw [at0_ge (Nat.le_refl _)]
    simp
  rw [hz, Nat.mul_zero, Nat.add_zero, val_all (l := ul) (by omega), val_all (l := a) (by omega)] at u4
  clear hz u1 hq2 u5
  refine go2 ?_
  obtain ⟨k, hk⟩ : ∃ k, b.length = k + 1 := ⟨b.length - 1, by omega⟩
  obtain ⟨m, hm⟩ : ∃ m, a.length = m + (k + 1) := ⟨a.length - b.length, by omega⟩
  obtain ⟨t1, t2⟩ := top_great (k := k) (s := s) nb.1 hk (by rwa [show b.length - 1 = k by omega] at n2) v3 (by omega) v4
  have hst : val (ul.drop (m + 1)) < val vl := parts_start (k := k + 1) na.1 n1 (by omega) (by omega) u2 u4 (by simpa using t1)
  have hYk := val_lt v3
  have hY0 : 0 < val vl := Nat.lt_of_le_of_lt (Nat.zero_le _) hst
  rw [v2, hk] at hYk
  rw [hk] at v2
  rw [subI a.length b.length (by omega) hab, addI1 (a.length - b.length) (by omega), show a.length - b.length = m by omega, hk]
  refine x_mkSl (by rfl) (by rfl) ⟨by omega, by omega, by omega, by omega⟩ ?_
  rw [Int.toNat_natCast, zeros]
  refine go2 ?_
  rw [subI a.length (k + 1) (by omega) (by omega), show a.length - (k + 1) = m by omega]
  refine f_loop (fun z vs H => ∃ (j : Nat) (xc out : List Nat), vs = [u64 s, .c (.sl 0 0 (a.length + 1) (some (a.length + 1)) 1), .c (.sl 1 0 (k + 1) (some (k + 1)) 1), i64 ((k + 1 : Nat) : Int), .c (.sl 2 0 (m + 1) (some (m + 1)) 1), i64 ((j : Int) - 1)] ∧ H = [.live ⟨xc.map W, T_uint32, .rw⟩, .live ⟨vl.map W, T_uint32, .rw⟩, .live ⟨out.map W, T_uint32, .rw⟩] ∧ z = j ∧ j ≤ m + 1 ∧ xc.length = a.length + 1 ∧ OkW xc ∧ out.length = m + 1 ∧ OkW out ∧ val xc + 4294967296 ^ j * val (out.drop j) * val vl = val a * 2 ^ s ∧ val (xc.drop j) < val vl) (by rfl) ⟨m + 1, ul, _, ?_, rfl, rfl, Nat.le_refl _, u2, u3, by simp, fun x hx => by simp at hx; omega, ?_, hst⟩ ?_
  · rw [show ((m : Nat) : Int) = ((m + 1 : Nat) : Int) - 1 by omega]
    rfl
  · rw [List.drop_of_length_le (by simp), u4]
    simp [val]
  clear hst u4 u3 u2 ul
  rintro z vs H ⟨j, xc, out, rfl, rfl, rfl, j1, j2, j3, j4, j5, j6, j7⟩
  refine go2 ?_
  cases hq2 : compare' Cm.geq ((z : Int) - 1) 0
  case true =>
    simp [compare'] at hq2
    obtain ⟨i, rfl⟩ : ∃ i, z = i + 1 := ⟨z - 1, by omega⟩
    rw [show ((i + 1 : Nat) : Int) - 1 = (i : Int) by omega]
    obtain ⟨pre, seg, post, rfl, lpre, lseg, opre, oseg, opost, q1, q2⟩ := round_split (i := i) (k := k + 1) (out := out) j3 (by omega) hY0 hYk j6 j7 (by omega)
    have EF := est_facts (k := k) v2 lseg (by omega) oseg v3 t2 q1
    have hpl : pre.length + seg.length + post.length = a.length + 1 := by simpa [Nat.add_assoc] using j2
    have g0 := oseg.get (k + 1)
    have g1 := oseg.get k
    have g2 := oseg.get (k - 1)
    have gt := v3.get k
    have gn := v3.get (k - 1)
    have hXR : val seg < 4294967296 ^ (k + 2) := by
      have := val_lt oseg
      rwa [lseg] at this
    refine go2 ?_
    rw [addI i (k + 1) (by omega)]
    refine idx_sl (by rfl) (by rfl) (by omega) (by omega) ?_
    refine go2 ?_
    refine ld_mid (i := k + 1) (by rfl) (by omega) (by omega) ?_
    refine go2 ?_
    rw [addI i (k + 1) (by omega), subI1 (i + (k + 1)) (by omega) (by omega)]
    refine idx_sl (by rfl) (by rfl) (by omega) (by omega) ?_
    refine go2 ?_
    refine ld_mid (i := k) (by rfl) (by omega) (by omega) ?_
    refine go2 ?_
    rw [wrapN _ (by omega : at0 seg (k + 1) < 18446744073709551616), wrapN _ (by omega : at0 seg k < 18446744073709551616), shl32N _ g0, or_words g0 g1]
    refine go2 ?_
    rw [subI1 (k + 1) (by omega) (by omega), show k + 1 - 1 = k by omega]
    refine idx_sl (by rfl) (by rfl) (by omega) (by omega) ?_
    refine go2 ?_
    refine ld_word (k := k) (by rfl) (by omega) (by omega) ?_
    refine go2 ?_
    rw [wrapN _ (by omega : at0 vl k < 18446744073709551616)]
    refine q_ar (by rfl) (by rfl) (by simp [needs]; omega) ?_
    rw [quoN _ _ (by omega)]
    refine go2 ?_
    rw [subI1 (k + 1) (by omega) (by omega), show k + 1 - 1 = k by omega]
    refine idx_sl (by rfl) (by rfl) (by omega) (by omega) ?_
    refine go2 ?_
    refine ld_word (k := k) (by rfl) (by omega) (by omega) ?_
    refine go2 ?_
    rw [wrapN _ (by omega : at0 vl k < 18446744073709551616)]
    refine q_ar (by rfl) (by rfl) (by simp [needs]; omega) ?_
    rw [remN]
    refine go2 ?_
    have hmod := Nat.mod_lt (at0 seg (k + 1) * 4294967296 + at0 seg k) (by omega : 0 < at0 vl k)
    refine f_loop (fun z vs H => ∃ q r : Nat, vs = [u64 s, .c (.sl 0 0 (a.length + 1) (some (a.length + 1)) 1), .c (.sl 1 0 (k + 1) (some (k + 1)) 1), i64 ((k + 1 : Nat) : Int), .c (.sl 2 0 (m + 1) (some (m + 1)) 1), i64 i, u64 q, u64 r] ∧ H = [.live ⟨(pre ++ seg ++ post).map W, T_uint32, .rw⟩, .live ⟨vl.map W, T_uint32, .rw⟩, .live ⟨out.map W, T_uint32, .rw⟩] ∧ z = q ∧ q * at0 vl k + r = at0 seg (k + 1) * 4294967296 + at0 seg k ∧ val seg / val vl ≤ q ∧ q ≤ 4294967297 ∧ r < 4294967296) (by rfl) ⟨_, _, rfl, rfl, rfl, by rw [Nat.mul_comm]; exact Nat.div_add_mod _ _, EF.lo, EF.start, by omega⟩ ?_
    clear hmod
    rintro z vs H ⟨q, r, rfl, rfl, rfl, p1, p2, p3, p4⟩
    refine go2 ?_
    cases hg : compare' Cm.geq (z : Int) 4294967296
    case true =>
      simp only [compare', dec_true] at hg
      have h1 : val seg / val vl ≤ z - 1 := EF.big z (by omega)
      have h2 : 1 ≤ z := by omega
      refine go2 ?_
      have h3 : (z - 1) * at0 vl k + (r + at0 vl k) = at0 seg (k + 1) * 4294967296 + at0 seg k := by
        have e1 := Nat.sub_mul z 1 (at0 vl k)
        have e2 := Nat.mul_le_mul_right (at0 vl k) h2
        omega
      rw [subN1 z (by omega) h2, subI1 (k + 1) (by omega) (by omega), show k + 1 - 1 = k by omega]
      refine idx_sl (by rfl) (by rfl) (by omega) (by omega) ?_
      refine go2 ?_
      refine ld_word (k := k) (by rfl) (by omega) (by omega) ?_
      refine go2 ?_
      rw [wrapN _ (by omega : at0 vl k < 18446744073709551616), addN _ _ (by omega)]
      cases hr2 : compare' Cm.geq ((r + at0 vl k : Nat) : Int) 4294967296
      case false =>
        simp only [compare', dec_false] at hr2
        refine go2 ?_
        exact l_n (by rfl) (by omega) ⟨z - 1, r + at0 vl k, rfl, rfl, rfl, h3, h1, by omega, by omega⟩
      case true =>
        simp only [compare', dec_true] at hr2
        have E := EF.over (z - 1) (r + at0 vl k) h3 h1 (by omega)
        refine go2 ?_
        refine f_loop (fun y vs H => ∃ (w bo carry : Nat) (cur : List Nat), vs = [u64 s, .c (.sl 0 0 (a.length + 1) (some (a.length + 1)) 1), .c (.sl 1 0 (k + 1) (some (k + 1)) 1), i64 ((k + 1 : Nat) : Int), .c (.sl 2 0 (m + 1) (some (m + 1)) 1), i64 i, u64 (z - 1), i64 bo, u64 carry, i64 ((k + 1 : Nat) : Int), i64 w] ∧ H = [.live ⟨(pre ++ cur ++ post).map W, T_uint32, .rw⟩, .live ⟨vl.map W, T_uint32, .rw⟩, .live ⟨out.map W, T_uint32, .rw⟩] ∧ y = k + 1 - w ∧ w ≤ k + 1 ∧ cur.length = k + 2 ∧ OkW cur ∧ bo ≤ 1 ∧ carry < 4294967296 ∧ val (cur.take w) + (z - 1) * val (vl.take w) = val (seg.take w) + 4294967296 ^ w * (carry + bo) ∧ ∀ j, w ≤ j → at0 cur j = at0 seg j) (by rfl) ⟨0, 0, 0, seg, rfl, rfl, rfl, by omega, lseg, oseg, by omega, by omega, by simp [val], fun _ _ => rfl⟩ ?_
        rintro y vs H ⟨w, bo, carry, cur, rfl, rfl, rfl, c1, c2, c3, c4, c5, c6, c7⟩
        have gc := c3.get w
        have gv := v3.get w
        refine go2 ?_
        cases hw : compare' Cm.lss (w : Int) ((k + 1 : Nat) : Int)
        case true =>
          simp only [compare', dec_true] at hw
          have hmm : (z - 1) * at0 vl w + carry < 18446744073709551616 := by
            have := Nat.mul_le_mul (Nat.le_of_lt_succ E.lt) (Nat.le_of_lt_succ gv)
            omega
          refine go2 ?_
          refine idx_sl (by rfl) (by rfl) (by omega) (by omega) ?_
          refine go2 ?_
          refine ld_word (k := w) (by rfl) (by omega) (by omega) ?_
          refine go2 ?_
          rw [wrapN _ (by omega : at0 vl w < 18446744073709551616), mulN _ _ (by omega), addN _ _ hmm]
          refine go2 ?_
          rw [shrN, addI w i (by omega)]
          refine idx_sl (by rfl) (by rfl) (by omega) (by omega) ?_
          refine go2 ?_
          refine ld_mid (i := w) (by rfl) (by omega) (by omega) ?_
          refine go2 ?_
          obtain ⟨d, w', b', e1, e2, e3, x1, x2, x3⟩ := sub_i64 (x := at0 cur w) (s := ((z - 1) * at0 vl w + carry) % 4294967296) (bo := bo) gc (Nat.mod_lt _ (by decide)) c4
          rw [i64N _ (by omega : at0 cur w < 9223372036854775808), u32N, i64N _ (by omega : ((z - 1) * at0 vl w + carry) % 4294967296 < 9223372036854775808), e1]
          refine go2 ?_
          rw [e2, addI w i (by omega)]
          refine idx_sl (by rfl) (by rfl) (by omega) (by omega) ?_
          refine go2 ?_
          refine st_mid (i := w) (by rfl) (by rfl) (by omega) (by omega) ?_
          refine go2 ?_
          have hrow := sub_row (t := (z - 1) * at0 vl w + carry) (y := at0 vl w) c6 (Nat.add_comm _ _) x3
          cases hd : compare' Cm.lss d 0
          case true =>
            simp only [compare', dec_true] at hd
            have hb1 := e3.1 hd
            subst hb1
            refine go2 ?_
            rw [addI1 w (by omega)]
            refine l_n (by rfl) (by omega) ⟨w + 1, 1, ((z - 1) * at0 vl w + carry) / 4294967296, cur.set w w', rfl, rfl, rfl, by omega, by simp [c2], c3.set x1, by omega, by omega, ?_, fun j hj => ?_⟩
            · rw [val_take_set (by omega), val_take_succ vl, val_take_succ seg, pow_up w, ← c7 w (Nat.le_refl w)]
              exact hrow
            · rw [at0_set (by omega)]
              exact c7 j (by omega)
          case false =>
            simp only [compare', dec_false] at hd
            have hb1 : b' = 0 := by
              rcases Nat.lt_or_ge b' 1 with h | h
              · omega
              · exact absurd (e3.2 (by omega)) hd
            subst hb1
            refine go2 ?_
            rw [addI1 w (by omega)]
            refine l_n (by rfl) (by omega) ⟨w + 1, 0, ((z - 1) * at0 vl w + carry) / 4294967296, cur.set w w', rfl, rfl, rfl, by omega, by simp [c2], c3.set x1, by omega, by omega, ?_, fun j hj => ?_⟩
            · rw [val_take_set (by omega), val_take_succ vl, val_take_succ seg, pow_up w, ← c7 w (Nat.le_refl w)]
              exact hrow
            · rw [at0_set (by omega)]
              exact c7 j (by omega)
        simp only [compare', dec_false] at hw
        have ew : w = k + 1 := by omega
        subst ew
        refine go2 ?_
        rw [addI i (k + 1) (by omega)]
        refine idx_sl (by rfl) (by rfl) (by omega) (by omega) ?_
        refine go2 ?_
        refine ld_mid (i := k + 1) (by rfl) (by omega) (by omega) ?_
        refine go2 ?_
        obtain ⟨d, w', b', e1, e2, e3, x1, x2, x3⟩ := sub_i64 (x := at0 cur (k + 1)) (s := carry) (bo := bo) gc c5 c4
        rw [i64N _ (by omega : at0 cur (k + 1) < 9223372036854775808), i64N _ (by omega : carry < 9223372036854775808), e1]
        refine go2 ?_
        rw [e2, addI i (k + 1) (by omega)]
        refine idx_sl (by rfl) (by rfl) (by omega) (by omega) ?_
        refine go2 ?_
        refine st_mid (i := k + 1) (by rfl) (by rfl) (by omega) (by omega) ?_
        refine go2 ?_
        have hrow := sub_row (t := carry) (y := 0) c6 (by rw [Nat.mul_zero, Nat.add_zero]) (by rw [Nat.mod_eq_of_lt c5]; exact x3)
        rw [c7 (k + 1) (Nat.le_refl _), Nat.mul_zero, Nat.add_zero, Nat.div_eq_of_lt c5, ← val_take_set (by omega), ← val_take_succ seg, ← pow_up (k + 1), val_all (l := cur.set (k + 1) w') (by simp; omega), val_all (l := seg) (by omega), val_all (l := vl) (by omega)] at hrow
        have ocs : OkW (cur.set (k + 1) w') := c3.set x1
        have lcs : (cur.set (k + 1) w').length = k + 2 := by simp [c2]
        generalize cur.set (k + 1) w' = cs at hrow ocs lcs
        have hC := val_lt ocs
        rw [lcs] at hC
        obtain ⟨z1, z2⟩ := word_end (q := (z - 1)) (c := val cs) hY0 E.lo E.hi hC hXR
        clear c1 c2 c3 c4 c5 c6 c7 gc gv e1 e2 x3
        cases hd : compare' Cm.lss d 0
        case false =>
          simp only [compare', dec_false] at hd
          have hb1 : b' = 0 := by
            rcases Nat.lt_or_ge b' 1 with h | h
            · omega
            · exact absurd (e3.2 (by omega)) hd
          subst hb1
          obtain ⟨y1, y2⟩ := z1 hrow
          obtain ⟨y3, y4⟩ := q2 cs (by omega) y2
          refine go2 ?_
          rw [u32N, y1, Nat.mod_eq_of_lt EF.lt]
          refine idx_sl (by rfl) (by rfl) (by omega) (by omega) ?_
          refine go2 ?_
          refine st_word (k := i) (by rfl) (by rfl) (by omega) (by omega) ?_
          refine go2 ?_
          refine l_n (by rfl) (by omega) ⟨i, pre ++ cs ++ post, out.set i (val seg / val vl), ?_, rfl, rfl, by omega, by simp; omega, okW_app (okW_app opre ocs) opost, by simp [j4], j5.set EF.lt, y3, y4⟩
          rw [show arith .sub .i64 ((i : Nat) : Int) 1 = (i : Int) - 1 by rw [ar_sub, wrap_i64 (by omega) (by omega)]]
          rfl
        case true =>
          simp only [compare', dec_true] at hd
          have hb1 := e3.1 hd
          subst hb1
          obtain ⟨y1, y2, y3⟩ := z2 hrow
          refine go2 ?_
          rw [subN1 (z - 1) (by omega) y2]
          refine f_loop (fun y vs H => ∃ (w carry : Nat) (c2 : List Nat), vs = [u64 s, .c (.sl 0 0 (a.length + 1) (some (a.length + 1)) 1), .c (.sl 1 0 (k + 1) (some (k + 1)) 1), i64 ((k + 1 : Nat) : Int), .c (.sl 2 0 (m + 1) (some (m + 1)) 1), i64 i, u64 ((z - 1) - 1), u64 carry, i64 ((k + 1 : Nat) : Int), i64 w] ∧ H = [.live ⟨(pre ++ c2 ++ post).map W, T_uint32, .rw⟩, .live ⟨vl.map W, T_uint32, .rw⟩, .live ⟨out.map W, T_uint32, .rw⟩] ∧ y = k + 1 - w ∧ w ≤ k + 1 ∧ c2.length = k + 2 ∧ OkW c2 ∧ carry ≤ 1 ∧ val (c2.take w) + 4294967296 ^ w * carry = val (cs.take w) + val (vl.take w) ∧ ∀ j, w ≤ j → at0 c2 j = at0 cs j) (by rfl) ⟨0, 0, cs, rfl, rfl, rfl, by omega, lcs, ocs, by omega, by simp [val], fun _ _ => rfl⟩ ?_
          rintro y vs H ⟨w, carry, c2, rfl, rfl, rfl, f1, f2, f3, f4, f5, f6⟩
          have gc := f3.get w
          have gv := v3.get w
          refine go2 ?_
          cases hw : compare' Cm.lss (w : Int) ((k + 1 : Nat) : Int)
          case true =>
            simp only [compare', dec_true] at hw
            refine go2 ?_
            rw [addI w i (by omega)]
            refine idx_sl (by rfl) (by rfl) (by omega) (by omega) ?_
            refine go2 ?_
            refine ld_mid (i := w) (by rfl) (by omega) (by omega) ?_
            refine go2 ?_
            refine idx_sl (by rfl) (by rfl) (by omega) (by omega) ?_
            refine go2 ?_
            refine ld_word (k := w) (by rfl) (by omega) (by omega) ?_
            refine go2 ?_
            rw [wrapN _ (by omega : at0 c2 w < 18446744073709551616), wrapN _ (by omega : at0 vl w < 18446744073709551616), addN _ _ (by omega), addN _ _ (by omega)]
            refine go2 ?_
            rw [u32N, addI w i (by omega)]
            refine idx_sl (by rfl) (by rfl) (by omega) (by omega) ?_
            refine go2 ?_
            refine st_mid (i := w) (by rfl) (by rfl) (by omega) (by omega) ?_
            refine go2 ?_
            rw [shrN, addI1 w (by omega)]
            refine l_n (by rfl) (by omega) ⟨w + 1, _, c2.set w ((at0 c2 w + at0 vl w + carry) % 4294967296), rfl, rfl, rfl, by omega, by simp [f2], f3.set (Nat.mod_lt _ (by decide)), by omega, ?_, fun j hj => ?_⟩
            · rw [val_take_set (by omega), val_take_succ vl, val_take_succ cs, pow_up w, ← f6 w (Nat.le_refl w)]
              exact add_row f5 (by omega)
            · rw [at0_set (by omega)]
              exact f6 j (by omega)
          simp only [compare', dec_false] at hw
          have ew : w = k + 1 := by omega
          subst ew
          refine go2 ?_
          rw [addI i (k + 1) (by omega)]
          refine idx_sl (by rfl) (by rfl) (by omega) (by omega) ?_
          refine go2 ?_
          refine ld_mid (i := k + 1) (by rfl) (by omega) (by omega) ?_
          refine go2 ?_
          rw [u32N, Nat.mod_eq_of_lt (by omega : carry < 4294967296), show arith .add .u32 ((at0 c2 (k + 1) : Nat) : Int) (carry : Int) = (((at0 c2 (k + 1) + carry) % 4294967296 : Nat) : Int) by rw [ar_add, wrap_u32]; omega]
          refine idx_sl (by rfl) (by rfl) (by omega) (by omega) ?_
          refine go2 ?_
          refine st_mid (i := k + 1) (by rfl) (by rfl) (by omega) (by omega) ?_
          refine go2 ?_
          have hrow2 := add_row (x := at0 c2 (k + 1)) (y := 0) f5 rfl
          rw [Nat.mul_zero, Nat.add_zero, Nat.add_zero, Nat.add_comm carry, ← val_take_set (l := c2) (by omega), f6 (k + 1) (Nat.le_refl _), ← val_take_succ cs, ← pow_up (k + 1), val_all (l := c2.set (k + 1) _) (by simp; omega), val_all (l := cs) (by omega), val_all (l := vl) (by omega)] at hrow2
          rw [f6 (k + 1) (Nat.le_refl _)]
          have oc2 : OkW (c2.set (k + 1) ((at0 cs (k + 1) + carry) % 4294967296)) := f3.set (Nat.mod_lt _ (by decide))
          have lc2 : (c2.set (k + 1) ((at0 cs (k + 1) + carry) % 4294967296)).length = k + 2 := by simp [f2]
          have gcs := ocs.get (k + 1)
          generalize c2.set (k + 1) ((at0 cs (k + 1) + carry) % 4294967296) = ce at hrow2 oc2 lc2 ⊢
          have hC2 := val_lt oc2
          rw [lc2] at hC2
          have hfin := back_end hY0 (Nat.lt_of_lt_of_le hYk (Nat.pow_le_pow_right (by decide) (Nat.le_succ _))) hC2 y3 (show (at0 cs (k + 1) + carry) / 4294967296 ≤ 1 by omega) hrow2
          obtain ⟨y4, y5⟩ := q2 ce (by omega) hfin
          rw [u32N, y1, Nat.mod_eq_of_lt EF.lt]
          refine idx_sl (by rfl) (by rfl) (by omega) (by omega) ?_
          refine go2 ?_
          refine st_word (k := i) (by rfl) (by rfl) (by omega) (by omega) ?_
          refine go2 ?_
          refine l_n (by rfl) (by omega) ⟨i, pre ++ ce ++ post, out.set i (val seg / val vl), ?_, rfl, rfl, by omega, by simp; omega, okW_app (okW_app opre oc2) opost, by simp [j4], j5.set EF.lt, y4, y5⟩
          rw [show arith .sub .i64 ((i : Nat) : Int) 1 = (i : Int) - 1 by rw [ar_sub, wrap_i64 (by omega) (by omega)]]
          rfl
    case false =>
      simp only [compare', dec_false] at hg
      refine go2 ?_
      rw [subI2 (k + 1) (by omega) (by omega), show k + 1 - 2 = k - 1 by omega]
      refine idx_sl (by rfl) (by rfl) (by omega) (by omega) ?_
      refine go2 ?_
      refine ld_word (k := k - 1) (by rfl) (by omega) (by omega) ?_
      refine go2 ?_
      have hm : z * at0 vl (k - 1) < 18446744073709551616 := by
        have := Nat.mul_le_mul (show z ≤ 4294967295 by omega) (Nat.le_of_lt_succ gn)
        omega
      rw [addI i (k + 1) (by omega), subI2 (i + (k + 1)) (by omega) (by omega)]
      refine idx_sl (by rfl) (by rfl) (by omega) (by omega) ?_
      refine go2 ?_
      refine ld_mid (i := k - 1) (by rfl) (by omega) (by omega) ?_
      refine go2 ?_
      rw [wrapN _ (by omega : at0 vl (k - 1) < 18446744073709551616), mulN _ _ hm, wrapN _ (by omega : at0 seg (k - 1) < 18446744073709551616), shl32N _ p4, or_words p4 g2]
      cases hg2 : compare' Cm.gtr ((z * at0 vl (k - 1) : Nat) : Int) ((r * 4294967296 + at0 seg (k - 1) : Nat) : Int)
      case true =>
        simp only [compare', dec_true] at hg2
        obtain ⟨h1, h2⟩ := EF.round z r p1 (by omega)
        refine go2 ?_
        have h3 : (z - 1) * at0 vl k + (r + at0 vl k) = at0 seg (k + 1) * 4294967296 + at0 seg k := by
          have e1 := Nat.sub_mul z 1 (at0 vl k)
          have e2 := Nat.mul_le_mul_right (at0 vl k) h2
          omega
        rw [subN1 z (by omega) h2, subI1 (k + 1) (by omega) (by omega), show k + 1 - 1 = k by omega]
        refine idx_sl (by rfl) (by rfl) (by omega) (by omega) ?_
        refine go2 ?_
        refine ld_word (k := k) (by rfl) (by omega) (by omega) ?_
        refine go2 ?_
        rw [wrapN _ (by omega : at0 vl k < 18446744073709551616), addN _ _ (by omega)]
        cases hr2 : compare' Cm.geq ((r + at0 vl k : Nat) : Int) 4294967296
        case false =>
          simp only [compare', dec_false] at hr2
          refine go2 ?_
          exact l_n (by rfl) (by omega) ⟨z - 1, r + at0 vl k, rfl, rfl, rfl, h3, h1, by omega, by omega⟩
        case true =>
          simp only [compare', dec_true] at hr2
          have E := EF.over (z - 1) (r + at0 vl k) h3 h1 (by omega)
          refine go2 ?_
          refine f_loop (fun y vs H => ∃ (w bo carry : Nat) (cur : List Nat), vs = [u64 s, .c (.sl 0 0 (a.length + 1) (some (a.length + 1)) 1), .c (.sl 1 0 (k + 1) (some (k + 1)) 1), i64 ((k + 1 : Nat) : Int), .c (.sl 2 0 (m + 1) (some (m + 1)) 1), i64 i, u64 (z - 1), i64 bo, u64 carry, i64 ((k + 1 : Nat) : Int), i64 w] ∧ H = [.live ⟨(pre ++ cur ++ post).map W, T_uint32, .rw⟩, .live ⟨vl.map W, T_uint32, .rw⟩, .live ⟨out.map W, T_uint32, .rw⟩] ∧ y = k + 1 - w ∧ w ≤ k + 1 ∧ cur.length = k + 2 ∧ OkW cur ∧ bo ≤ 1 ∧ carry < 4294967296 ∧ val (cur.take w) + (z - 1) * val (vl.take w) = val (seg.take w) + 4294967296 ^ w * (carry + bo) ∧ ∀ j, w ≤ j → at0 cur j = at0 seg j) (by rfl) ⟨0, 0, 0, seg, rfl, rfl, rfl, by omega, lseg, oseg, by omega, by omega, by simp [val], fun _ _ => rfl⟩ ?_
          rintro y vs H ⟨w, bo, carry, cur, rfl, rfl, rfl, c1, c2, c3, c4, c5, c6, c7⟩
          have gc := c3.get w
          have gv := v3.get w
          refine go2 ?_
          cases hw : compare' Cm.lss (w : Int) ((k + 1 : Nat) : Int)
          case true =>
            simp only [compare', dec_true] at hw
            have hmm : (z - 1) * at0 vl w + carry < 18446744073709551616 := by
              have := Nat.mul_le_mul (Nat.le_of_lt_succ E.lt) (Nat.le_of_lt_succ gv)
              omega
            refine go2 ?_
            refine idx_sl (by rfl) (by rfl) (by omega) (by omega) ?_
            refine go2 ?_
            refine ld_word (k := w) (by rfl) (by omega) (by omega) ?_
            refine go2 ?_
            rw [wrapN _ (by omega : at0 vl w < 18446744073709551616), mulN _ _ (by omega), addN _ _ hmm]
            refine go2 ?_
            rw [shrN, addI w i (by omega)]
            refine idx_sl (by rfl) (by rfl) (by omega) (by omega) ?_
            refine go2 ?_
            refine ld_mid (i := w) (by rfl) (by omega) (by omega) ?_
            refine go2 ?_
            obtain ⟨d, w', b', e1, e2, e3, x1, x2, x3⟩ := sub_i64 (x := at0 cur w) (s := ((z - 1) * at0 vl w + carry) % 4294967296) (bo := bo) gc (Nat.mod_lt _ (by decide)) c4
            rw [i64N _ (by omega : at0 cur w < 9223372036854775808), u32N, i64N _ (by omega : ((z - 1) * at0 vl w + carry) % 4294967296 < 9223372036854775808), e1]
            refine go2 ?_
            rw [e2, addI w i (by omega)]
            refine idx_sl (by rfl) (by rfl) (by omega) (by omega) ?_
            refine go2 ?_
            refine st_mid (i := w) (by rfl) (by rfl) (by omega) (by omega) ?_
            refine go2 ?_
            have hrow := sub_row (t := (z - 1) * at0 vl w + carry) (y := at0 vl w) c6 (Nat.add_comm _ _) x3
            cases hd : compare' Cm.lss d 0
            case true =>
              simp only [compare', dec_true] at hd
              have hb1 := e3.1 hd
              subst hb1
              refine go2 ?_
              rw [addI1 w (by omega)]
              refine l_n (by rfl) (by omega) ⟨w + 1, 1, ((z - 1) * at0 vl w + carry) / 4294967296, cur.set w w', rfl, rfl, rfl, by omega, by simp [c2], c3.set x1, by omega, by omega, ?_, fun j hj => ?_⟩
              · rw [val_take_set (by omega), val_take_succ vl, val_take_succ seg, pow_up w, ← c7 w (Nat.le_refl w)]
                exact hrow
              · rw [at0_set (by omega)]
                exact c7 j (by omega)
            case false =>
              simp only [compare', dec_false] at hd
              have hb1 : b' = 0 := by
                rcases Nat.lt_or_ge b' 1 with h | h
                · omega
                · exact absurd (e3.2 (by omega)) hd
              subst hb1
              refine go2 ?_
              rw [addI1 w (by omega)]
              refine l_n (by rfl) (by omega) ⟨w + 1, 0, ((z - 1) * at0 vl w + carry) / 4294967296, cur.set w w', rfl, rfl, rfl, by omega, by simp [c2], c3.set x1, by omega, by omega, ?_, fun j hj => ?_⟩
              · rw [val_take_set (by omega), val_take_succ vl, val_take_succ seg, pow_up w, ← c7 w (Nat.le_refl w)]
                exact hrow
              · rw [at0_set (by omega)]
                exact c7 j (by omega)
          simp only [compare', dec_false] at hw
          have ew : w = k + 1 := by omega
          subst ew
          refine go2 ?_
          rw [addI i (k + 1) (by omega)]
          refine idx_sl (by rfl) (by rfl) (by omega) (by omega) ?_
          refine go2 ?_
          refine ld_mid (i := k + 1) (by rfl) (by omega) (by omega) ?_
          refine go2 ?_
          obtain ⟨d, w', b', e1, e2, e3, x1, x2, x3⟩ := sub_i64 (x := at0 cur (k + 1)) (s := carry) (bo := bo) gc c5 c4
          rw [i64N _ (by omega : at0 cur (k + 1) < 9223372036854775808), i64N _ (by omega : carry < 9223372036854775808), e1]
          refine go2 ?_
          rw [e2, addI i (k + 1) (by omega)]
          refine idx_sl (by rfl) (by rfl) (by omega) (by omega) ?_
          refine go2 ?_
          refine st_mid (i := k + 1) (by rfl) (by rfl) (by omega) (by omega) ?_
          refine go2 ?_
          have hrow := sub_row (t := carry) (y := 0) c6 (by rw [Nat.mul_zero, Nat.add_zero]) (by rw [Nat.mod_eq_of_lt c5]; exact x3)
          rw [c7 (k + 1) (Nat.le_refl _), Nat.mul_zero, Nat.add_zero, Nat.div_eq_of_lt c5, ← val_take_set (by omega), ← val_take_succ seg, ← pow_up (k + 1), val_all (l := cur.set (k + 1) w') (by simp; omega), val_all (l := seg) (by omega), val_all (l := vl) (by omega)] at hrow
          have ocs : OkW (cur.set (k + 1) w') := c3.set x1
          have lcs : (cur.set (k + 1) w').length = k + 2 := by simp [c2]
          generalize cur.set (k + 1) w' = cs at hrow ocs lcs
          have hC := val_lt ocs
          rw [lcs] at hC
          obtain ⟨z1, z2⟩ := word_end (q := (z - 1)) (c := val cs) hY0 E.lo E.hi hC hXR
          clear c1 c2 c3 c4 c5 c6 c7 gc gv e1 e2 x3
          cases hd : compare' Cm.lss d 0
          case false =>
            simp only [compare', dec_false] at hd
            have hb1 : b' = 0 := by
              rcases Nat.lt_or_ge b' 1 with h | h
              · omega
              · exact absurd (e3.2 (by omega)) hd
            subst hb1
            obtain ⟨y1, y2⟩ := z1 hrow
            obtain ⟨y3, y4⟩ := q2 cs (by omega) y2
            refine go2 ?_
            rw [u32N, y1, Nat.mod_eq_of_lt EF.lt]
            refine idx_sl (by rfl) (by rfl) (by omega) (by omega) ?_
            refine go2 ?_
            refine st_word (k := i) (by rfl) (by rfl) (by omega) (by omega) ?_
            refine go2 ?_
            refine l_n (by rfl) (by omega) ⟨i, pre ++ cs ++ post, out.set i (val seg / val vl), ?_, rfl, rfl, by omega, by simp; omega, okW_app (okW_app opre ocs) opost, by simp [j4], j5.set EF.lt, y3, y4⟩
            rw [show arith .sub .i64 ((i : Nat) : Int) 1 = (i : Int) - 1 by rw [ar_sub, wrap_i64 (by omega) (by omega)]]
            rfl
          case true =>
            simp only [compare', dec_true] at hd
            have hb1 := e3.1 hd
            subst hb1
            obtain ⟨y1, y2, y3⟩ := z2 hrow
            refine go2 ?_
            rw [subN1 (z - 1) (by omega) y2]
            refine f_loop (fun y vs H => ∃ (w carry : Nat) (c2 : List Nat), vs = [u64 s, .c (.sl 0 0 (a.length + 1) (some (a.length + 1)) 1), .c (.sl 1 0 (k + 1) (some (k + 1)) 1), i64 ((k + 1 : Nat) : Int), .c (.sl 2 0 (m + 1) (some (m + 1)) 1), i64 i, u64 ((z - 1) - 1), u64 carry, i64 ((k + 1 : Nat) : Int), i64 w] ∧ H = [.live ⟨(pre ++ c2 ++ post).map W, T_uint32, .rw⟩, .live ⟨vl.map W, T_uint32, .rw⟩, .live ⟨out.map W, T_uint32, .rw⟩] ∧ y = k + 1 - w ∧ w ≤ k + 1 ∧ c2.length = k + 2 ∧ OkW c2 ∧ carry ≤ 1 ∧ val (c2.take w) + 4294967296 ^ w * carry = val (cs.take w) + val (vl.take w) ∧ ∀ j, w ≤ j → at0 c2 j = at0 cs j) (by rfl) ⟨0, 0, cs, rfl, rfl, rfl, by omega, lcs, ocs, by omega, by simp [val], fun _ _ => rfl⟩ ?_
            rintro y vs H ⟨w, carry, c2, rfl, rfl, rfl, f1, f2, f3, f4, f5, f6⟩
            have gc := f3.get w
            have gv := v3.get w
            refine go2 ?_
            cases hw : compare' Cm.lss (w : Int) ((k + 1 : Nat) : Int)
            case true =>
              simp only [compare', dec_true] at hw
              refine go2 ?_
              rw [addI w i (by omega)]
              refine idx_sl (by rfl) (by rfl) (by omega) (by omega) ?_
              refine go2 ?_
              refine ld_mid (i := w) (by rfl) (by omega) (by omega) ?_
              refine go2 ?_
              refine idx_sl (by rfl) (by rfl) (by omega) (by omega) ?_
              refine go2 ?_
              refine ld_word (k := w) (by rfl) (by omega) (by omega) ?_
              refine go2 ?_
              rw [wrapN _ (by omega : at0 c2 w < 18446744073709551616), wrapN _ (by omega : at0 vl w < 18446744073709551616), addN _ _ (by omega), addN _ _ (by omega)]
              refine go2 ?_
              rw [u32N, addI w i (by omega)]
              refine idx_sl (by rfl) (by rfl) (by omega) (by omega) ?_
              refine go2 ?_
              refine st_mid (i := w) (by rfl) (by rfl) (by omega) (by omega) ?_
              refine go2 ?_
              rw [shrN, addI1 w (by omega)]
              refine l_n (by rfl) (by omega) ⟨w + 1, _, c2.set w ((at0 c2 w + at0 vl w + carry) % 4294967296), rfl, rfl, rfl, by omega, by simp [f2], f3.set (Nat.mod_lt _ (by decide)), by omega, ?_, fun j hj => ?_⟩
              · rw [val_take_set (by omega), val_take_succ vl, val_take_succ cs, pow_up w, ← f6 w (Nat.le_refl w)]
                exact add_row f5 (by omega)
              · rw [at0_set (by omega)]
                exact f6 j (by omega)
            simp only [compare', dec_false] at hw
            have ew : w = k + 1 := by omega
            subst ew
            refine go2 ?_
            rw [addI i (k + 1) (by omega)]
            refine idx_sl (by rfl) (by rfl) (by omega) (by omega) ?_
            refine go2 ?_
            refine ld_mid (i := k + 1) (by rfl) (by omega) (by omega) ?_
            refine go2 ?_
            rw [u32N, Nat.mod_eq_of_lt (by omega : carry < 4294967296), show arith .add .u32 ((at0 c2 (k + 1) : Nat) : Int) (carry : Int) = (((at0 c2 (k + 1) + carry) % 4294967296 : Nat) : Int) by rw [ar_add, wrap_u32]; omega]
            refine idx_sl (by rfl) (by rfl) (by omega) (by omega) ?_
            refine go2 ?_
            refine st_mid (i := k + 1) (by rfl) (by rfl) (by omega) (by omega) ?_
            refine go2 ?_
            have hrow2 := add_row (x := at0 c2 (k + 1)) (y := 0) f5 rfl
            rw [Nat.mul_zero, Nat.add_zero, Nat.add_zero, Nat.add_comm carry, ← val_take_set (l := c2) (by omega), f6 (k + 1) (Nat.le_refl _), ← val_take_succ cs, ← pow_up (k + 1), val_all (l := c2.set (k + 1) _) (by simp; omega), val_all (l := cs) (by omega), val_all (l := vl) (by omega)] at hrow2
            rw [f6 (k + 1) (Nat.le_refl _)]
            have oc2 : OkW (c2.set (k + 1) ((at0 cs (k + 1) + carry) % 4294967296)) := f3.set (Nat.mod_lt _ (by decide))
            have lc2 : (c2.set (k + 1) ((at0 cs (k + 1) + carry) % 4294967296)).length = k + 2 := by simp [f2]
            have gcs := ocs.get (k + 1)
            generalize c2.set (k + 1) ((at0 cs (k + 1) + carry) % 4294967296) = ce at hrow2 oc2 lc2 ⊢
            have hC2 := val_lt oc2
            rw [lc2] at hC2
            have hfin := back_end hY0 (Nat.lt_of_lt_of_le hYk (Nat.pow_le_pow_right (by decide) (Nat.le_succ _))) hC2 y3 (show (at0 cs (k + 1) + carry) / 4294967296 ≤ 1 by omega) hrow2
            obtain ⟨y4, y5⟩ := q2 ce (by omega) hfin
            rw [u32N, y1, Nat.mod_eq_of_lt EF.lt]
            refine idx_sl (by rfl) (by rfl) (by omega) (by omega) ?_
            refine go2 ?_
            refine st_word (k := i) (by rfl) (by rfl) (by omega) (by omega) ?_
            refine go2 ?_
            refine l_n (by rfl) (by omega) ⟨i, pre ++ ce ++ post, out.set i (val seg / val vl), ?_, rfl, rfl, by omega, by simp; omega, okW_app (okW_app opre oc2) opost, by simp [j4], j5.set EF.lt, y4, y5⟩
            rw [show arith .sub .i64 ((i : Nat) : Int) 1 = (i : Int) - 1 by rw [ar_sub, wrap_i64 (by omega) (by omega)]]
            rfl
      case false =>
        simp only [compare', dec_false] at hg2
        have E := EF.fin z r p1 p2 (by omega) (by omega)
        refine go2 ?_
        refine f_loop (fun y vs H => ∃ (w bo carry : Nat) (cur : List Nat), vs = [u64 s, .c (.sl 0 0 (a.length + 1) (some (a.length + 1)) 1), .c (.sl 1 0 (k + 1) (some (k + 1)) 1), i64 ((k + 1 : Nat) : Int), .c (.sl 2 0 (m + 1) (some (m + 1)) 1), i64 i, u64 z, i64 bo, u64 carry, i64 ((k + 1 : Nat) : Int), i64 w] ∧ H = [.live ⟨(pre ++ cur ++ post).map W, T_uint32, .rw⟩, .live ⟨vl.map W, T_uint32, .rw⟩, .live ⟨out.map W, T_uint32, .rw⟩] ∧ y = k + 1 - w ∧ w ≤ k + 1 ∧ cur.length = k + 2 ∧ OkW cur ∧ bo ≤ 1 ∧ carry < 4294967296 ∧ val (cur.take w) + z * val (vl.take w) = val (seg.take w) + 4294967296 ^ w * (carry + bo) ∧ ∀ j, w ≤ j → at0 cur j = at0 seg j) (by rfl) ⟨0, 0, 0, seg, rfl, rfl, rfl, by omega, lseg, oseg, by omega, by omega, by simp [val], fun _ _ => rfl⟩ ?_
        rintro y vs H ⟨w, bo, carry, cur, rfl, rfl, rfl, c1, c2, c3, c4, c5, c6, c7⟩
        have gc := c3.get w
        have gv := v3.get w
        refine go2 ?_
        cases hw : compare' Cm.lss (w : Int) ((k + 1 : Nat) : Int)
        case true =>
          simp only [compare', dec_true] at hw
          have hmm : z * at0 vl w + carry < 18446744073709551616 := by
            have := Nat.mul_le_mul (Nat.le_of_lt_succ E.lt) (Nat.le_of_lt_succ gv)
            omega
          refine go2 ?_
          refine idx_sl (by rfl) (by rfl) (by omega) (by omega) ?_
          refine go2 ?_
          refine ld_word (k := w) (by rfl) (by omega) (by omega) ?_
          refine go2 ?_
          rw [wrapN _ (by omega : at0 vl w < 18446744073709551616), mulN _ _ (by omega), addN _ _ hmm]
          refine go2 ?_
          rw [shrN, addI w i (by omega)]
          refine idx_sl (by rfl) (by rfl) (by omega) (by omega) ?_
          refine go2 ?_
          refine ld_mid (i := w) (by rfl) (by omega) (by omega) ?_
          refine go2 ?_
          obtain ⟨d, w', b', e1, e2, e3, x1, x2, x3⟩ := sub_i64 (x := at0 cur w) (s := (z * at0 vl w + carry) % 4294967296) (bo := bo) gc (Nat.mod_lt _ (by decide)) c4
          rw [i64N _ (by omega : at0 cur w < 9223372036854775808), u32N, i64N _ (by omega : (z * at0 vl w + carry) % 4294967296 < 9223372036854775808), e1]
          refine go2 ?_
          rw [e2, addI w i (by omega)]
          refine idx_sl (by rfl) (by rfl) (by omega) (by omega) ?_
          refine go2 ?_
          refine st_mid (i := w) (by rfl) (by rfl) (by omega) (by omega) ?_
          refine go2 ?_
          have hrow := sub_row (t := z * at0 vl w + carry) (y := at0 vl w) c6 (Nat.add_comm _ _) x3
          cases hd : compare' Cm.lss d 0
          case true =>
            simp only [compare', dec_true] at hd
            have hb1 := e3.1 hd
            subst hb1
            refine go2 ?_
            rw [addI1 w (by omega)]
            refine l_n (by rfl) (by omega) ⟨w + 1, 1, (z * at0 vl w + carry) / 4294967296, cur.set w w', rfl, rfl, rfl, by omega, by simp [c2], c3.set x1, by omega, by omega, ?_, fun j hj => ?_⟩
            · rw [val_take_set (by omega), val_take_succ vl, val_take_succ seg, pow_up w, ← c7 w (Nat.le_refl w)]
              exact hrow
            · rw [at0_set (by omega)]
              exact c7 j (by omega)
          case false =>
            simp only [compare', dec_false] at hd
            have hb1 : b' = 0 := by
              rcases Nat.lt_or_ge b' 1 with h | h
              · omega
              · exact absurd (e3.2 (by omega)) hd
            subst hb1
            refine go2 ?_
            rw [addI1 w (by omega)]
            refine l_n (by rfl) (by omega) ⟨w + 1, 0, (z * at0 vl w + carry) / 4294967296, cur.set w w', rfl, rfl, rfl, by omega, by simp [c2], c3.set x1, by omega, by omega, ?_, fun j hj => ?_⟩
            · rw [val_take_set (by omega), val_take_succ vl, val_take_succ seg, pow_up w, ← c7 w (Nat.le_refl w)]
              exact hrow
            · rw [at0_set (by omega)]
              exact c7 j (by omega)
        simp only [compare', dec_false] at hw
        have ew : w = k + 1 := by omega
        subst ew
        refine go2 ?_
        rw [addI i (k + 1) (by omega)]
        refine idx_sl (by rfl) (by rfl) (by omega) (by omega) ?_
        refine go2 ?_
        refine ld_mid (i := k + 1) (by rfl) (by omega) (by omega) ?_
        refine go2 ?_
        obtain ⟨d, w', b', e1, e2, e3, x1, x2, x3⟩ := sub_i64 (x := at0 cur (k + 1)) (s := carry) (bo := bo) gc c5 c4
        rw [i64N _ (by omega : at0 cur (k + 1) < 9223372036854775808), i64N _ (by omega : carry < 9223372036854775808), e1]
        refine go2 ?_
        rw [e2, addI i (k + 1) (by omega)]
        refine idx_sl (by rfl) (by rfl) (by omega) (by omega) ?_
        refine go2 ?_
        refine st_mid (i := k + 1) (by rfl) (by rfl) (by omega) (by omega) ?_
        refine go2 ?_
        have hrow := sub_row (t := carry) (y := 0) c6 (by rw [Nat.mul_zero, Nat.add_zero]) (by rw [Nat.mod_eq_of_lt c5]; exact x3)
        rw [c7 (k + 1) (Nat.le_refl _), Nat.mul_zero, Nat.add_zero, Nat.div_eq_of_lt c5, ← val_take_set (by omega), ← val_take_succ seg, ← pow_up (k + 1), val_all (l := cur.set (k + 1) w') (by simp; omega), val_all (l := seg) (by omega), val_all (l := vl) (by omega)] at hrow
        have ocs : OkW (cur.set (k + 1) w') := c3.set x1
        have lcs : (cur.set (k + 1) w').length = k + 2 := by simp [c2]
        generalize cur.set (k + 1) w' = cs at hrow ocs lcs
        have hC := val_lt ocs
        rw [lcs] at hC
        obtain ⟨z1, z2⟩ := word_end (q := z) (c := val cs) hY0 E.lo E.hi hC hXR
        clear c1 c2 c3 c4 c5 c6 c7 gc gv e1 e2 x3
        cases hd : compare' Cm.lss d 0
        case false =>
          simp only [compare', dec_false] at hd
          have hb1 : b' = 0 := by
            rcases Nat.lt_or_ge b' 1 with h | h
            · omega
            · exact absurd (e3.2 (by omega)) hd
          subst hb1
          obtain ⟨y1, y2⟩ := z1 hrow
          obtain ⟨y3, y4⟩ := q2 cs (by omega) y2
          refine go2 ?_
          rw [u32N, y1, Nat.mod_eq_of_lt EF.lt]
          refine idx_sl (by rfl) (by rfl) (by omega) (by omega) ?_
          refine go2 ?_
          refine st_word (k := i) (by rfl) (by rfl) (by omega) (by omega) ?_
          refine go2 ?_
          refine l_n (by rfl) (by omega) ⟨i, pre ++ cs ++ post, out.set i (val seg / val vl), ?_, rfl, rfl, by omega, by simp; omega, okW_app (okW_app opre ocs) opost, by simp [j4], j5.set EF.lt, y3, y4⟩
          rw [show arith .sub .i64 ((i : Nat) : Int) 1 = (i : Int) - 1 by rw [ar_sub, wrap_i64 (by omega) (by omega)]]
          rfl
        case true =>
          simp only [compare', dec_true] at hd
          have hb1 := e3.1 hd
          subst hb1
          obtain ⟨y1, y2, y3⟩ := z2 hrow
          refine go2 ?_
          rw [subN1 z (by omega) y2]
          refine f_loop (fun y vs H => ∃ (w carry : Nat) (c2 : List Nat), vs = [u64 s, .c (.sl 0 0 (a.length + 1) (some (a.length + 1)) 1), .c (.sl 1 0 (k + 1) (some (k + 1)) 1), i64 ((k + 1 : Nat) : Int), .c (.sl 2 0 (m + 1) (some (m + 1)) 1), i64 i, u64 (z - 1), u64 carry, i64 ((k + 1 : Nat) : Int), i64 w] ∧ H = [.live ⟨(pre ++ c2 ++ post).map W, T_uint32, .rw⟩, .live ⟨vl.map W, T_uint32, .rw⟩, .live ⟨out.map W, T_uint32, .rw⟩] ∧ y = k + 1 - w ∧ w ≤ k + 1 ∧ c2.length = k + 2 ∧ OkW c2 ∧ carry ≤ 1 ∧ val (c2.take w) + 4294967296 ^ w * carry = val (cs.take w) + val (vl.take w) ∧ ∀ j, w ≤ j → at0 c2 j = at0 cs j) (by rfl) ⟨0, 0, cs, rfl, rfl, rfl, by omega, lcs, ocs, by omega, by simp [val], fun _ _ => rfl⟩ ?_
          rintro y vs H ⟨w, carry, c2, rfl, rfl, rfl, f1, f2, f3, f4, f5, f6⟩
          have gc := f3.get w
          have gv := v3.get w
          refine go2 ?_
          cases hw : compare' Cm.lss (w : Int) ((k + 1 : Nat) : Int)
          case true =>
            simp only [compare', dec_true] at hw
            refine go2 ?_
            rw [addI w i (by omega)]
            refine idx_sl (by rfl) (by rfl) (by omega) (by omega) ?_
            refine go2 ?_
            refine ld_mid (i := w) (by rfl) (by omega) (by omega) ?_
            refine go2 ?_
            refine idx_sl (by rfl) (by rfl) (by omega) (by omega) ?_
            refine go2 ?_
            refine ld_word (k := w) (by rfl) (by omega) (by omega) ?_
            refine go2 ?_
            rw [wrapN _ (by omega : at0 c2 w < 18446744073709551616), wrapN _ (by omega : at0 vl w < 18446744073709551616), addN _ _ (by omega), addN _ _ (by omega)]
            refine go2 ?_
            rw [u32N, addI w i (by omega)]
            refine idx_sl (by rfl) (by rfl) (by omega) (by omega) ?_
            refine go2 ?_
            refine st_mid (i := w) (by rfl) (by rfl) (by omega) (by omega) ?_
            refine go2 ?_
            rw [shrN, addI1 w (by omega)]
            refine l_n (by rfl) (by omega) ⟨w + 1, _, c2.set w ((at0 c2 w + at0 vl w + carry) % 4294967296), rfl, rfl, rfl, by omega, by simp [f2], f3.set (Nat.mod_lt _ (by decide)), by omega, ?_, fun j hj => ?_⟩
            · rw [val_take_set (by omega), val_take_succ vl, val_take_succ cs, pow_up w, ← f6 w (Nat.le_refl w)]
              exact add_row f5 (by omega)
            · rw [at0_set (by omega)]
              exact f6 j (by omega)
          simp only [compare', dec_false] at hw
          have ew : w = k + 1 := by omega
          subst ew
          refine go2 ?_
          rw [addI i (k + 1) (by omega)]
          refine idx_sl (by rfl) (by rfl) (by omega) (by omega) ?_
          refine go2 ?_
          refine ld_mid (i := k + 1) (by rfl) (by omega) (by omega) ?_
          refine go2 ?_
          rw [u32N, Nat.mod_eq_of_lt (by omega : carry < 4294967296), show arith .add .u32 ((at0 c2 (k + 1) : Nat) : Int) (carry : Int) = (((at0 c2 (k + 1) + carry) % 4294967296 : Nat) : Int) by rw [ar_add, wrap_u32]; omega]
          refine idx_sl (by rfl) (by rfl) (by omega) (by omega) ?_
          refine go2 ?_
          refine st_mid (i := k + 1) (by rfl) (by rfl) (by omega) (by omega) ?_
          refine go2 ?_
          have hrow2 := add_row (x := at0 c2 (k + 1)) (y := 0) f5 rfl
          rw [Nat.mul_zero, Nat.add_zero, Nat.add_zero, Nat.add_comm carry, ← val_take_set (l := c2) (by omega), f6 (k + 1) (Nat.le_refl _), ← val_take_succ cs, ← pow_up (k + 1), val_all (l := c2.set (k + 1) _) (by simp; omega), val_all (l := cs) (by omega), val_all (l := vl) (by omega)] at hrow2
          rw [f6 (k + 1) (Nat.le_refl _)]
          have oc2 : OkW (c2.set (k + 1) ((at0 cs (k + 1) + carry) % 4294967296)) := f3.set (Nat.mod_lt _ (by decide))
          have lc2 : (c2.set (k + 1) ((at0 cs (k + 1) + carry) % 4294967296)).length = k + 2 := by simp [f2]
          have gcs := ocs.get (k + 1)
          generalize c2.set (k + 1) ((at0 cs (k + 1) + carry) % 4294967296) = ce at hrow2 oc2 lc2 ⊢
          have hC2 := val_lt oc2
          rw [lc2] at hC2
          have hfin := back_end hY0 (Nat.lt_of_lt_of_le hYk (Nat.pow_le_pow_right (by decide) (Nat.le_succ _))) hC2 y3 (show (at0 cs (k + 1) + carry) / 4294967296 ≤ 1 by omega) hrow2
          obtain ⟨y4, y5⟩ := q2 ce (by omega) hfin
          rw [u32N, y1, Nat.mod_eq_of_lt EF.lt]
          refine idx_sl (by rfl) (by rfl) (by omega) (by omega) ?_
          refine go2 ?_
          refine st_word (k := i) (by rfl) (by rfl) (by omega) (by omega) ?_
          refine go2 ?_
          refine l_n (by rfl) (by omega) ⟨i, pre ++ ce ++ post, out.set i (val seg / val vl), ?_, rfl, rfl, by omega, by simp; omega, okW_app (okW_app opre oc2) opost, by simp [j4], j5.set EF.lt, y4, y5⟩
          rw [show arith .sub .i64 ((i : Nat) : Int) 1 = (i : Int) - 1 by rw [ar_sub, wrap_i64 (by omega) (by omega)]]
          rfl
  simp [compare'] at hq2
  have ej : z = 0 := by omega
  subst ej
  rw [List.drop_zero] at j6 j7
  rw [Nat.pow_zero, Nat.one_mul, v4] at j6
  have j8 := Nat.lt_trans j7 hYk
  rw [v4] at j7
  obtain ⟨d1, d2⟩ := parts_end hvb j6 j7
  have hb0' : at0 xc 0 % 2 ^ s = 0 := back_start (r := val a % val b) (by omega) d2
  obtain ⟨e1, e2⟩ := above_nought j8 (by omega)
  refine go2 ?_
  refine x_mkSl (by rfl) (by rfl) ⟨by omega, by omega, by omega, by omega⟩ ?_
  rw [Int.toNat_natCast, zeros]
  refine go2 ?_
  refine f_loop (fun y vs H => ∃ (w : Nat) (rl : List Nat), vs = [u64 s, .c (.sl 0 0 (a.length + 1) (some (a.length + 1)) 1), .c (.sl 2 0 (m + 1) (some (m + 1)) 1), .c (.sl 3 0 (k + 1) (some (k + 1)) 1), i64 ((k + 1 : Nat) : Int), i64 w] ∧ H = [.live ⟨xc.map W, T_uint32, .rw⟩, .live ⟨vl.map W, T_uint32, .rw⟩, .live ⟨out.map W, T_uint32, .rw⟩, .live ⟨rl.map W, T_uint32, .rw⟩] ∧ y = k + 1 - w ∧ w ≤ k + 1 ∧ rl.length = k + 1 ∧ OkW rl ∧ 2 ^ s * val (rl.take w) = val (xc.take w) + 4294967296 ^ w * (at0 xc w % 2 ^ s)) (by rfl) ⟨0, _, rfl, rfl, rfl, by omega, by simp, fun x hx => by simp at hx; omega, by rw [hb0']; simp [val]⟩ ?_
  rintro y vs H ⟨w, rl, rfl, rfl, rfl, f1, f2, f3, f4⟩
  refine go2 ?_
  cases hw : compare' Cm.lss (w : Int) ((k + 1 : Nat) : Int)
  case true =>
    simp only [compare', dec_true] at hw
    have gi := j3.get w
    have gj := j3.get (w + 1)
    obtain ⟨q, w1, w2, w3, w4, w5⟩ := back_word n1 gi gj
    obtain ⟨w6, w7⟩ := or_u32' (lo := at0 xc w / 2 ^ s) (m := q) (s := 32 - s) (by omega) w2 w4
    refine go2 ?_
    refine idx_sl (by rfl) (by rfl) (by omega) (by omega) ?_
    refine go2 ?_
    refine ld_word (k := w) (by rfl) (by omega) (by omega) ?_
    refine go2 ?_
    rw [shrU _ _ (by omega)]
    refine idx_sl (by rfl) (by rfl) (by omega) (by omega) ?_
    refine go2 ?_
    refine st_word (k := w) (by rfl) (by rfl) (by omega) (by omega) ?_
    refine go2 ?_
    cases hs0 : compare' Cm.gtr (s : Int) 0
    case false =>
      simp [compare'] at hs0
      subst hs0
      refine go2 ?_
      rw [addI1 w (by omega)]
      refine l_n (by rfl) (by omega) ⟨w + 1, _, rfl, rfl, rfl, by omega, by simp [f2], f3.set (by rw [Nat.pow_zero, Nat.div_one]; exact gi), ?_⟩
      rw [val_take_set (by omega), val_take_succ xc, pow_up w]
      exact back_row f4 (by simp [Nat.mod_one])
    case true =>
      simp only [compare', dec_true] at hs0
      refine go2 ?_
      refine idx_sl (by rfl) (by rfl) (by omega) (by omega) ?_
      refine go2 ?_
      refine ld_word (k := w) (by rfl) (by omega) (by simp; omega) ?_
      refine go2 ?_
      rw [addI1 w (by omega)]
      refine idx_sl (by rfl) (by rfl) (by omega) (by omega) ?_
      refine go2 ?_
      refine ld_word (k := w + 1) (by rfl) (by omega) (by omega) ?_
      refine go2 ?_
      rw [show arith .sub .u64 32 (s : Int) = ((32 - s : Nat) : Int) from subN 32 s (by omega) (by omega)]
      refine go2 ?_
      rw [shlU _ _ (by omega), w1, show at0 (rl.set w (at0 xc w / 2 ^ s)) w = at0 xc w / 2 ^ s by simp [at0, show w < rl.length by omega], w6]
      refine idx_sl (by rfl) (by rfl) (by omega) (by omega) ?_
      refine go2 ?_
      refine st_word (k := w) (by rfl) (by rfl) (by omega) (by simp; omega) ?_
      refine go2 ?_
      rw [addI1 w (by omega)]
      refine l_n (by rfl) (by omega) ⟨w + 1, _, rfl, rfl, rfl, by omega, by simp [f2], by rw [List.set_set]; exact f3.set w7, ?_⟩
      rw [List.set_set, val_take_set (by omega), val_take_succ xc, pow_up w]
      exact back_row f4 w5
  simp only [compare', dec_false] at hw
  have ew : w = k + 1 := by omega
  subst ew
  rw [val_all (l := rl) (by omega), e1, e2, Nat.zero_mod, Nat.mul_zero, Nat.add_zero, d2, Nat.mul_comm] at f4
  have hfin : val rl = val a % val b := Nat.eq_of_mul_eq_mul_right (Nat.pow_pos (by decide)) f4
  refine go2 ?_
  exact QWK.fz (fz_words out (by rfl) (by simp) (by simp) j4.symm (by rw [← j4]; exact List.take_of_length_le (by simp))) (fz_words rl (by rfl) (by simp) (by simp) f2.symm (by rw [← f2]; exact List.take_of_length_le (by simp))) (.imm out) j5 d1 (by omega) (.imm rl) f3 hfin (by omega)

end Go.Proofs.Ytjncgcnofiaiaaa
