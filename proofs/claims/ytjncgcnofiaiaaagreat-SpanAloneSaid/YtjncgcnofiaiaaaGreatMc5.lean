/-
  Powers of numbers and spans: what the answers are; num.Q.Pow, isoclineref01.Q.Pow.
-/
import Derived.Test.YtjncgcnofiaiaaaGreatMc4
/-
  num.quoWords with a divisor of two words or more.
-/
set_option linter.unusedVariables false
set_option linter.unusedSimpArgs false
namespace Go.Proofs.YtjncgcnofiaiaaaGreat
open Go.RowKit
set_option maxRecDepth 20000
theorem pow_up (n : Nat) : 4294967296 ^ (n + 1) = 4294967296 ^ n * 4294967296 := Nat.pow_succ ..
theorem shrU' (x s : Nat) (hs : s ≤ 32) : ((x : Nat) : Int).fdiv (2 ^ (min s IntKind.u32.bits)) = ((x / 2 ^ s : Nat) : Int) := by
  have := shrU x s hs
  rwa [Int.toNat_natCast] at this
structure EstF (xs yl : List Nat) (k : Nat) : Prop where
  start : (at0 xs (k + 1) * 4294967296 + at0 xs k) / at0 yl k ≤ 4294967297
  lo : val xs / val yl ≤ (at0 xs (k + 1) * 4294967296 + at0 xs k) / at0 yl k
  big : ∀ q, 4294967296 ≤ q → val xs / val yl ≤ q - 1
  round : ∀ q rest, q * at0 yl k + rest = at0 xs (k + 1) * 4294967296 + at0 xs k → q * at0 yl (k - 1) > rest * 4294967296 + at0 xs (k - 1) → val xs / val yl ≤ q - 1 ∧ 1 ≤ q
  fin : ∀ q rest, q * at0 yl k + rest = at0 xs (k + 1) * 4294967296 + at0 xs k → val xs / val yl ≤ q → q < 4294967296 → q * at0 yl (k - 1) ≤ rest * 4294967296 + at0 xs (k - 1) → Est (val xs) (val yl) q
  over : ∀ q rest, q * at0 yl k + rest = at0 xs (k + 1) * 4294967296 + at0 xs k → val xs / val yl ≤ q → q ≤ rest → Est (val xs) (val yl) q
  lt : val xs / val yl < 4294967296
  pos : 0 < val yl
theorem est_facts {xs yl : List Nat} {k : Nat} (lk : yl.length = k + 1) (lx : xs.length = k + 2) (h1 : 1 ≤ k) (ox : OkW xs) (oy : OkW yl) (htop : 2147483648 ≤ at0 yl k) (hlt : val xs < val yl * 4294967296) : EstF xs yl k := by
  have gn := oy.get (k - 1)
  have g2 := ox.get (k - 1)
  have hP : 0 < 4294967296 ^ (k - 1) := Nat.pow_pos (by decide)
  have hY := val_top2 (l := yl) (m := k - 1) (by omega)
  have hX := val_top3 (l := xs) (m := k - 1) (by omega)
  rw [show k - 1 + 1 = k by omega] at hY hX
  rw [show k - 1 + 2 = k + 1 by omega] at hX
  have hyl := val_lt (oy.take (k - 1))
  have hxl := val_lt (ox.take (k - 1))
  rw [show (yl.take (k - 1)).length = k - 1 by simp; omega] at hyl
  rw [show (xs.take (k - 1)).length = k - 1 by simp; omega] at hxl
  have hY0 : 0 < val yl := by
    rcases Nat.eq_zero_or_pos (val yl) with h | h
    · rw [h] at hlt
      omega
    · exact h
  have hQ : val xs / val yl < 4294967296 := by
    rw [Nat.div_lt_iff_lt_mul hY0, Nat.mul_comm]
    exact hlt
  have hQY : val xs / val yl * val yl ≤ val xs := Nat.div_mul_le_self _ _
  refine ⟨quo_le (head_le hP hX hY hyl hlt) htop gn, (Nat.le_div_iff_mul_le (by omega)).2 (est_start hP hX g2 hxl hY hQY), fun q h => Nat.le_trans (Nat.le_of_lt_succ hQ) (by omega), fun q rest e1 e3 => ?_, fun q rest e1 e2 e3 e4 => ⟨e2, est_end hP hX hY hyl (by omega) e1 (by omega) e4, e3⟩, fun q rest e1 e2 e4 => ?_, hQ, hY0⟩
  · have h1 : val xs / val yl < q := (Nat.div_lt_iff_lt_mul hY0).2 (est_round hP hX hxl hY e1 e3)
    exact ⟨Nat.le_sub_one_of_lt h1, Nat.lt_of_le_of_lt (Nat.zero_le _) h1⟩
  · have h1 := est_over' hP hX hY hyl gn e1 e4
    have h3 : q ≤ val xs / val yl := (Nat.le_div_iff_mul_le hY0).2 h1
    exact ⟨e2, Nat.le_trans h1 (Nat.le_add_right _ _), Nat.lt_of_le_of_lt h3 hQ⟩
theorem round_split {xs out : List Nat} {i k Y T : Nat} (ox : OkW xs) (hl : i + k + 1 ≤ xs.length) (hY : 0 < Y) (hYk : Y < 4294967296 ^ k) (h1 : val xs + 4294967296 ^ (i + 1) * val (out.drop (i + 1)) * Y = T) (h2 : val (xs.drop (i + 1)) < Y) (hi : i < out.length) :
    ∃ pre seg post : List Nat, xs = pre ++ seg ++ post ∧ pre.length = i ∧ seg.length = k + 1 ∧ OkW pre ∧ OkW seg ∧ OkW post ∧ val seg < Y * 4294967296 ∧ ∀ seg' : List Nat, seg'.length = k + 1 → val seg' = val seg % Y → val (pre ++ seg' ++ post) + 4294967296 ^ i * val ((out.set i (val seg / Y)).drop i) * Y = T ∧ val ((pre ++ seg' ++ post).drop i) < Y := by
  obtain ⟨q1, q2⟩ := parts_round (i := i) (k := k) (out := out) ox hl hY hYk h1 h2 hi
  exact ⟨_, _, _, (parts_eq xs i k).symm, by simp; omega, by simp; omega, ox.take _, (ox.drop i).take _, ox.drop _, q1, q2⟩
theorem top_great {b vl : List Nat} {s k : Nat} (nb : OkW b) (hk : b.length = k + 1) (n2 : 2147483648 ≤ at0 b k * 2 ^ s) (ov : OkW vl) (hv : vl.length = k + 1) (e : val vl = val b * 2 ^ s) : 2147483648 * 4294967296 ^ k ≤ val vl ∧ 2147483648 ≤ at0 vl k := by
  have eb := val_take_succ b k
  rw [val_all (by omega)] at eb
  have ev := val_take_succ vl k
  rw [val_all (by omega)] at ev
  have hlo := val_lt (ov.take k)
  rw [show (vl.take k).length = k by simp; omega] at hlo
  have h1 : 4294967296 ^ k * 2147483648 ≤ 4294967296 ^ k * (at0 b k * 2 ^ s) := Nat.mul_le_mul_left _ n2
  have h2 : val b * 2 ^ s = val (b.take k) * 2 ^ s + 4294967296 ^ k * (at0 b k * 2 ^ s) := by rw [eb, Nat.add_mul, Nat.mul_assoc]
  refine ⟨by rw [Nat.mul_comm]; omega, ?_⟩
  rcases Nat.lt_or_ge (at0 vl k) 2147483648 with h | h
  · have := Nat.mul_le_mul_left (4294967296 ^ k) h
    rw [Nat.mul_succ] at this
    omega
  · exact h
theorem okW_app {a b : List Nat} (h1 : OkW a) (h2 : OkW b) : OkW (a ++ b) := fun x hx => (List.mem_append.1 hx).elim (h1 x) (h2 x)
attribute [local irreducible] compare' semH semC qLen qNil qIad qSlc qIdx ldBox ldCells stBox appX awpF awpOpsF awpDF xopF xopDF qval lval seqQ blockQ loopQ bodyF retKF cnd arith IntKind.wrap

set_option maxHeartbeats 8000000 in
theorem num_quoWords_long {c d : C} {a b : List Nat} (hc : Wd c a) (hd : Wd d b) (na : Norm a) (nb : Norm b) (h2 : 2 ≤ b.length) (hl : a.length < 1073741824) (hv : ¬ val a < val b) : semC Tryz.prog n_num_quoWords [.c c, .c d] (QWK (val a) (val b) a.length) := by
  refine semC_of_awpF ok_num_quoWords rfl (show HFVs [.c c, .c d] from ⟨hc.hf, hd.hf, trivial⟩) ?_
  have hb0 : b ≠ [] := fun e => by rw [e] at h2; simp at h2
  have hab : b.length ≤ a.length := by
    rcases Nat.lt_or_ge a.length b.length with h | h
    · exact absurd (norm_lt na nb h) hv
    · exact h
  have hvb := val_pos nb hb0
  refine go2 ?_
  refine semH_of_semC (num_cmpWords hc hd na.1 nb.1 (by omega)) (fun u hu => ?_)
  obtain ⟨r, rfl, r1, r2, r3⟩ := hu
  have hr : 0 ≤ r := by
    rcases Nat.lt_trichotomy a.length b.length with h | h | h
    · omega
    · rw [r3 h]
      unfold sgn
      split
      · omega
      · split <;> omega
    · rw [r2 h]
      decide
  clear r1 r2 r3
  refine go2 ?_
  cases hq : compare' Cm.lss r 0
  case true =>
    simp [compare'] at hq
    omega
  clear hq hr
  refine go2 ?_
  cases hq1 : compare' Cm.eql (b.length : Int) 1
  case true =>
    simp [compare'] at hq1
    omega
  clear hq1
  refine go2 ?_
  rw [subI1 b.length (by omega) (by omega)]
  refine go2 ?_
  rw [Int.toNat_natCast]
  have gtop := nb.2 hb0
  have gb := nb.1.get (b.length - 1)
  refine semH_of_semC (bits_LeadingZeros32 gb (by omega)) (fun u hu => ?_)
  obtain ⟨s, rfl, n1, n2, n3⟩ := hu
  refine go2 ?_
  rw [nn n1, addI1 a.length (by omega)]
  refine x_mkSl (by rfl) (by rfl) ⟨by omega, by omega, by omega, by omega⟩ ?_
  rw [Int.toNat_natCast, zeros]
  refine go2 ?_
  refine x_mkSl (by rfl) (by rfl) ⟨by omega, by omega, by omega, by omega⟩ ?_
  rw [Int.toNat_natCast, zeros]
  refine go2 ?_
  refine f_loop (fun z vs H => ∃ (i : Nat) (vl : List Nat), vs = [.c c, .c d, u64 s, .c (.sl 0 0 (a.length + 1) (some (a.length + 1)) 1), .c (.sl 1 0 b.length (some b.length) 1), i64 b.length, i64 i] ∧ H = [.live ⟨(List.replicate (a.length + 1) 0).map W, T_uint32, .rw⟩, .live ⟨vl.map W, T_uint32, .rw⟩] ∧ z = b.length - i ∧ i ≤ b.length ∧ vl.length = b.length ∧ OkW vl ∧ val (vl.take i) + 4294967296 ^ i * ovr b s i = val (b.take i) * 2 ^ s) (by rfl) ⟨0, _, rfl, rfl, rfl, by omega, by simp, fun x hx => by simp at hx; omega, by simp [val, ovr]⟩ ?_
  rintro z vs H ⟨i, vl, rfl, rfl, rfl, v1, v2, v3, v4⟩
  refine go2 ?_
  cases hq2 : compare' Cm.lss (i : Int) (b.length : Int)
  case true =>
    simp [compare'] at hq2
    have gi := nb.1.get i
    refine go2 ?_
    rw [Int.toNat_natCast, shlU _ _ (by omega)]
    refine idx_sl (by rfl) (by rfl) (by omega) (by omega) ?_
    refine go2 ?_
    refine st_word (k := i) (by rfl) (by rfl) (by omega) (by omega) ?_
    refine go2 ?_
    cases hi0 : compare' Cm.gtr (i : Int) 0
    case false =>
      simp [compare'] at hi0
      subst hi0
      refine go2 ?_
      rw [addI1 0 (by omega)]
      refine l_n (by rfl) (by omega) ⟨0 + 1, _, rfl, rfl, rfl, by omega, by simp [v2], v3.set (Nat.mod_lt _ (by decide)), ?_⟩
      rw [val_take_set (by omega), val_take_succ b, pow_up 0]
      exact up_row v4 rfl
    case true =>
      simp [compare'] at hi0
      obtain ⟨j, rfl⟩ : ∃ j, i = j + 1 := ⟨i - 1, by omega⟩
      have gj := nb.1.get j
      obtain ⟨w1, w2⟩ := up_word (y := at0 b j) n1 gi gj
      refine go2 ?_
      cases hs0 : compare' Cm.gtr (s : Int) 0
      case false =>
        simp [compare'] at hs0
        subst hs0
        have hz : ovr b 0 (j + 1) = 0 := by
          show at0 b j * 2 ^ 0 / 4294967296 = 0
          rw [Nat.pow_zero, Nat.mul_one]
          exact Nat.div_eq_of_lt gj
        refine go2 ?_
        rw [addI1 (j + 1) (by omega)]
        refine l_n (by rfl) (by omega) ⟨j + 1 + 1, _, rfl, rfl, rfl, by omega, by simp [v2], v3.set (Nat.mod_lt _ (by decide)), ?_⟩
        rw [val_take_set (by omega), val_take_succ b, pow_up (j + 1)]
        exact up_row v4 (by rw [hz]; rfl)
      case true =>
        simp only [compare', dec_true] at hs0
        refine go2 ?_
        refine idx_sl (by rfl) (by rfl) (by omega) (by omega) ?_
        refine go2 ?_
        refine ld_word (k := j + 1) (by rfl) (by omega) (by simp; omega) ?_
        refine go2 ?_
        rw [subI1 (j + 1) (by omega) (by omega), show j + 1 - 1 = j by omega]
        refine idx_wd (by rfl) (by rfl) hd (by omega) (by omega) ?_
        refine go2 ?_
        rw [show arith .sub .u64 32 (s : Int) = ((32 - s : Nat) : Int) from subN 32 s (by omega) (by omega)]
        refine go2 ?_
        simp only [Int.toNat_natCast]
        rw [shrU' _ _ (by omega), ovr_shr n1, show at0 (vl.set (j + 1) (at0 b (j + 1) * 2 ^ s % 4294967296)) (j + 1) = at0 b (j + 1) * 2 ^ s % 4294967296 by simp [at0, show j + 1 < vl.length by omega], w1]
        refine idx_sl (by rfl) (by rfl) (by omega) (by omega) ?_
        refine go2 ?_
        refine st_word (k := j + 1) (by rfl) (by rfl) (by omega) (by simp; omega) ?_
        refine go2 ?_
        rw [addI1 (j + 1) (by omega)]
        refine l_n (by rfl) (by omega) ⟨j + 1 + 1, _, rfl, rfl, rfl, by omega, by simp [v2], by rw [List.set_set]; exact v3.set w2, ?_⟩
        rw [List.set_set, val_take_set (by omega), val_take_succ b, pow_up (j + 1)]
        exact up_row v4 rfl
  simp [compare'] at hq2
  have ei : i = b.length := by omega
  subst ei
  have hz : ovr b s b.length = 0 := by
    obtain ⟨j, hj⟩ : ∃ j, b.length = j + 1 := ⟨b.length - 1, by omega⟩
    rw [hj]
    show at0 b j * 2 ^ s / 4294967296 = 0
    rw [show j = b.length - 1 by omega]
    exact Nat.div_eq_of_lt n3
  rw [hz, Nat.mul_zero, Nat.add_zero, val_all (l := vl) (by omega), val_all (Nat.le_refl _)] at v4
  clear hz v1 hq2
  refine go2 ?_
  refine f_loop (fun z vs H => ∃ (i : Nat) (ul : List Nat), vs = [.c c, u64 s, .c (.sl 0 0 (a.length + 1) (some (a.length + 1)) 1), .c (.sl 1 0 b.length (some b.length) 1), i64 ((a.length + 1 : Nat) : Int), i64 i] ∧ H = [.live ⟨ul.map W, T_uint32, .rw⟩, .live ⟨vl.map W, T_uint32, .rw⟩] ∧ z = a.length + 1 - i ∧ i ≤ a.length + 1 ∧ ul.length = a.length + 1 ∧ OkW ul ∧ val (ul.take i) + 4294967296 ^ i * ovr a s i = val (a.take i) * 2 ^ s ∧ ∀ k, i ≤ k → at0 ul k = 0) (by rfl) ⟨0, _, rfl, rfl, rfl, by omega, by simp, fun x hx => by simp at hx; omega, by simp [val, ovr], fun k _ => at0_zeros _ k⟩ ?_
  rintro z vs H ⟨i, ul, rfl, rfl, rfl, u1, u2, u3, u4, u5⟩
  refine go2 ?_
  cases hq2 : compare' Cm.lss (i : Int) ((a.length + 1 : Nat) : Int)
  case true =>
    simp only [compare', dec_true] at hq2
    have gi := na.1.get i
    refine go2 ?_
    cases hq3 : compare' Cm.lss (i : Int) (a.length : Int)
    case true =>
      simp only [compare', dec_true] at hq3
      refine go2 ?_
      rw [Int.toNat_natCast, shlU _ _ (by omega)]
      refine idx_sl (by rfl) (by rfl) (by omega) (by omega) ?_
      refine go2 ?_
      refine st_word (k := i) (by rfl) (by rfl) (by omega) (by omega) ?_
      refine go2 ?_
      cases hi0 : compare' Cm.gtr (i : Int) 0
      case false =>
        simp [compare'] at hi0
        subst hi0
        refine go2 ?_
        rw [addI1 0 (by omega)]
        refine l_n (by rfl) (by omega) ⟨0 + 1, _, rfl, rfl, rfl, by omega, by simp [u2], u3.set (Nat.mod_lt _ (by decide)), ?_, fun k hk => ?_⟩
        · rw [val_take_set (by omega), val_take_succ a, pow_up 0]
          exact up_row u4 rfl
        · rw [at0_set (by omega)]; exact u5 k (by omega)
      case true =>
        simp [compare'] at hi0
        obtain ⟨j, rfl⟩ : ∃ j, i = j + 1 := ⟨i - 1, by omega⟩
        have gj := na.1.get j
        obtain ⟨w1, w2⟩ := up_word (y := at0 a j) n1 gi gj
        refine go2 ?_
        cases hs0 : compare' Cm.gtr (s : Int) 0
        case false =>
          simp [compare'] at hs0
          subst hs0
          have hz : ovr a 0 (j + 1) = 0 := by
            show at0 a j * 2 ^ 0 / 4294967296 = 0
            rw [Nat.pow_zero, Nat.mul_one]
            exact Nat.div_eq_of_lt gj
          refine go2 ?_
          rw [addI1 (j + 1) (by omega)]
          refine l_n (by rfl) (by omega) ⟨j + 1 + 1, _, rfl, rfl, rfl, by omega, by simp [u2], u3.set (Nat.mod_lt _ (by decide)), ?_, fun k hk => ?_⟩
          · rw [val_take_set (by omega), val_take_succ a, pow_up (j + 1)]
            exact up_row u4 (by rw [hz]; rfl)
          · rw [at0_set (by omega)]; exact u5 k (by omega)
        case true =>
          simp only [compare', dec_true] at hs0
          refine go2 ?_
          refine idx_sl (by rfl) (by rfl) (by omega) (by omega) ?_
          refine go2 ?_
          refine ld_word (k := j + 1) (by rfl) (by omega) (by simp; omega) ?_
          refine go2 ?_
          rw [subI1 (j + 1) (by omega) (by omega), show j + 1 - 1 = j by omega]
          refine idx_wd (by rfl) (by rfl) hc (by omega) (by omega) ?_
          refine go2 ?_
          rw [show arith .sub .u64 32 (s : Int) = ((32 - s : Nat) : Int) from subN 32 s (by omega) (by omega)]
          refine go2 ?_
          simp only [Int.toNat_natCast]
          rw [shrU' _ _ (by omega), ovr_shr n1, show at0 (ul.set (j + 1) (at0 a (j + 1) * 2 ^ s % 4294967296)) (j + 1) = at0 a (j + 1) * 2 ^ s % 4294967296 by simp [at0, show j + 1 < ul.length by omega], w1]
          refine idx_sl (by rfl) (by rfl) (by omega) (by omega) ?_
          refine go2 ?_
          refine st_word (k := j + 1) (by rfl) (by rfl) (by omega) (by simp; omega) ?_
          refine go2 ?_
          rw [addI1 (j + 1) (by omega)]
          refine l_n (by rfl) (by omega) ⟨j + 1 + 1, _, rfl, rfl, rfl, by omega, by simp [u2], by rw [List.set_set]; exact u3.set w2, ?_, fun k hk => ?_⟩
          · rw [List.set_set, val_take_set (by omega), val_take_succ a, pow_up (j + 1)]
            exact up_row u4 rfl
          · rw [List.set_set]; rw [at0_set (by omega)]
            exact u5 k (by omega)
    case false =>
      simp only [compare', dec_false] at hq3
      have ei : i = a.length := by omega
      have gz : at0 a i = 0 := at0_ge (by omega)
      refine go2 ?_
      cases hi0 : compare' Cm.gtr (i : Int) 0
      case false =>
        simp [compare'] at hi0
        subst hi0
        refine go2 ?_
        rw [addI1 0 (by omega)]
        refine l_n (by rfl) (by omega) ⟨0 + 1, _, rfl, rfl, rfl, by omega, u2, u3, ?_, fun k hk => ?_⟩
        · rw [val_take_succ ul, u5 _ (Nat.le_refl _), val_take_succ a, pow_up 0]
          exact up_row u4 (by rw [gz]; simp [ovr])
        · exact u5 k (by omega)
      case true =>
        simp [compare'] at hi0
        obtain ⟨j, rfl⟩ : ∃ j, i = j + 1 := ⟨i - 1, by omega⟩
        have gj := na.1.get j
        obtain ⟨w1, w2⟩ := up_word (y := at0 a j) n1 gi gj
        refine go2 ?_
        cases hs0 : compare' Cm.gtr (s : Int) 0
        case false =>
          simp [compare'] at hs0
          subst hs0
          have hz : ovr a 0 (j + 1) = 0 := by
            show at0 a j * 2 ^ 0 / 4294967296 = 0
            rw [Nat.pow_zero, Nat.mul_one]
            exact Nat.div_eq_of_lt gj
          refine go2 ?_
          rw [addI1 (j + 1) (by omega)]
          refine l_n (by rfl) (by omega) ⟨j + 1 + 1, _, rfl, rfl, rfl, by omega, u2, u3, ?_, fun k hk => ?_⟩
          · rw [val_take_succ ul, u5 _ (Nat.le_refl _), val_take_succ a, pow_up (j + 1)]
            exact up_row u4 (by simp [gz, hz])
          · exact u5 k (by omega)
        case true =>
          simp only [compare', dec_true] at hs0
          refine go2 ?_
          refine idx_sl (by rfl) (by rfl) (by omega) (by omega) ?_
          refine go2 ?_
          refine ld_word (k := j + 1) (by rfl) (by omega) (by omega) ?_
          refine go2 ?_
          rw [subI1 (j + 1) (by omega) (by omega), show j + 1 - 1 = j by omega]
          refine idx_wd (by rfl) (by rfl) hc (by omega) (by omega) ?_
          refine go2 ?_
          rw [show arith .sub .u64 32 (s : Int) = ((32 - s : Nat) : Int) from subN 32 s (by omega) (by omega)]
          refine go2 ?_
          simp only [Int.toNat_natCast]
          rw [shrU' _ _ (by omega), ovr_shr n1, show at0 ul (j + 1) = at0 a (j + 1) * 2 ^ s % 4294967296 by have h := u5 _ (Nat.le_refl (j + 1)); simp [h, gz], w1]
          refine idx_sl (by rfl) (by rfl) (by omega) (by omega) ?_
          refine go2 ?_
          refine st_word (k := j + 1) (by rfl) (by rfl) (by omega) (by omega) ?_
          refine go2 ?_
          rw [addI1 (j + 1) (by omega)]
          refine l_n (by rfl) (by omega) ⟨j + 1 + 1, _, rfl, rfl, rfl, by omega, by simp [u2], by exact u3.set w2, ?_, fun k hk => ?_⟩
          · rw [val_take_set (by omega), val_take_succ a, pow_up (j + 1)]
            exact up_row u4 rfl
          · rw [at0_set (by omega)]
            exact u5 k (by omega)
  simp only [compare', dec_false] at hq2
  have ei : i = a.length + 1 := by omega
  subst ei
  have hz : ovr a s (a.length + 1) = 0 := by
    show at0 a a.length * 2 ^ s / 4294967296 = 0
    rw [at0_ge (Nat.le_refl _)]
    simp
  rw [hz, Nat.mul_zero, Nat.add_zero, val_all (l := ul) (by omega), val_all (l := a) (by omega)] at u4
  clear hz u1 hq2 u5
  refine go2 ?_
  obtain ⟨k, hk⟩ : ∃ k, b.length = k + 1 := ⟨b.length - 1, by omega⟩
  obtain ⟨m, hm⟩ : ∃ m, a.length = m + (k + 1) := ⟨a.length - b.length, by omega⟩
  obtain ⟨t1, t2⟩ := top_great (k := k) (s := s) nb.1 hk (by rwa [show b.length - 1 = k by omega] at n2) v3 (by omega) v4
  have hst : val (ul.drop (m + 1)) < val vl := parts_start (k := k + 1) na.1 n1 (by omega) (by omega) u2 u4 (by simpa using t1)
  have hYk := val_lt v3
  have hY0 : 0 < val vl := Nat.lt_of_le_of_lt (Nat.zero_le _) hst
  rw [v2, hk] at hYk
  rw [hk] at v2
  rw [subI a.length b.length (by omega) hab, addI1 (a.length - b.length) (by omega), show a.length - b.length = m by omega, hk]
  refine x_mkSl (by rfl) (by rfl) ⟨by omega, by omega, by omega, by omega⟩ ?_
  rw [Int.toNat_natCast, zeros]
  refine go2 ?_
  rw [subI a.length (k + 1) (by omega) (by omega), show a.length - (k + 1) = m by omega]
  refine f_loop (fun z vs H => ∃ (j : Nat) (xc out : List Nat), vs = [u64 s, .c (.sl 0 0 (a.length + 1) (some (a.length + 1)) 1), .c (.sl 1 0 (k + 1) (some (k + 1)) 1), i64 ((k + 1 : Nat) : Int), .c (.sl 2 0 (m + 1) (some (m + 1)) 1), i64 ((j : Int) - 1)] ∧ H = [.live ⟨xc.map W, T_uint32, .rw⟩, .live ⟨vl.map W, T_uint32, .rw⟩, .live ⟨out.map W, T_uint32, .rw⟩] ∧ z = j ∧ j ≤ m + 1 ∧ xc.length = a.length + 1 ∧ OkW xc ∧ out.length = m + 1 ∧ OkW out ∧ val xc + 4294967296 ^ j * val (out.drop j) * val vl = val a * 2 ^ s ∧ val (xc.drop j) < val vl) (by rfl) ⟨m + 1, ul, _, ?_, rfl, rfl, Nat.le_refl _, u2, u3, by simp, fun x hx => by simp at hx; omega, ?_, hst⟩ ?_
  · rw [show ((m : Nat) : Int) = ((m + 1 : Nat) : Int) - 1 by omega]
    rfl
  · rw [List.drop_of_length_le (by simp), u4]
    simp [val]
  clear hst u4 u3 u2 ul
  rintro z vs H ⟨j, xc, out, rfl, rfl, rfl, j1, j2, j3, j4, j5, j6, j7⟩
  refine go2 ?_
  cases hq2 : compare' Cm.geq ((z : Int) - 1) 0
  case true =>
    simp [compare'] at hq2
    obtain ⟨i, rfl⟩ : ∃ i, z = i + 1 := ⟨z - 1, by omega⟩
    rw [show ((i + 1 : Nat) : Int) - 1 = (i : Int) by omega]
    obtain ⟨pre, seg, post, rfl, lpre, lseg, opre, oseg, opost, q1, q2⟩ := round_split (i := i) (k := k + 1) (out := out) j3 (by omega) hY0 hYk j6 j7 (by omega)
    have EF := est_facts (k := k) v2 lseg (by omega) oseg v3 t2 q1
    have hpl : pre.length + seg.length + post.length = a.length + 1 := by simpa [Nat.add_assoc] using j2
    have g0 := oseg.get (k + 1)
    have g1 := oseg.get k
    have g2 := oseg.get (k - 1)
    have gt := v3.get k
    have gn := v3.get (k - 1)
    have hXR : val seg < 4294967296 ^ (k + 2) := by
      have := val_lt oseg
      rwa [lseg] at this
    refine go2 ?_
    rw [addI i (k + 1) (by omega)]
    refine idx_sl (by rfl) (by rfl) (by omega) (by omega) ?_
    refine go2 ?_
    refine ld_mid (i := k + 1) (by rfl) (by omega) (by omega) ?_
    refine go2 ?_
    rw [addI i (k + 1) (by omega), subI1 (i + (k + 1)) (by omega) (by omega)]
    refine idx_sl (by rfl) (by rfl) (by omega) (by omega) ?_
    refine go2 ?_
    refine ld_mid (i := k) (by rfl) (by omega) (by omega) ?_
    refine go2 ?_
    rw [wrapN _ (by omega : at0 seg (k + 1) < 18446744073709551616), wrapN _ (by omega : at0 seg k < 18446744073709551616), shl32N _ g0, or_words g0 g1]
    refine go2 ?_
    rw [subI1 (k + 1) (by omega) (by omega), show k + 1 - 1 = k by omega]
    refine idx_sl (by rfl) (by rfl) (by omega) (by omega) ?_
    refine go2 ?_
    refine ld_word (k := k) (by rfl) (by omega) (by omega) ?_
    refine go2 ?_
    rw [wrapN _ (by omega : at0 vl k < 18446744073709551616)]
    refine q_ar (by rfl) (by rfl) (by simp [needs]; omega) ?_
    rw [quoN _ _ (by omega)]
    refine go2 ?_
    rw [subI1 (k + 1) (by omega) (by omega), show k + 1 - 1 = k by omega]
    refine idx_sl (by rfl) (by rfl) (by omega) (by omega) ?_
    refine go2 ?_
    refine ld_word (k := k) (by rfl) (by omega) (by omega) ?_
    refine go2 ?_
    rw [wrapN _ (by omega : at0 vl k < 18446744073709551616)]
    refine q_ar (by rfl) (by rfl) (by simp [needs]; omega) ?_
    rw [remN]
    refine go2 ?_
    have hmod := Nat.mod_lt (at0 seg (k + 1) * 4294967296 + at0 seg k) (by omega : 0 < at0 vl k)
    refine f_loop (fun z vs H => ∃ q r : Nat, vs = [u64 s, .c (.sl 0 0 (a.length + 1) (some (a.length + 1)) 1), .c (.sl 1 0 (k + 1) (some (k + 1)) 1), i64 ((k + 1 : Nat) : Int), .c (.sl 2 0 (m + 1) (some (m + 1)) 1), i64 i, u64 q, u64 r] ∧ H = [.live ⟨(pre ++ seg ++ post).map W, T_uint32, .rw⟩, .live ⟨vl.map W, T_uint32, .rw⟩, .live ⟨out.map W, T_uint32, .rw⟩] ∧ z = q ∧ q * at0 vl k + r = at0 seg (k + 1) * 4294967296 + at0 seg k ∧ val seg / val vl ≤ q ∧ q ≤ 4294967297 ∧ r < 4294967296) (by rfl) ⟨_, _, rfl, rfl, rfl, by rw [Nat.mul_comm]; exact Nat.div_add_mod _ _, EF.lo, EF.start, by omega⟩ ?_
    clear hmod
    rintro z vs H ⟨q, r, rfl, rfl, rfl, p1, p2, p3, p4⟩
    refine go2 ?_
    cases hg : compare' Cm.geq (z : Int) 4294967296
    case true =>
      simp only [compare', dec_true] at hg
      have h1 : val seg / val vl ≤ z - 1 := EF.big z (by omega)
      have h2 : 1 ≤ z := by omega
      refine go2 ?_
      have h3 : (z - 1) * at0 vl k + (r + at0 vl k) = at0 seg (k + 1) * 4294967296 + at0 seg k := by
        have e1 := Nat.sub_mul z 1 (at0 vl k)
        have e2 := Nat.mul_le_mul_right (at0 vl k) h2
        omega
      rw [subN1 z (by omega) h2, subI1 (k + 1) (by omega) (by omega), show k + 1 - 1 = k by omega]
      refine idx_sl (by rfl) (by rfl) (by omega) (by omega) ?_
      refine go2 ?_
      refine ld_word (k := k) (by rfl) (by omega) (by omega) ?_
      refine go2 ?_
      rw [wrapN _ (by omega : at0 vl k < 18446744073709551616), addN _ _ (by omega)]
      cases hr2 : compare' Cm.geq ((r + at0 vl k : Nat) : Int) 4294967296
      case false =>
        simp only [compare', dec_false] at hr2
        refine go2 ?_
        exact l_n (by rfl) (by omega) ⟨z - 1, r + at0 vl k, rfl, rfl, rfl, h3, h1, by omega, by omega⟩
      case true =>
        simp only [compare', dec_true] at hr2
        have E := EF.over (z - 1) (r + at0 vl k) h3 h1 (by omega)
        refine go2 ?_
        refine f_loop (fun y vs H => ∃ (w bo carry : Nat) (cur : List Nat), vs = [u64 s, .c (.sl 0 0 (a.length + 1) (some (a.length + 1)) 1), .c (.sl 1 0 (k + 1) (some (k + 1)) 1), i64 ((k + 1 : Nat) : Int), .c (.sl 2 0 (m + 1) (some (m + 1)) 1), i64 i, u64 (z - 1), i64 bo, u64 carry, i64 ((k + 1 : Nat) : Int), i64 w] ∧ H = [.live ⟨(pre ++ cur ++ post).map W, T_uint32, .rw⟩, .live ⟨vl.map W, T_uint32, .rw⟩, .live ⟨out.map W, T_uint32, .rw⟩] ∧ y = k + 1 - w ∧ w ≤ k + 1 ∧ cur.length = k + 2 ∧ OkW cur ∧ bo ≤ 1 ∧ carry < 4294967296 ∧ val (cur.take w) + (z - 1) * val (vl.take w) = val (seg.take w) + 4294967296 ^ w * (carry + bo) ∧ ∀ j, w ≤ j → at0 cur j = at0 seg j) (by rfl) ⟨0, 0, 0, seg, rfl, rfl, rfl, by omega, lseg, oseg, by omega, by omega, by simp [val], fun _ _ => rfl⟩ ?_
        rintro y vs H ⟨w, bo, carry, cur, rfl, rfl, rfl, c1, c2, c3, c4, c5, c6, c7⟩
        have gc := c3.get w
        have gv := v3.get w
        refine go2 ?_
        cases hw : compare' Cm.lss (w : Int) ((k + 1 : Nat) : Int)
        case true =>
          simp only [compare', dec_true] at hw
          have hmm : (z - 1) * at0 vl w + carry < 18446744073709551616 := by
            have := Nat.mul_le_mul (Nat.le_of_lt_succ E.lt) (Nat.le_of_lt_succ gv)
            omega
          refine go2 ?_
          refine idx_sl (by rfl) (by rfl) (by omega) (by omega) ?_
          refine go2 ?_
          refine ld_word (k := w) (by rfl) (by omega) (by omega) ?_
          refine go2 ?_
          rw [wrapN _ (by omega : at0 vl w < 18446744073709551616), mulN _ _ (by omega), addN _ _ hmm]
          refine go2 ?_
          rw [shrN, addI w i (by omega)]
          refine idx_sl (by rfl) (by rfl) (by omega) (by omega) ?_
          refine go2 ?_
          refine ld_mid (i := w) (by rfl) (by omega) (by omega) ?_
          refine go2 ?_
          obtain ⟨d, w', b', e1, e2, e3, x1, x2, x3⟩ := sub_i64 (x := at0 cur w) (s := ((z - 1) * at0 vl w + carry) % 4294967296) (bo := bo) gc (Nat.mod_lt _ (by decide)) c4
          rw [i64N _ (by omega : at0 cur w < 9223372036854775808), u32N, i64N _ (by omega : ((z - 1) * at0 vl w + carry) % 4294967296 < 9223372036854775808), e1]
          refine go2 ?_
          rw [e2, addI w i (by omega)]
          refine idx_sl (by rfl) (by rfl) (by omega) (by omega) ?_
          refine go2 ?_
          refine st_mid (i := w) (by rfl) (by rfl) (by omega) (by omega) ?_
          refine go2 ?_
          have hrow := sub_row (t := (z - 1) * at0 vl w + carry) (y := at0 vl w) c6 (Nat.add_comm _ _) x3
          cases hd : compare' Cm.lss d 0
          case true =>
            simp only [compare', dec_true] at hd
            have hb1 := e3.1 hd
            subst hb1
            refine go2 ?_
            rw [addI1 w (by omega)]
            refine l_n (by rfl) (by omega) ⟨w + 1, 1, ((z - 1) * at0 vl w + carry) / 4294967296, cur.set w w', rfl, rfl, rfl, by omega, by simp [c2], c3.set x1, by omega, by omega, ?_, fun j hj => ?_⟩
            · rw [val_take_set (by omega), val_take_succ vl, val_take_succ seg, pow_up w, ← c7 w (Nat.le_refl w)]
              exact hrow
            · rw [at0_set (by omega)]
              exact c7 j (by omega)
          case false =>
            simp only [compare', dec_false] at hd
            have hb1 : b' = 0 := by
              rcases Nat.lt_or_ge b' 1 with h | h
              · omega
              · exact absurd (e3.2 (by omega)) hd
            subst hb1
            refine go2 ?_
            rw [addI1 w (by omega)]
            refine l_n (by rfl) (by omega) ⟨w + 1, 0, ((z - 1) * at0 vl w + carry) / 4294967296, cur.set w w', rfl, rfl, rfl, by omega, by simp [c2], c3.set x1, by omega, by omega, ?_, fun j hj => ?_⟩
            · rw [val_take_set (by omega), val_take_succ vl, val_take_succ seg, pow_up w, ← c7 w (Nat.le_refl w)]
              exact hrow
            · rw [at0_set (by omega)]
              exact c7 j (by omega)
        simp only [compare', dec_false] at hw
        have ew : w = k + 1 := by omega
        subst ew
        refine go2 ?_
        rw [addI i (k + 1) (by omega)]
        refine idx_sl (by rfl) (by rfl) (by omega) (by omega) ?_
        refine go2 ?_
        refine ld_mid (i := k + 1) (by rfl) (by omega) (by omega) ?_
        refine go2 ?_
        obtain ⟨d, w', b', e1, e2, e3, x1, x2, x3⟩ := sub_i64 (x := at0 cur (k + 1)) (s := carry) (bo := bo) gc c5 c4
        rw [i64N _ (by omega : at0 cur (k + 1) < 9223372036854775808), i64N _ (by omega : carry < 9223372036854775808), e1]
        refine go2 ?_
        rw [e2, addI i (k + 1) (by omega)]
        refine idx_sl (by rfl) (by rfl) (by omega) (by omega) ?_
        refine go2 ?_
        refine st_mid (i := k + 1) (by rfl) (by rfl) (by omega) (by omega) ?_
        refine go2 ?_
        have hrow := sub_row (t := carry) (y := 0) c6 (by rw [Nat.mul_zero, Nat.add_zero]) (by rw [Nat.mod_eq_of_lt c5]; exact x3)
        rw [c7 (k + 1) (Nat.le_refl _), Nat.mul_zero, Nat.add_zero, Nat.div_eq_of_lt c5, ← val_take_set (by omega), ← val_take_succ seg, ← pow_up (k + 1), val_all (l := cur.set (k + 1) w') (by simp; omega), val_all (l := seg) (by omega), val_all (l := vl) (by omega)] at hrow
        have ocs : OkW (cur.set (k + 1) w') := c3.set x1
        have lcs : (cur.set (k + 1) w').length = k + 2 := by simp [c2]
        generalize cur.set (k + 1) w' = cs at hrow ocs lcs
        have hC := val_lt ocs
        rw [lcs] at hC
        obtain ⟨z1, z2⟩ := word_end (q := (z - 1)) (c := val cs) hY0 E.lo E.hi hC hXR
        clear c1 c2 c3 c4 c5 c6 c7 gc gv e1 e2 x3
        cases hd : compare' Cm.lss d 0
        case false =>
          simp only [compare', dec_false] at hd
          have hb1 : b' = 0 := by
            rcases Nat.lt_or_ge b' 1 with h | h
            · omega
            · exact absurd (e3.2 (by omega)) hd
          subst hb1
          obtain ⟨y1, y2⟩ := z1 hrow
          obtain ⟨y3, y4⟩ := q2 cs (by omega) y2
          refine go2 ?_
          rw [u32N, y1, Nat.mod_eq_of_lt EF.lt]
          refine idx_sl (by rfl) (by rfl) (by omega) (by omega) ?_
          refine go2 ?_
          refine st_word (k := i) (by rfl) (by rfl) (by omega) (by omega) ?_
          refine go2 ?_
          refine l_n (by rfl) (by omega) ⟨i, pre ++ cs ++ post, out.set i (val seg / val vl), ?_, rfl, rfl, by omega, by simp; omega, okW_app (okW_app opre ocs) opost, by simp [j4], j5.set EF.lt, y3, y4⟩
          rw [show arith .sub .i64 ((i : Nat) : Int) 1 = (i : Int) - 1 by rw [ar_sub, wrap_i64 (by omega) (by omega)]]
          rfl
        case true =>
          simp only [compare', dec_true] at hd
          have hb1 := e3.1 hd
          subst hb1
          obtain ⟨y1, y2, y3⟩ := z2 hrow
          refine go2 ?_
          rw [subN1 (z - 1) (by omega) y2]
          refine f_loop (fun y vs H => ∃ (w carry : Nat) (c2 : List Nat), vs = [u64 s, .c (.sl 0 0 (a.length + 1) (some (a.length + 1)) 1), .c (.sl 1 0 (k + 1) (some (k + 1)) 1), i64 ((k + 1 : Nat) : Int), .c (.sl 2 0 (m + 1) (some (m + 1)) 1), i64 i, u64 ((z - 1) - 1), u64 carry, i64 ((k + 1 : Nat) : Int), i64 w] ∧ H = [.live ⟨(pre ++ c2 ++ post).map W, T_uint32, .rw⟩, .live ⟨vl.map W, T_uint32, .rw⟩, .live ⟨out.map W, T_uint32, .rw⟩] ∧ y = k + 1 - w ∧ w ≤ k + 1 ∧ c2.length = k + 2 ∧ OkW c2 ∧ carry ≤ 1 ∧ val (c2.take w) + 4294967296 ^ w * carry = val (cs.take w) + val (vl.take w) ∧ ∀ j, w ≤ j → at0 c2 j = at0 cs j) (by rfl) ⟨0, 0, cs, rfl, rfl, rfl, by omega, lcs, ocs, by omega, by simp [val], fun _ _ => rfl⟩ ?_
          rintro y vs H ⟨w, carry, c2, rfl, rfl, rfl, f1, f2, f3, f4, f5, f6⟩
          have gc := f3.get w
          have gv := v3.get w
          refine go2 ?_
          cases hw : compare' Cm.lss (w : Int) ((k + 1 : Nat) : Int)
          case true =>
            simp only [compare', dec_true] at hw
            refine go2 ?_
            rw [addI w i (by omega)]
            refine idx_sl (by rfl) (by rfl) (by omega) (by omega) ?_
            refine go2 ?_
            refine ld_mid (i := w) (by rfl) (by omega) (by omega) ?_
            refine go2 ?_
            refine idx_sl (by rfl) (by rfl) (by omega) (by omega) ?_
            refine go2 ?_
            refine ld_word (k := w) (by rfl) (by omega) (by omega) ?_
            refine go2 ?_
            rw [wrapN _ (by omega : at0 c2 w < 18446744073709551616), wrapN _ (by omega : at0 vl w < 18446744073709551616), addN _ _ (by omega), addN _ _ (by omega)]
            refine go2 ?_
            rw [u32N, addI w i (by omega)]
            refine idx_sl (by rfl) (by rfl) (by omega) (by omega) ?_
            refine go2 ?_
            refine st_mid (i := w) (by rfl) (by rfl) (by omega) (by omega) ?_
            refine go2 ?_
            rw [shrN, addI1 w (by omega)]
            refine l_n (by rfl) (by omega) ⟨w + 1, _, c2.set w ((at0 c2 w + at0 vl w + carry) % 4294967296), rfl, rfl, rfl, by omega, by simp [f2], f3.set (Nat.mod_lt _ (by decide)), by omega, ?_, fun j hj => ?_⟩
            · rw [val_take_set (by omega), val_take_succ vl, val_take_succ cs, pow_up w, ← f6 w (Nat.le_refl w)]
              exact add_row f5 (by omega)
            · rw [at0_set (by omega)]
              exact f6 j (by omega)
          simp only [compare', dec_false] at hw
          have ew : w = k + 1 := by omega
          subst ew
          refine go2 ?_
          rw [addI i (k + 1) (by omega)]
          refine idx_sl (by rfl) (by rfl) (by omega) (by omega) ?_
          refine go2 ?_
          refine ld_mid (i := k + 1) (by rfl) (by omega) (by omega) ?_
          refine go2 ?_
          rw [u32N, Nat.mod_eq_of_lt (by omega : carry < 4294967296), show arith .add .u32 ((at0 c2 (k + 1) : Nat) : Int) (carry : Int) = (((at0 c2 (k + 1) + carry) % 4294967296 : Nat) : Int) by rw [ar_add, wrap_u32]; omega]
          refine idx_sl (by rfl) (by rfl) (by omega) (by omega) ?_
          refine go2 ?_
          refine st_mid (i := k + 1) (by rfl) (by rfl) (by omega) (by omega) ?_
          refine go2 ?_
          have hrow2 := add_row (x := at0 c2 (k + 1)) (y := 0) f5 rfl
          rw [Nat.mul_zero, Nat.add_zero, Nat.add_zero, Nat.add_comm carry, ← val_take_set (l := c2) (by omega), f6 (k + 1) (Nat.le_refl _), ← val_take_succ cs, ← pow_up (k + 1), val_all (l := c2.set (k + 1) _) (by simp; omega), val_all (l := cs) (by omega), val_all (l := vl) (by omega)] at hrow2
          rw [f6 (k + 1) (Nat.le_refl _)]
          have oc2 : OkW (c2.set (k + 1) ((at0 cs (k + 1) + carry) % 4294967296)) := f3.set (Nat.mod_lt _ (by decide))
          have lc2 : (c2.set (k + 1) ((at0 cs (k + 1) + carry) % 4294967296)).length = k + 2 := by simp [f2]
          have gcs := ocs.get (k + 1)
          generalize c2.set (k + 1) ((at0 cs (k + 1) + carry) % 4294967296) = ce at hrow2 oc2 lc2 ⊢
          have hC2 := val_lt oc2
          rw [lc2] at hC2
          have hfin := back_end hY0 (Nat.lt_of_lt_of_le hYk (Nat.pow_le_pow_right (by decide) (Nat.le_succ _))) hC2 y3 (show (at0 cs (k + 1) + carry) / 4294967296 ≤ 1 by omega) hrow2
          obtain ⟨y4, y5⟩ := q2 ce (by omega) hfin
          rw [u32N, y1, Nat.mod_eq_of_lt EF.lt]
          refine idx_sl (by rfl) (by rfl) (by omega) (by omega) ?_
          refine go2 ?_
          refine st_word (k := i) (by rfl) (by rfl) (by omega) (by omega) ?_
          refine go2 ?_
          refine l_n (by rfl) (by omega) ⟨i, pre ++ ce ++ post, out.set i (val seg / val vl), ?_, rfl, rfl, by omega, by simp; omega, okW_app (okW_app opre oc2) opost, by simp [j4], j5.set EF.lt, y4, y5⟩
          rw [show arith .sub .i64 ((i : Nat) : Int) 1 = (i : Int) - 1 by rw [ar_sub, wrap_i64 (by omega) (by omega)]]
          rfl
    case false =>
      simp only [compare', dec_false] at hg
      refine go2 ?_
      rw [subI2 (k + 1) (by omega) (by omega), show k + 1 - 2 = k - 1 by omega]
      refine idx_sl (by rfl) (by rfl) (by omega) (by omega) ?_
      refine go2 ?_
      refine ld_word (k := k - 1) (by rfl) (by omega) (by omega) ?_
      refine go2 ?_
      have hm : z * at0 vl (k - 1) < 18446744073709551616 := by
        have := Nat.mul_le_mul (show z ≤ 4294967295 by omega) (Nat.le_of_lt_succ gn)
        omega
      rw [addI i (k + 1) (by omega), subI2 (i + (k + 1)) (by omega) (by omega)]
      refine idx_sl (by rfl) (by rfl) (by omega) (by omega) ?_
      refine go2 ?_
      refine ld_mid (i := k - 1) (by rfl) (by omega) (by omega) ?_
      refine go2 ?_
      rw [wrapN _ (by omega : at0 vl (k - 1) < 18446744073709551616), mulN _ _ hm, wrapN _ (by omega : at0 seg (k - 1) < 18446744073709551616), shl32N _ p4, or_words p4 g2]
      cases hg2 : compare' Cm.gtr ((z * at0 vl (k - 1) : Nat) : Int) ((r * 4294967296 + at0 seg (k - 1) : Nat) : Int)
      case true =>
        simp only [compare', dec_true] at hg2
        obtain ⟨h1, h2⟩ := EF.round z r p1 (by omega)
        refine go2 ?_
        have h3 : (z - 1) * at0 vl k + (r + at0 vl k) = at0 seg (k + 1) * 4294967296 + at0 seg k := by
          have e1 := Nat.sub_mul z 1 (at0 vl k)
          have e2 := Nat.mul_le_mul_right (at0 vl k) h2
          omega
        rw [subN1 z (by omega) h2, subI1 (k + 1) (by omega) (by omega), show k + 1 - 1 = k by omega]
        refine idx_sl (by rfl) (by rfl) (by omega) (by omega) ?_
        refine go2 ?_
        refine ld_word (k := k) (by rfl) (by omega) (by omega) ?_
        refine go2 ?_
        rw [wrapN _ (by omega : at0 vl k < 18446744073709551616), addN _ _ (by omega)]
        cases hr2 : compare' Cm.geq ((r + at0 vl k : Nat) : Int) 4294967296
        case false =>
          simp only [compare', dec_false] at hr2
          refine go2 ?_
          exact l_n (by rfl) (by omega) ⟨z - 1, r + at0 vl k, rfl, rfl, rfl, h3, h1, by omega, by omega⟩
        case true =>
          simp only [compare', dec_true] at hr2
          have E := EF.over (z - 1) (r + at0 vl k) h3 h1 (by omega)
          refine go2 ?_
          refine f_loop (fun y vs H => ∃ (w bo carry : Nat) (cur : List Nat), vs = [u64 s, .c (.sl 0 0 (a.length + 1) (some (a.length + 1)) 1), .c (.sl 1 0 (k + 1) (some (k + 1)) 1), i64 ((k + 1 : Nat) : Int), .c (.sl 2 0 (m + 1) (some (m + 1)) 1), i64 i, u64 (z - 1), i64 bo, u64 carry, i64 ((k + 1 : Nat) : Int), i64 w] ∧ H = [.live ⟨(pre ++ cur ++ post).map W, T_uint32, .rw⟩, .live ⟨vl.map W, T_uint32, .rw⟩, .live ⟨out.map W, T_uint32, .rw⟩] ∧ y = k + 1 - w ∧ w ≤ k + 1 ∧ cur.length = k + 2 ∧ OkW cur ∧ bo ≤ 1 ∧ carry < 4294967296 ∧ val (cur.take w) + (z - 1) * val (vl.take w) = val (seg.take w) + 4294967296 ^ w * (carry + bo) ∧ ∀ j, w ≤ j → at0 cur j = at0 seg j) (by rfl) ⟨0, 0, 0, seg, rfl, rfl, rfl, by omega, lseg, oseg, by omega, by omega, by simp [val], fun _ _ => rfl⟩ ?_
          rintro y vs H ⟨w, bo, carry, cur, rfl, rfl, rfl, c1, c2, c3, c4, c5, c6, c7⟩
          have gc := c3.get w
          have gv := v3.get w
          refine go2 ?_
          cases hw : compare' Cm.lss (w : Int) ((k + 1 : Nat) : Int)
          case true =>
            simp only [compare', dec_true] at hw
            have hmm : (z - 1) * at0 vl w + carry < 18446744073709551616 := by
              have := Nat.mul_le_mul (Nat.le_of_lt_succ E.lt) (Nat.le_of_lt_succ gv)
              omega
            refine go2 ?_
            refine idx_sl (by rfl) (by rfl) (by omega) (by omega) ?_
            refine go2 ?_
            refine ld_word (k := w) (by rfl) (by omega) (by omega) ?_
            refine go2 ?_
            rw [wrapN _ (by omega : at0 vl w < 18446744073709551616), mulN _ _ (by omega), addN _ _ hmm]
            refine go2 ?_
            rw [shrN, addI w i (by omega)]
            refine idx_sl (by rfl) (by rfl) (by omega) (by omega) ?_
            refine go2 ?_
            refine ld_mid (i := w) (by rfl) (by omega) (by omega) ?_
            refine go2 ?_
            obtain ⟨d, w', b', e1, e2, e3, x1, x2, x3⟩ := sub_i64 (x := at0 cur w) (s := ((z - 1) * at0 vl w + carry) % 4294967296) (bo := bo) gc (Nat.mod_lt _ (by decide)) c4
            rw [i64N _ (by omega : at0 cur w < 9223372036854775808), u32N, i64N _ (by omega : ((z - 1) * at0 vl w + carry) % 4294967296 < 9223372036854775808), e1]
            refine go2 ?_
            rw [e2, addI w i (by omega)]
            refine idx_sl (by rfl) (by rfl) (by omega) (by omega) ?_
            refine go2 ?_
            refine st_mid (i := w) (by rfl) (by rfl) (by omega) (by omega) ?_
            refine go2 ?_
            have hrow := sub_row (t := (z - 1) * at0 vl w + carry) (y := at0 vl w) c6 (Nat.add_comm _ _) x3
            cases hd : compare' Cm.lss d 0
            case true =>
              simp only [compare', dec_true] at hd
              have hb1 := e3.1 hd
              subst hb1
              refine go2 ?_
              rw [addI1 w (by omega)]
              refine l_n (by rfl) (by omega) ⟨w + 1, 1, ((z - 1) * at0 vl w + carry) / 4294967296, cur.set w w', rfl, rfl, rfl, by omega, by simp [c2], c3.set x1, by omega, by omega, ?_, fun j hj => ?_⟩
              · rw [val_take_set (by omega), val_take_succ vl, val_take_succ seg, pow_up w, ← c7 w (Nat.le_refl w)]
                exact hrow
              · rw [at0_set (by omega)]
                exact c7 j (by omega)
            case false =>
              simp only [compare', dec_false] at hd
              have hb1 : b' = 0 := by
                rcases Nat.lt_or_ge b' 1 with h | h
                · omega
                · exact absurd (e3.2 (by omega)) hd
              subst hb1
              refine go2 ?_
              rw [addI1 w (by omega)]
              refine l_n (by rfl) (by omega) ⟨w + 1, 0, ((z - 1) * at0 vl w + carry) / 4294967296, cur.set w w', rfl, rfl, rfl, by omega, by simp [c2], c3.set x1, by omega, by omega, ?_, fun j hj => ?_⟩
              · rw [val_take_set (by omega), val_take_succ vl, val_take_succ seg, pow_up w, ← c7 w (Nat.le_refl w)]
                exact hrow
              · rw [at0_set (by omega)]
                exact c7 j (by omega)
          simp only [compare', dec_false] at hw
          have ew : w = k + 1 := by omega
          subst ew
          refine go2 ?_
          rw [addI i (k + 1) (by omega)]
          refine idx_sl (by rfl) (by rfl) (by omega) (by omega) ?_
          refine go2 ?_
          refine ld_mid (i := k + 1) (by rfl) (by omega) (by omega) ?_
          refine go2 ?_
          obtain ⟨d, w', b', e1, e2, e3, x1, x2, x3⟩ := sub_i64 (x := at0 cur (k + 1)) (s := carry) (bo := bo) gc c5 c4
          rw [i64N _ (by omega : at0 cur (k + 1) < 9223372036854775808), i64N _ (by omega : carry < 9223372036854775808), e1]
          refine go2 ?_
          rw [e2, addI i (k + 1) (by omega)]
          refine idx_sl (by rfl) (by rfl) (by omega) (by omega) ?_
          refine go2 ?_
          refine st_mid (i := k + 1) (by rfl) (by rfl) (by omega) (by omega) ?_
          refine go2 ?_
          have hrow := sub_row (t := carry) (y := 0) c6 (by rw [Nat.mul_zero, Nat.add_zero]) (by rw [Nat.mod_eq_of_lt c5]; exact x3)
          rw [c7 (k + 1) (Nat.le_refl _), Nat.mul_zero, Nat.add_zero, Nat.div_eq_of_lt c5, ← val_take_set (by omega), ← val_take_succ seg, ← pow_up (k + 1), val_all (l := cur.set (k + 1) w') (by simp; omega), val_all (l := seg) (by omega), val_all (l := vl) (by omega)] at hrow
          have ocs : OkW (cur.set (k + 1) w') := c3.set x1
          have lcs : (cur.set (k + 1) w').length = k + 2 := by simp [c2]
          generalize cur.set (k + 1) w' = cs at hrow ocs lcs
          have hC := val_lt ocs
          rw [lcs] at hC
          obtain ⟨z1, z2⟩ := word_end (q := (z - 1)) (c := val cs) hY0 E.lo E.hi hC hXR
          clear c1 c2 c3 c4 c5 c6 c7 gc gv e1 e2 x3
          cases hd : compare' Cm.lss d 0
          case false =>
            simp only [compare', dec_false] at hd
            have hb1 : b' = 0 := by
              rcases Nat.lt_or_ge b' 1 with h | h
              · omega
              · exact absurd (e3.2 (by omega)) hd
            subst hb1
            obtain ⟨y1, y2⟩ := z1 hrow
            obtain ⟨y3, y4⟩ := q2 cs (by omega) y2
            refine go2 ?_
            rw [u32N, y1, Nat.mod_eq_of_lt EF.lt]
            refine idx_sl (by rfl) (by rfl) (by omega) (by omega) ?_
            refine go2 ?_
            refine st_word (k := i) (by rfl) (by rfl) (by omega) (by omega) ?_
            refine go2 ?_
            refine l_n (by rfl) (by omega) ⟨i, pre ++ cs ++ post, out.set i (val seg / val vl), ?_, rfl, rfl, by omega, by simp; omega, okW_app (okW_app opre ocs) opost, by simp [j4], j5.set EF.lt, y3, y4⟩
            rw [show arith .sub .i64 ((i : Nat) : Int) 1 = (i : Int) - 1 by rw [ar_sub, wrap_i64 (by omega) (by omega)]]
            rfl
          case true =>
            simp only [compare', dec_true] at hd
            have hb1 := e3.1 hd
            subst hb1
            obtain ⟨y1, y2, y3⟩ := z2 hrow
            refine go2 ?_
            rw [subN1 (z - 1) (by omega) y2]
            refine f_loop (fun y vs H => ∃ (w carry : Nat) (c2 : List Nat), vs = [u64 s, .c (.sl 0 0 (a.length + 1) (some (a.length + 1)) 1), .c (.sl 1 0 (k + 1) (some (k + 1)) 1), i64 ((k + 1 : Nat) : Int), .c (.sl 2 0 (m + 1) (some (m + 1)) 1), i64 i, u64 ((z - 1) - 1), u64 carry, i64 ((k + 1 : Nat) : Int), i64 w] ∧ H = [.live ⟨(pre ++ c2 ++ post).map W, T_uint32, .rw⟩, .live ⟨vl.map W, T_uint32, .rw⟩, .live ⟨out.map W, T_uint32, .rw⟩] ∧ y = k + 1 - w ∧ w ≤ k + 1 ∧ c2.length = k + 2 ∧ OkW c2 ∧ carry ≤ 1 ∧ val (c2.take w) + 4294967296 ^ w * carry = val (cs.take w) + val (vl.take w) ∧ ∀ j, w ≤ j → at0 c2 j = at0 cs j) (by rfl) ⟨0, 0, cs, rfl, rfl, rfl, by omega, lcs, ocs, by omega, by simp [val], fun _ _ => rfl⟩ ?_
            rintro y vs H ⟨w, carry, c2, rfl, rfl, rfl, f1, f2, f3, f4, f5, f6⟩
            have gc := f3.get w
            have gv := v3.get w
            refine go2 ?_
            cases hw : compare' Cm.lss (w : Int) ((k + 1 : Nat) : Int)
            case true =>
              simp only [compare', dec_true] at hw
              refine go2 ?_
              rw [addI w i (by omega)]
              refine idx_sl (by rfl) (by rfl) (by omega) (by omega) ?_
              refine go2 ?_
              refine ld_mid (i := w) (by rfl) (by omega) (by omega) ?_
              refine go2 ?_
              refine idx_sl (by rfl) (by rfl) (by omega) (by omega) ?_
              refine go2 ?_
              refine ld_word (k := w) (by rfl) (by omega) (by omega) ?_
              refine go2 ?_
              rw [wrapN _ (by omega : at0 c2 w < 18446744073709551616), wrapN _ (by omega : at0 vl w < 18446744073709551616), addN _ _ (by omega), addN _ _ (by omega)]
              refine go2 ?_
              rw [u32N, addI w i (by omega)]
              refine idx_sl (by rfl) (by rfl) (by omega) (by omega) ?_
              refine go2 ?_
              refine st_mid (i := w) (by rfl) (by rfl) (by omega) (by omega) ?_
              refine go2 ?_
              rw [shrN, addI1 w (by omega)]
              refine l_n (by rfl) (by omega) ⟨w + 1, _, c2.set w ((at0 c2 w + at0 vl w + carry) % 4294967296), rfl, rfl, rfl, by omega, by simp [f2], f3.set (Nat.mod_lt _ (by decide)), by omega, ?_, fun j hj => ?_⟩
              · rw [val_take_set (by omega), val_take_succ vl, val_take_succ cs, pow_up w, ← f6 w (Nat.le_refl w)]
                exact add_row f5 (by omega)
              · rw [at0_set (by omega)]
                exact f6 j (by omega)
            simp only [compare', dec_false] at hw
            have ew : w = k + 1 := by omega
            subst ew
            refine go2 ?_
            rw [addI i (k + 1) (by omega)]
            refine idx_sl (by rfl) (by rfl) (by omega) (by omega) ?_
            refine go2 ?_
            refine ld_mid (i := k + 1) (by rfl) (by omega) (by omega) ?_
            refine go2 ?_
            rw [u32N, Nat.mod_eq_of_lt (by omega : carry < 4294967296), show arith .add .u32 ((at0 c2 (k + 1) : Nat) : Int) (carry : Int) = (((at0 c2 (k + 1) + carry) % 4294967296 : Nat) : Int) by rw [ar_add, wrap_u32]; omega]
            refine idx_sl (by rfl) (by rfl) (by omega) (by omega) ?_
            refine go2 ?_
            refine st_mid (i := k + 1) (by rfl) (by rfl) (by omega) (by omega) ?_
            refine go2 ?_
            have hrow2 := add_row (x := at0 c2 (k + 1)) (y := 0) f5 rfl
            rw [Nat.mul_zero, Nat.add_zero, Nat.add_zero, Nat.add_comm carry, ← val_take_set (l := c2) (by omega), f6 (k + 1) (Nat.le_refl _), ← val_take_succ cs, ← pow_up (k + 1), val_all (l := c2.set (k + 1) _) (by simp; omega), val_all (l := cs) (by omega), val_all (l := vl) (by omega)] at hrow2
            rw [f6 (k + 1) (Nat.le_refl _)]
            have oc2 : OkW (c2.set (k + 1) ((at0 cs (k + 1) + carry) % 4294967296)) := f3.set (Nat.mod_lt _ (by decide))
            have lc2 : (c2.set (k + 1) ((at0 cs (k + 1) + carry) % 4294967296)).length = k + 2 := by simp [f2]
            have gcs := ocs.get (k + 1)
            generalize c2.set (k + 1) ((at0 cs (k + 1) + carry) % 4294967296) = ce at hrow2 oc2 lc2 ⊢
            have hC2 := val_lt oc2
            rw [lc2] at hC2
            have hfin := back_end hY0 (Nat.lt_of_lt_of_le hYk (Nat.pow_le_pow_right (by decide) (Nat.le_succ _))) hC2 y3 (show (at0 cs (k + 1) + carry) / 4294967296 ≤ 1 by omega) hrow2
            obtain ⟨y4, y5⟩ := q2 ce (by omega) hfin
            rw [u32N, y1, Nat.mod_eq_of_lt EF.lt]
            refine idx_sl (by rfl) (by rfl) (by omega) (by omega) ?_
            refine go2 ?_
            refine st_word (k := i) (by rfl) (by rfl) (by omega) (by omega) ?_
            refine go2 ?_
            refine l_n (by rfl) (by omega) ⟨i, pre ++ ce ++ post, out.set i (val seg / val vl), ?_, rfl, rfl, by omega, by simp; omega, okW_app (okW_app opre oc2) opost, by simp [j4], j5.set EF.lt, y4, y5⟩
            rw [show arith .sub .i64 ((i : Nat) : Int) 1 = (i : Int) - 1 by rw [ar_sub, wrap_i64 (by omega) (by omega)]]
            rfl
      case false =>
        simp only [compare', dec_false] at hg2
        have E := EF.fin z r p1 p2 (by omega) (by omega)
        refine go2 ?_
        refine f_loop (fun y vs H => ∃ (w bo carry : Nat) (cur : List Nat), vs = [u64 s, .c (.sl 0 0 (a.length + 1) (some (a.length + 1)) 1), .c (.sl 1 0 (k + 1) (some (k + 1)) 1), i64 ((k + 1 : Nat) : Int), .c (.sl 2 0 (m + 1) (some (m + 1)) 1), i64 i, u64 z, i64 bo, u64 carry, i64 ((k + 1 : Nat) : Int), i64 w] ∧ H = [.live ⟨(pre ++ cur ++ post).map W, T_uint32, .rw⟩, .live ⟨vl.map W, T_uint32, .rw⟩, .live ⟨out.map W, T_uint32, .rw⟩] ∧ y = k + 1 - w ∧ w ≤ k + 1 ∧ cur.length = k + 2 ∧ OkW cur ∧ bo ≤ 1 ∧ carry < 4294967296 ∧ val (cur.take w) + z * val (vl.take w) = val (seg.take w) + 4294967296 ^ w * (carry + bo) ∧ ∀ j, w ≤ j → at0 cur j = at0 seg j) (by rfl) ⟨0, 0, 0, seg, rfl, rfl, rfl, by omega, lseg, oseg, by omega, by omega, by simp [val], fun _ _ => rfl⟩ ?_
        rintro y vs H ⟨w, bo, carry, cur, rfl, rfl, rfl, c1, c2, c3, c4, c5, c6, c7⟩
        have gc := c3.get w
        have gv := v3.get w
        refine go2 ?_
        cases hw : compare' Cm.lss (w : Int) ((k + 1 : Nat) : Int)
        case true =>
          simp only [compare', dec_true] at hw
          have hmm : z * at0 vl w + carry < 18446744073709551616 := by
            have := Nat.mul_le_mul (Nat.le_of_lt_succ E.lt) (Nat.le_of_lt_succ gv)
            omega
          refine go2 ?_
          refine idx_sl (by rfl) (by rfl) (by omega) (by omega) ?_
          refine go2 ?_
          refine ld_word (k := w) (by rfl) (by omega) (by omega) ?_
          refine go2 ?_
          rw [wrapN _ (by omega : at0 vl w < 18446744073709551616), mulN _ _ (by omega), addN _ _ hmm]
          refine go2 ?_
          rw [shrN, addI w i (by omega)]
          refine idx_sl (by rfl) (by rfl) (by omega) (by omega) ?_
          refine go2 ?_
          refine ld_mid (i := w) (by rfl) (by omega) (by omega) ?_
          refine go2 ?_
          obtain ⟨d, w', b', e1, e2, e3, x1, x2, x3⟩ := sub_i64 (x := at0 cur w) (s := (z * at0 vl w + carry) % 4294967296) (bo := bo) gc (Nat.mod_lt _ (by decide)) c4
          rw [i64N _ (by omega : at0 cur w < 9223372036854775808), u32N, i64N _ (by omega : (z * at0 vl w + carry) % 4294967296 < 9223372036854775808), e1]
          refine go2 ?_
          rw [e2, addI w i (by omega)]
          refine idx_sl (by rfl) (by rfl) (by omega) (by omega) ?_
          refine go2 ?_
          refine st_mid (i := w) (by rfl) (by rfl) (by omega) (by omega) ?_
          refine go2 ?_
          have hrow := sub_row (t := z * at0 vl w + carry) (y := at0 vl w) c6 (Nat.add_comm _ _) x3
          cases hd : compare' Cm.lss d 0
          case true =>
            simp only [compare', dec_true] at hd
            have hb1 := e3.1 hd
            subst hb1
            refine go2 ?_
            rw [addI1 w (by omega)]
            refine l_n (by rfl) (by omega) ⟨w + 1, 1, (z * at0 vl w + carry) / 4294967296, cur.set w w', rfl, rfl, rfl, by omega, by simp [c2], c3.set x1, by omega, by omega, ?_, fun j hj => ?_⟩
            · rw [val_take_set (by omega), val_take_succ vl, val_take_succ seg, pow_up w, ← c7 w (Nat.le_refl w)]
              exact hrow
            · rw [at0_set (by omega)]
              exact c7 j (by omega)
          case false =>
            simp only [compare', dec_false] at hd
            have hb1 : b' = 0 := by
              rcases Nat.lt_or_ge b' 1 with h | h
              · omega
              · exact absurd (e3.2 (by omega)) hd
            subst hb1
            refine go2 ?_
            rw [addI1 w (by omega)]
            refine l_n (by rfl) (by omega) ⟨w + 1, 0, (z * at0 vl w + carry) / 4294967296, cur.set w w', rfl, rfl, rfl, by omega, by simp [c2], c3.set x1, by omega, by omega, ?_, fun j hj => ?_⟩
            · rw [val_take_set (by omega), val_take_succ vl, val_take_succ seg, pow_up w, ← c7 w (Nat.le_refl w)]
              exact hrow
            · rw [at0_set (by omega)]
              exact c7 j (by omega)
        simp only [compare', dec_false] at hw
        have ew : w = k + 1 := by omega
        subst ew
        refine go2 ?_
        rw [addI i (k + 1) (by omega)]
        refine idx_sl (by rfl) (by rfl) (by omega) (by omega) ?_
        refine go2 ?_
        refine ld_mid (i := k + 1) (by rfl) (by omega) (by omega) ?_
        refine go2 ?_
        obtain ⟨d, w', b', e1, e2, e3, x1, x2, x3⟩ := sub_i64 (x := at0 cur (k + 1)) (s := carry) (bo := bo) gc c5 c4
        rw [i64N _ (by omega : at0 cur (k + 1) < 9223372036854775808), i64N _ (by omega : carry < 9223372036854775808), e1]
        refine go2 ?_
        rw [e2, addI i (k + 1) (by omega)]
        refine idx_sl (by rfl) (by rfl) (by omega) (by omega) ?_
        refine go2 ?_
        refine st_mid (i := k + 1) (by rfl) (by rfl) (by omega) (by omega) ?_
        refine go2 ?_
        have hrow := sub_row (t := carry) (y := 0) c6 (by rw [Nat.mul_zero, Nat.add_zero]) (by rw [Nat.mod_eq_of_lt c5]; exact x3)
        rw [c7 (k + 1) (Nat.le_refl _), Nat.mul_zero, Nat.add_zero, Nat.div_eq_of_lt c5, ← val_take_set (by omega), ← val_take_succ seg, ← pow_up (k + 1), val_all (l := cur.set (k + 1) w') (by simp; omega), val_all (l := seg) (by omega), val_all (l := vl) (by omega)] at hrow
        have ocs : OkW (cur.set (k + 1) w') := c3.set x1
        have lcs : (cur.set (k + 1) w').length = k + 2 := by simp [c2]
        generalize cur.set (k + 1) w' = cs at hrow ocs lcs
        have hC := val_lt ocs
        rw [lcs] at hC
        obtain ⟨z1, z2⟩ := word_end (q := z) (c := val cs) hY0 E.lo E.hi hC hXR
        clear c1 c2 c3 c4 c5 c6 c7 gc gv e1 e2 x3
        cases hd : compare' Cm.lss d 0
        case false =>
          simp only [compare', dec_false] at hd
          have hb1 : b' = 0 := by
            rcases Nat.lt_or_ge b' 1 with h | h
            · omega
            · exact absurd (e3.2 (by omega)) hd
          subst hb1
          obtain ⟨y1, y2⟩ := z1 hrow
          obtain ⟨y3, y4⟩ := q2 cs (by omega) y2
          refine go2 ?_
          rw [u32N, y1, Nat.mod_eq_of_lt EF.lt]
          refine idx_sl (by rfl) (by rfl) (by omega) (by omega) ?_
          refine go2 ?_
          refine st_word (k := i) (by rfl) (by rfl) (by omega) (by omega) ?_
          refine go2 ?_
          refine l_n (by rfl) (by omega) ⟨i, pre ++ cs ++ post, out.set i (val seg / val vl), ?_, rfl, rfl, by omega, by simp; omega, okW_app (okW_app opre ocs) opost, by simp [j4], j5.set EF.lt, y3, y4⟩
          rw [show arith .sub .i64 ((i : Nat) : Int) 1 = (i : Int) - 1 by rw [ar_sub, wrap_i64 (by omega) (by omega)]]
          rfl
        case true =>
          simp only [compare', dec_true] at hd
          have hb1 := e3.1 hd
          subst hb1
          obtain ⟨y1, y2, y3⟩ := z2 hrow
          refine go2 ?_
          rw [subN1 z (by omega) y2]
          refine f_loop (fun y vs H => ∃ (w carry : Nat) (c2 : List Nat), vs = [u64 s, .c (.sl 0 0 (a.length + 1) (some (a.length + 1)) 1), .c (.sl 1 0 (k + 1) (some (k + 1)) 1), i64 ((k + 1 : Nat) : Int), .c (.sl 2 0 (m + 1) (some (m + 1)) 1), i64 i, u64 (z - 1), u64 carry, i64 ((k + 1 : Nat) : Int), i64 w] ∧ H = [.live ⟨(pre ++ c2 ++ post).map W, T_uint32, .rw⟩, .live ⟨vl.map W, T_uint32, .rw⟩, .live ⟨out.map W, T_uint32, .rw⟩] ∧ y = k + 1 - w ∧ w ≤ k + 1 ∧ c2.length = k + 2 ∧ OkW c2 ∧ carry ≤ 1 ∧ val (c2.take w) + 4294967296 ^ w * carry = val (cs.take w) + val (vl.take w) ∧ ∀ j, w ≤ j → at0 c2 j = at0 cs j) (by rfl) ⟨0, 0, cs, rfl, rfl, rfl, by omega, lcs, ocs, by omega, by simp [val], fun _ _ => rfl⟩ ?_
          rintro y vs H ⟨w, carry, c2, rfl, rfl, rfl, f1, f2, f3, f4, f5, f6⟩
          have gc := f3.get w
          have gv := v3.get w
          refine go2 ?_
          cases hw : compare' Cm.lss (w : Int) ((k + 1 : Nat) : Int)
          case true =>
            simp only [compare', dec_true] at hw
            refine go2 ?_
            rw [addI w i (by omega)]
            refine idx_sl (by rfl) (by rfl) (by omega) (by omega) ?_
            refine go2 ?_
            refine ld_mid (i := w) (by rfl) (by omega) (by omega) ?_
            refine go2 ?_
            refine idx_sl (by rfl) (by rfl) (by omega) (by omega) ?_
            refine go2 ?_
            refine ld_word (k := w) (by rfl) (by omega) (by omega) ?_
            refine go2 ?_
            rw [wrapN _ (by omega : at0 c2 w < 18446744073709551616), wrapN _ (by omega : at0 vl w < 18446744073709551616), addN _ _ (by omega), addN _ _ (by omega)]
            refine go2 ?_
            rw [u32N, addI w i (by omega)]
            refine idx_sl (by rfl) (by rfl) (by omega) (by omega) ?_
            refine go2 ?_
            refine st_mid (i := w) (by rfl) (by rfl) (by omega) (by omega) ?_
            refine go2 ?_
            rw [shrN, addI1 w (by omega)]
            refine l_n (by rfl) (by omega) ⟨w + 1, _, c2.set w ((at0 c2 w + at0 vl w + carry) % 4294967296), rfl, rfl, rfl, by omega, by simp [f2], f3.set (Nat.mod_lt _ (by decide)), by omega, ?_, fun j hj => ?_⟩
            · rw [val_take_set (by omega), val_take_succ vl, val_take_succ cs, pow_up w, ← f6 w (Nat.le_refl w)]
              exact add_row f5 (by omega)
            · rw [at0_set (by omega)]
              exact f6 j (by omega)
          simp only [compare', dec_false] at hw
          have ew : w = k + 1 := by omega
          subst ew
          refine go2 ?_
          rw [addI i (k + 1) (by omega)]
          refine idx_sl (by rfl) (by rfl) (by omega) (by omega) ?_
          refine go2 ?_
          refine ld_mid (i := k + 1) (by rfl) (by omega) (by omega) ?_
          refine go2 ?_
          rw [u32N, Nat.mod_eq_of_lt (by omega : carry < 4294967296), show arith .add .u32 ((at0 c2 (k + 1) : Nat) : Int) (carry : Int) = (((at0 c2 (k + 1) + carry) % 4294967296 : Nat) : Int) by rw [ar_add, wrap_u32]; omega]
          refine idx_sl (by rfl) (by rfl) (by omega) (by omega) ?_
          refine go2 ?_
          refine st_mid (i := k + 1) (by rfl) (by rfl) (by omega) (by omega) ?_
          refine go2 ?_
          have hrow2 := add_row (x := at0 c2 (k + 1)) (y := 0) f5 rfl
          rw [Nat.mul_zero, Nat.add_zero, Nat.add_zero, Nat.add_comm carry, ← val_take_set (l := c2) (by omega), f6 (k + 1) (Nat.le_refl _), ← val_take_succ cs, ← pow_up (k + 1), val_all (l := c2.set (k + 1) _) (by simp; omega), val_all (l := cs) (by omega), val_all (l := vl) (by omega)] at hrow2
          rw [f6 (k + 1) (Nat.le_refl _)]
          have oc2 : OkW (c2.set (k + 1) ((at0 cs (k + 1) + carry) % 4294967296)) := f3.set (Nat.mod_lt _ (by decide))
          have lc2 : (c2.set (k + 1) ((at0 cs (k + 1) + carry) % 4294967296)).length = k + 2 := by simp [f2]
          have gcs := ocs.get (k + 1)
          generalize c2.set (k + 1) ((at0 cs (k + 1) + carry) % 4294967296) = ce at hrow2 oc2 lc2 ⊢
          have hC2 := val_lt oc2
          rw [lc2] at hC2
          have hfin := back_end hY0 (Nat.lt_of_lt_of_le hYk (Nat.pow_le_pow_right (by decide) (Nat.le_succ _))) hC2 y3 (show (at0 cs (k + 1) + carry) / 4294967296 ≤ 1 by omega) hrow2
          obtain ⟨y4, y5⟩ := q2 ce (by omega) hfin
          rw [u32N, y1, Nat.mod_eq_of_lt EF.lt]
          refine idx_sl (by rfl) (by rfl) (by omega) (by omega) ?_
          refine go2 ?_
          refine st_word (k := i) (by rfl) (by rfl) (by omega) (by omega) ?_
          refine go2 ?_
          refine l_n (by rfl) (by omega) ⟨i, pre ++ ce ++ post, out.set i (val seg / val vl), ?_, rfl, rfl, by omega, by simp; omega, okW_app (okW_app opre oc2) opost, by simp [j4], j5.set EF.lt, y4, y5⟩
          rw [show arith .sub .i64 ((i : Nat) : Int) 1 = (i : Int) - 1 by rw [ar_sub, wrap_i64 (by omega) (by omega)]]
          rfl
  simp [compare'] at hq2
  have ej : z = 0 := by omega
  subst ej
  rw [List.drop_zero] at j6 j7
  rw [Nat.pow_zero, Nat.one_mul, v4] at j6
  have j8 := Nat.lt_trans j7 hYk
  rw [v4] at j7
  obtain ⟨d1, d2⟩ := parts_end hvb j6 j7
  have hb0' : at0 xc 0 % 2 ^ s = 0 := back_start (r := val a % val b) (by omega) d2
  obtain ⟨e1, e2⟩ := above_nought j8 (by omega)
  refine go2 ?_
  refine x_mkSl (by rfl) (by rfl) ⟨by omega, by omega, by omega, by omega⟩ ?_
  rw [Int.toNat_natCast, zeros]
  refine go2 ?_
  refine f_loop (fun y vs H => ∃ (w : Nat) (rl : List Nat), vs = [u64 s, .c (.sl 0 0 (a.length + 1) (some (a.length + 1)) 1), .c (.sl 2 0 (m + 1) (some (m + 1)) 1), .c (.sl 3 0 (k + 1) (some (k + 1)) 1), i64 ((k + 1 : Nat) : Int), i64 w] ∧ H = [.live ⟨xc.map W, T_uint32, .rw⟩, .live ⟨vl.map W, T_uint32, .rw⟩, .live ⟨out.map W, T_uint32, .rw⟩, .live ⟨rl.map W, T_uint32, .rw⟩] ∧ y = k + 1 - w ∧ w ≤ k + 1 ∧ rl.length = k + 1 ∧ OkW rl ∧ 2 ^ s * val (rl.take w) = val (xc.take w) + 4294967296 ^ w * (at0 xc w % 2 ^ s)) (by rfl) ⟨0, _, rfl, rfl, rfl, by omega, by simp, fun x hx => by simp at hx; omega, by rw [hb0']; simp [val]⟩ ?_
  rintro y vs H ⟨w, rl, rfl, rfl, rfl, f1, f2, f3, f4⟩
  refine go2 ?_
  cases hw : compare' Cm.lss (w : Int) ((k + 1 : Nat) : Int)
  case true =>
    simp only [compare', dec_true] at hw
    have gi := j3.get w
    have gj := j3.get (w + 1)
    obtain ⟨q, w1, w2, w3, w4, w5⟩ := back_word n1 gi gj
    obtain ⟨w6, w7⟩ := or_u32' (lo := at0 xc w / 2 ^ s) (m := q) (s := 32 - s) (by omega) w2 w4
    refine go2 ?_
    refine idx_sl (by rfl) (by rfl) (by omega) (by omega) ?_
    refine go2 ?_
    refine ld_word (k := w) (by rfl) (by omega) (by omega) ?_
    refine go2 ?_
    rw [shrU _ _ (by omega)]
    refine idx_sl (by rfl) (by rfl) (by omega) (by omega) ?_
    refine go2 ?_
    refine st_word (k := w) (by rfl) (by rfl) (by omega) (by omega) ?_
    refine go2 ?_
    cases hs0 : compare' Cm.gtr (s : Int) 0
    case false =>
      simp [compare'] at hs0
      subst hs0
      refine go2 ?_
      rw [addI1 w (by omega)]
      refine l_n (by rfl) (by omega) ⟨w + 1, _, rfl, rfl, rfl, by omega, by simp [f2], f3.set (by rw [Nat.pow_zero, Nat.div_one]; exact gi), ?_⟩
      rw [val_take_set (by omega), val_take_succ xc, pow_up w]
      exact back_row f4 (by simp [Nat.mod_one])
    case true =>
      simp only [compare', dec_true] at hs0
      refine go2 ?_
      refine idx_sl (by rfl) (by rfl) (by omega) (by omega) ?_
      refine go2 ?_
      refine ld_word (k := w) (by rfl) (by omega) (by simp; omega) ?_
      refine go2 ?_
      rw [addI1 w (by omega)]
      refine idx_sl (by rfl) (by rfl) (by omega) (by omega) ?_
      refine go2 ?_
      refine ld_word (k := w + 1) (by rfl) (by omega) (by omega) ?_
      refine go2 ?_
      rw [show arith .sub .u64 32 (s : Int) = ((32 - s : Nat) : Int) from subN 32 s (by omega) (by omega)]
      refine go2 ?_
      rw [shlU _ _ (by omega), w1, show at0 (rl.set w (at0 xc w / 2 ^ s)) w = at0 xc w / 2 ^ s by simp [at0, show w < rl.length by omega], w6]
      refine idx_sl (by rfl) (by rfl) (by omega) (by omega) ?_
      refine go2 ?_
      refine st_word (k := w) (by rfl) (by rfl) (by omega) (by simp; omega) ?_
      refine go2 ?_
      rw [addI1 w (by omega)]
      refine l_n (by rfl) (by omega) ⟨w + 1, _, rfl, rfl, rfl, by omega, by simp [f2], by rw [List.set_set]; exact f3.set w7, ?_⟩
      rw [List.set_set, val_take_set (by omega), val_take_succ xc, pow_up w]
      exact back_row f4 w5
  simp only [compare', dec_false] at hw
  have ew : w = k + 1 := by omega
  subst ew
  rw [val_all (l := rl) (by omega), e1, e2, Nat.zero_mod, Nat.mul_zero, Nat.add_zero, d2, Nat.mul_comm] at f4
  have hfin : val rl = val a % val b := Nat.eq_of_mul_eq_mul_right (Nat.pow_pos (by decide)) f4
  refine go2 ?_
  exact QWK.fz (fz_words out (by rfl) (by simp) (by simp) j4.symm (by rw [← j4]; exact List.take_of_length_le (by simp))) (fz_words rl (by rfl) (by simp) (by simp) f2.symm (by rw [← f2]; exact List.take_of_length_le (by simp))) (.imm out) j5 d1 (by omega) (.imm rl) f3 hfin (by omega)

end Go.Proofs.YtjncgcnofiaiaaaGreat

/-
  num.quoWords, whole; num.Z.Quo of any numbers.
-/
set_option linter.unusedVariables false
set_option linter.unusedSimpArgs false
namespace Go.Proofs.YtjncgcnofiaiaaaGreat
open Go.RowKit
set_option maxRecDepth 20000

theorem amt_tdiv (m1 m2 : Bool) (x y : Nat) : (amt m1 x).tdiv (amt m2 y) = amt (!(m1 == m2)) (x / y) := by
  have e : (x : Int).tdiv (y : Int) = ((x / y : Nat) : Int) := (Int.ofNat_tdiv x y).symm
  cases m1 <;> cases m2
  · exact e
  · simp only [amt, cond_true, cond_false, Int.tdiv_neg, e]
    rfl
  · simp only [amt, cond_true, cond_false, Int.neg_tdiv, e]
    rfl
  · simp only [amt, cond_true, cond_false, Int.tdiv_neg, Int.neg_tdiv, Int.neg_neg, e]
    rfl
theorem amt_tmod (m1 m2 : Bool) (x y : Nat) : (amt m1 x).tmod (amt m2 y) = amt m1 (x % y) := by
  have e : (x : Int).tmod (y : Int) = ((x % y : Nat) : Int) := (Int.ofNat_tmod x y).symm
  cases m1 <;> cases m2
  · exact e
  · simp only [amt, cond_true, cond_false, Int.tmod_neg, e]
  · simp only [amt, cond_true, cond_false, Int.neg_tmod, e]
  · simp only [amt, cond_true, cond_false, Int.tmod_neg, Int.neg_tmod, e]
theorem Sz.cl {n : Nat} (hn : n ≤ 268435456) : SCl (Sz n) n := ⟨fun a b h1 h2 => by unfold Sz at *; omega, fun a h => h, hn⟩
attribute [local irreducible] compare' semH semC qLen qNil qIad qSlc qIdx ldBox ldCells stBox appX awpF awpOpsF awpDF xopF xopDF qval lval seqQ blockQ loopQ bodyF retKF cnd arith IntKind.wrap

theorem num_quoWords {c d : C} {a b : List Nat} (hc : Wd c a) (hd : Wd d b) (na : Norm a) (nb : Norm b) (hb0 : b ≠ []) (hl : a.length < 1073741824) : semC Tryz.prog n_num_quoWords [.c c, .c d] (QWK (val a) (val b) a.length) := by
  rcases Nat.lt_or_ge (val a) (val b) with hv | hv
  · exact num_quoWords_less hc hd na nb hl hv
  · rcases Nat.lt_or_ge b.length 2 with h | h
    · have hl1 : 0 < b.length := List.length_pos_iff.2 hb0
      match b, h, hl1 with
      | [x], _, _ => exact num_quoWords_short hc hd na nb hl (by omega)
    · exact num_quoWords_long hc hd na nb h hl (by omega)

theorem quoOk {n : Nat} (hn : n ≤ 268435456) : QuoOk (Sz n) := by
  intro cs ds a b hx hy sa sb h0
  refine semC_of_awpF ok_num_Z_Quo rfl (show HFVs [.agg cs, .agg ds] from ⟨hx.hf, hy.hf, trivial⟩) ?_
  unfold Sz at sa sb
  have hx' := hx
  have hy' := hy
  rcases hx.look with ⟨rfl, x1, x2⟩ | ⟨lx, nx, rfl, xn, xv, xe⟩
  · rcases hy.look with ⟨rfl, y1, y2⟩ | ⟨ly, ny, rfl, yn, yv, ye⟩
    · have q1 := tdiv_le a b
      have q2 := tmod_le a b
      refine go2 ?_
      cases hq : compare' Cm.neq a (-9223372036854775808)
      case false =>
        refine go2 ?_
        refine semH_of_semC (num_Z_words hx') (fun u hu => ?_)
        obtain ⟨c1, l1, n1, rfl, w1, o1, e1⟩ := hu
        refine go2 ?_
        refine semH_of_semC (num_Z_words hy') (fun u hu => ?_)
        obtain ⟨c2, l2, n2, rfl, w2, o2, e2⟩ := hu
        have hl1 : l1.length ≤ n := norm_len o1 (by rw [e1] at sa; rwa [amt_abs] at sa)
        have hl2 : l2 ≠ [] := fun e => by
          rw [e] at e2
          rw [e2] at h0
          exact h0 (by cases n2 <;> rfl)
        refine go2 ?_
        refine semH_of_semC (num_quoWords w1 w2 o1 o2 hl2 (by omega)) (fun u hu => ?_)
        obtain ⟨c3, l3, c4, l4, rfl, w3, o3, v3, len3, w4, o4, v4, len4⟩ := hu
        refine go2 ?_
        refine semH_of_semC (num_made _ w3 o3 (by omega)) (fun u hu => ?_)
        obtain ⟨es, rfl, h1⟩ := hu
        refine go2 ?_
        refine semH_of_semC (num_made _ w4 o4 (by omega)) (fun u hu => ?_)
        obtain ⟨fs, rfl, h2⟩ := hu
        obtain ⟨g1, g2, g3, rfl⟩ := h1.three
        obtain ⟨k1, k2, k3, rfl⟩ := h2.three
        refine go2 ?_
        refine QuoK.fz ?_ ?_
        · rw [e1, e2, amt_tdiv, ← v3]
          exact h1
        · rw [e1, e2, amt_tmod, ← v4]
          exact h2
      case true =>
        simp [compare'] at hq
        refine go2 ?_
        refine q_ar (by rfl) (by rfl) (by simp [needs, h0]) ?_
        rw [ar_quo, wrap_i64 (by omega) (by omega)]
        refine go2 ?_
        refine q_ar (by rfl) (by rfl) (by simp [needs, h0]) ?_
        rw [ar_rem]
        refine go2 ?_
        exact QuoK.fz (.small _ (by omega) (by omega)) (.small _ (by omega) (by omega))
    · refine go2 ?_
      refine semH_of_semC (num_Z_words hx') (fun u hu => ?_)
      obtain ⟨c1, l1, n1, rfl, w1, o1, e1⟩ := hu
      refine go2 ?_
      refine semH_of_semC (num_Z_words hy') (fun u hu => ?_)
      obtain ⟨c2, l2, n2, rfl, w2, o2, e2⟩ := hu
      have hl1 : l1.length ≤ n := norm_len o1 (by rw [e1] at sa; rwa [amt_abs] at sa)
      have hl2 : l2 ≠ [] := fun e => by
        rw [e] at e2
        rw [e2] at h0
        exact h0 (by cases n2 <;> rfl)
      refine go2 ?_
      refine semH_of_semC (num_quoWords w1 w2 o1 o2 hl2 (by omega)) (fun u hu => ?_)
      obtain ⟨c3, l3, c4, l4, rfl, w3, o3, v3, len3, w4, o4, v4, len4⟩ := hu
      refine go2 ?_
      refine semH_of_semC (num_made _ w3 o3 (by omega)) (fun u hu => ?_)
      obtain ⟨es, rfl, h1⟩ := hu
      refine go2 ?_
      refine semH_of_semC (num_made _ w4 o4 (by omega)) (fun u hu => ?_)
      obtain ⟨fs, rfl, h2⟩ := hu
      obtain ⟨g1, g2, g3, rfl⟩ := h1.three
      obtain ⟨k1, k2, k3, rfl⟩ := h2.three
      refine go2 ?_
      refine QuoK.fz ?_ ?_
      · rw [e1, e2, amt_tdiv, ← v3]
        exact h1
      · rw [e1, e2, amt_tmod, ← v4]
        exact h2
  · refine go2 ?_
    obtain ⟨b1, b2, b3, rfl⟩ := hy'.three
    refine go2 ?_
    refine semH_of_semC (num_Z_words hx') (fun u hu => ?_)
    obtain ⟨c1, l1, n1, rfl, w1, o1, e1⟩ := hu
    refine go2 ?_
    refine semH_of_semC (num_Z_words hy') (fun u hu => ?_)
    obtain ⟨c2, l2, n2, rfl, w2, o2, e2⟩ := hu
    have hl1 : l1.length ≤ n := norm_len o1 (by rw [e1] at sa; rwa [amt_abs] at sa)
    have hl2 : l2 ≠ [] := fun e => by
      rw [e] at e2
      rw [e2] at h0
      exact h0 (by cases n2 <;> rfl)
    refine go2 ?_
    refine semH_of_semC (num_quoWords w1 w2 o1 o2 hl2 (by omega)) (fun u hu => ?_)
    obtain ⟨c3, l3, c4, l4, rfl, w3, o3, v3, len3, w4, o4, v4, len4⟩ := hu
    refine go2 ?_
    refine semH_of_semC (num_made _ w3 o3 (by omega)) (fun u hu => ?_)
    obtain ⟨es, rfl, h1⟩ := hu
    refine go2 ?_
    refine semH_of_semC (num_made _ w4 o4 (by omega)) (fun u hu => ?_)
    obtain ⟨fs, rfl, h2⟩ := hu
    obtain ⟨g1, g2, g3, rfl⟩ := h1.three
    obtain ⟨k1, k2, k3, rfl⟩ := h2.three
    refine go2 ?_
    refine QuoK.fz ?_ ?_
    · rw [e1, e2, amt_tdiv, ← v3]
      exact h1
    · rw [e1, e2, amt_tmod, ← v4]
      exact h2
end Go.Proofs.YtjncgcnofiaiaaaGreat

/-
  Sums, differences, products and quotients of spans: what the answers are.
-/
set_option linter.unusedVariables false
set_option linter.unusedSimpArgs false
namespace Go.Proofs.YtjncgcnofiaiaaaGreat
open Go.RowKit
set_option maxRecDepth 20000

theorem hS64 : SCl (Sz 64) 64 := Sz.cl (by decide)
theorem hQ64 : QuoOk (Sz 64) := quoOk (by decide)
def EndsAdd (x y e : SP) : Prop := Red (x.1.1 * y.1.2 + y.1.1 * x.1.2) (x.1.2 * y.1.2) e.1 ∧ Red (x.2.1 * y.2.2 + y.2.1 * x.2.2) (x.2.2 * y.2.2) e.2
def EndsSub (x y e : SP) : Prop := Red (x.1.1 * y.2.2 + -y.2.1 * x.1.2) (x.1.2 * y.2.2) e.1 ∧ Red (x.2.1 * y.1.2 + -y.1.1 * x.2.2) (x.2.2 * y.1.2) e.2
def EndsMul (x y e : SP) : Prop := ∃ r1 r2 r3 r4, Red (x.1.1 * y.1.1) (x.1.2 * y.1.2) r1 ∧ Red (x.1.1 * y.2.1) (x.1.2 * y.2.2) r2 ∧ Red (x.2.1 * y.1.1) (x.2.2 * y.1.2) r3 ∧ Red (x.2.1 * y.2.1) (x.2.2 * y.2.2) r4 ∧ e = [r1, r2, r3, r4].foldl wider (r1, r1)
def Turn (y t : SP) : Prop := Red (1 * y.2.2) (1 * y.2.1) t.1 ∧ Red (1 * y.1.2) (1 * y.1.1) t.2
def EndsDiv (x y e : SP) : Prop := ∃ t, Turn y t ∧ EndsMul x t e
def Ends (kind : Nat) (x y e : SP) : Prop := match kind with
  | 0 => EndsAdd x y e
  | 1 => EndsSub x y e
  | 2 => EndsMul x y e
  | _ => EndsDiv x y e
noncomputable def zeroB (x : SP) : Bool := dec (x.1.1 ≤ 0) && dec (0 ≤ x.2.1)
/-- What the answer is. -/
def AnsK (kind : Nat) (x y : SP) (g : Int) (u : V) : Prop :=
  (checkB g [x, y] = false → u = .tup [.agg zeroC, i64 1]) ∧
  (checkB g [x, y] = true → (kind = 3 ∧ zeroB y = true → u = .tup [.agg zeroC, i64 4]) ∧ (¬ (kind = 3 ∧ zeroB y = true) → ∃ e, Ends kind x y e ∧ OutwK e g u))
theorem check_out {g : Int} {x y : SP} (h : checkB g [x, y] = true) : SpanOk x ∧ SpanOk y ∧ 1 ≤ g ∧ g ≤ 1000000 := by
  unfold checkB at h
  rw [Bool.and_eq_true] at h
  have h1 := dec_true.1 h.1
  have h2 := dec_true.1 h.2
  exact ⟨h1 x (by simp), h1 y (by simp), h2.1, h2.2⟩
theorem check_no {g : Int} {x y : SP} (h : ¬ (SpanOk x ∧ SpanOk y ∧ 1 ≤ g ∧ g ≤ 1000000)) : checkB g [x, y] = false := by
  cases hc : checkB g [x, y]
  · rfl
  · exact absurd (check_out hc) h
theorem check_yes {g : Int} {x y : SP} (h1 : SpanOk x) (h2 : SpanOk y) (h3 : 1 ≤ g) (h4 : g ≤ 1000000) : checkB g [x, y] = true := by
  unfold checkB
  rw [Bool.and_eq_true]
  exact ⟨dec_true.2 (by simp; exact ⟨h1, h2⟩), dec_true.2 ⟨h3, h4⟩⟩
theorem Red.same {n d : Int} {p q : R2} (h0 : d ≠ 0) (hp : Red n d p) (hq : Red n d q) : p = q := hp.uniq hq h0 h0 rfl
theorem OutwK.det {x : SP} {g : Int} {u v : V} (hg : 1 ≤ g) (h1 : OutwK x g u) (h2 : OutwK x g v) : u = v := by
  obtain ⟨lo, hi, a1, a2, rfl⟩ := h1
  obtain ⟨lo', hi', b1, b2, rfl⟩ := h2
  rw [a1.same (by omega) b1, a2.same (by omega) b2]
theorem EndsMul.det {x y e f : SP} (d1 : 0 < x.1.2) (d2 : 0 < x.2.2) (d3 : 0 < y.1.2) (d4 : 0 < y.2.2) (h1 : EndsMul x y e) (h2 : EndsMul x y f) : e = f := by
  obtain ⟨r1, r2, r3, r4, a1, a2, a3, a4, rfl⟩ := h1
  obtain ⟨s1, s2, s3, s4, b1, b2, b3, b4, rfl⟩ := h2
  have e1 := Int.mul_pos d1 d3
  have e2 := Int.mul_pos d1 d4
  have e3 := Int.mul_pos d2 d3
  have e4 := Int.mul_pos d2 d4
  rw [a1.same (by omega) b1, a2.same (by omega) b2, a3.same (by omega) b3, a4.same (by omega) b4]
theorem turn_ne {y : SP} (h : SpanOk y) (hz : zeroB y = false) : y.1.1 ≠ 0 ∧ y.2.1 ≠ 0 := by
  have hle : y.1.1 * y.2.2 ≤ y.2.1 * y.1.2 := by
    have := h.2.2
    unfold lessR at this
    omega
  have p1 := h.1.1
  have p2 := h.2.1.1
  have hz' : ¬ (y.1.1 ≤ 0 ∧ 0 ≤ y.2.1) := by
    intro hh
    unfold zeroB at hz
    rw [dec_true.2 hh.1, dec_true.2 hh.2] at hz
    cases hz
  constructor
  · intro e
    rw [e, Int.zero_mul] at hle
    rcases Int.lt_or_le y.2.1 0 with h1 | h1
    · have := Int.mul_neg_of_neg_of_pos h1 (show 0 < y.1.2 by omega)
      omega
    · exact hz' ⟨by omega, h1⟩
  · intro e
    rw [e, Int.zero_mul] at hle
    rcases Int.lt_or_le 0 y.1.1 with h1 | h1
    · have := Int.mul_pos h1 (show 0 < y.2.2 by omega)
      omega
    · exact hz' ⟨h1, by omega⟩
theorem Ends.det {kind : Nat} {x y e f : SP} (hx : SpanOk x) (hy : SpanOk y) (hz : ¬ (kind = 3 ∧ zeroB y = true)) (hk : kind ≤ 3) (h1 : Ends kind x y e) (h2 : Ends kind x y f) : e = f := by
  have d1 : 0 < x.1.2 := by have := hx.1.1; omega
  have d2 : 0 < x.2.2 := by have := hx.2.1.1; omega
  have d3 : 0 < y.1.2 := by have := hy.1.1; omega
  have d4 : 0 < y.2.2 := by have := hy.2.1.1; omega
  have e1 := Int.mul_pos d1 d3
  have e2 := Int.mul_pos d1 d4
  have e3 := Int.mul_pos d2 d3
  have e4 := Int.mul_pos d2 d4
  have hk' : kind = 0 ∨ kind = 1 ∨ kind = 2 ∨ kind = 3 := by omega
  rcases hk' with rfl | rfl | rfl | rfl
  · have h1' : EndsAdd x y e := h1
    have h2' : EndsAdd x y f := h2
    exact Prod.ext (h1'.1.same (Int.ne_of_gt e1) h2'.1) (h1'.2.same (Int.ne_of_gt (Int.mul_pos d2 d4)) h2'.2)
  · have h1' : EndsSub x y e := h1
    have h2' : EndsSub x y f := h2
    exact Prod.ext (h1'.1.same (Int.ne_of_gt e2) h2'.1) (h1'.2.same (Int.ne_of_gt e3) h2'.2)
  · exact EndsMul.det d1 d2 d3 d4 h1 h2
  · obtain ⟨t, t1, t2⟩ : EndsDiv x y e := h1
    obtain ⟨s, s1, s2⟩ : EndsDiv x y f := h2
    have hz' : zeroB y = false := by
      cases hh : zeroB y
      · rfl
      · exact absurd ⟨rfl, hh⟩ hz
    obtain ⟨n1, n2⟩ := turn_ne hy hz'
    have et : t = s := Prod.ext (t1.1.same (by omega) s1.1) (t1.2.same (by omega) s1.2)
    subst et
    exact EndsMul.det d1 d2 t1.1.pos t1.2.pos t2 s2
theorem AnsK.det {kind : Nat} {x y : SP} {g : Int} {u v : V} (hk : kind ≤ 3) (h1 : AnsK kind x y g u) (h2 : AnsK kind x y g v) : u = v := by
  cases hc : checkB g [x, y]
  · rw [h1.1 hc, h2.1 hc]
  · obtain ⟨o1, o2, g1, g2⟩ := check_out hc
    obtain ⟨a1, a2⟩ := h1.2 hc
    obtain ⟨b1, b2⟩ := h2.2 hc
    by_cases hz : kind = 3 ∧ zeroB y = true
    · rw [a1 hz, b1 hz]
    · obtain ⟨e, c1, c2⟩ := a2 hz
      obtain ⟨f, d1, d2⟩ := b2 hz
      have := Ends.det o1 o2 hz hk c1 d1
      subst this
      exact c2.det g1 d2
theorem AnsK.bad {kind : Nat} {x y : SP} {g : Int} (hc : checkB g [x, y] = false) : AnsK kind x y g (.tup [.agg (spanC ((0, 0), (0, 0))), i64 1]) :=
  ⟨fun _ => rfl, fun h => by rw [hc] at h; cases h⟩
theorem AnsK.nil {x y : SP} {g : Int} (hc : checkB g [x, y] = true) (hz : zeroB y = true) : AnsK 3 x y g (.tup [.agg (spanC ((0, 0), (0, 0))), i64 4]) :=
  ⟨fun h => (by rw [hc] at h; cases h), fun _ => ⟨fun _ => rfl, fun h => absurd ⟨rfl, hz⟩ h⟩⟩
theorem AnsK.of {kind : Nat} {x y e : SP} {g : Int} {u : V} (hc : checkB g [x, y] = true) (hz : ¬ (kind = 3 ∧ zeroB y = true)) (en : Ends kind x y e) (hu : OutwK e g u) : AnsK kind x y g u :=
  ⟨fun h => (by rw [hc] at h; cases h), fun _ => ⟨fun h => absurd h hz, fun _ => ⟨e, en, hu⟩⟩⟩
theorem OutwK.shape {x : SP} {g : Int} {u : V} (h : OutwK x g u) : ∃ (s : SP) (e : Int), u = .tup [.agg (spanC s), i64 e] := by
  obtain ⟨lo, hi, _, _, rfl⟩ := h
  unfold toldV
  cases fitR lo && fitR hi
  · exact ⟨((0, 0), (0, 0)), _, rfl⟩
  · exact ⟨_, _, rfl⟩
theorem AnsK.shape {kind : Nat} {x y : SP} {g : Int} {u : V} (h : AnsK kind x y g u) : ∃ (s : SP) (e : Int), u = .tup [.agg (spanC s), i64 e] := by
  cases hc : checkB g [x, y]
  · exact ⟨((0, 0), (0, 0)), _, h.1 hc⟩
  · by_cases hz : kind = 3 ∧ zeroB y = true
    · exact ⟨((0, 0), (0, 0)), _, (h.2 hc).1 hz⟩
    · obtain ⟨e, _, c2⟩ := (h.2 hc).2 hz
      exact c2.shape
theorem fold_bd {k : Nat} {r1 r2 r3 r4 : R2} (h1 : Bd k r1) (h2 : Bd k r2) (h3 : Bd k r3) (h4 : Bd k r4) : BdS k ([r1, r2, r3, r4].foldl wider (r1, r1)) :=
  BdS.fold (l := [r1, r2, r3, r4]) ⟨h1, h1⟩ (fun p hp => by
    simp at hp
    rcases hp with rfl | rfl | rfl | rfl
    · exact h1
    · exact h2
    · exact h3
    · exact h4)
theorem EndsMul.bd {k : Nat} {x y e : SP} (bx : BdS k x) (by' : BdS k y) (h : EndsMul x y e) : BdS (k + k) e := by
  obtain ⟨r1, r2, r3, r4, a1, a2, a3, a4, rfl⟩ := h
  exact fold_bd (a1.bd (bx.lo.n.mul by'.lo.n) (bx.lo.d.mul by'.lo.d)) (a2.bd (bx.lo.n.mul by'.hi.n) (bx.lo.d.mul by'.hi.d)) (a3.bd (bx.hi.n.mul by'.lo.n) (bx.hi.d.mul by'.lo.d)) (a4.bd (bx.hi.n.mul by'.hi.n) (bx.hi.d.mul by'.hi.d))
theorem Turn.bd {k : Nat} {y t : SP} (b : BdS k y) (h : Turn y t) : BdS k t := by
  have h1 := h.1
  have h2 := h.2
  simp only [Int.one_mul] at h1 h2
  exact ⟨h1.bd b.hi.d b.hi.n, h2.bd b.lo.d b.lo.n⟩
theorem EndsAdd.bd {k : Nat} {x y e : SP} (bx : BdS k x) (by' : BdS k y) (h : EndsAdd x y e) : BdS (k + k + 1) e :=
  ⟨h.1.bd ((bx.lo.n.mul by'.lo.d).add (by'.lo.n.mul bx.lo.d)) ((bx.lo.d.mul by'.lo.d).up (by omega)), h.2.bd ((bx.hi.n.mul by'.hi.d).add (by'.hi.n.mul bx.hi.d)) ((bx.hi.d.mul by'.hi.d).up (by omega))⟩
theorem EndsSub.bd {k : Nat} {x y e : SP} (bx : BdS k x) (by' : BdS k y) (h : EndsSub x y e) : BdS (k + k + 1) e :=
  ⟨h.1.bd ((bx.lo.n.mul by'.hi.d).add (by'.hi.n.neg.mul bx.lo.d)) ((bx.lo.d.mul by'.hi.d).up (by omega)), h.2.bd ((bx.hi.n.mul by'.lo.d).add (by'.lo.n.neg.mul bx.hi.d)) ((bx.hi.d.mul by'.lo.d).up (by omega))⟩
theorem BdS.up5 {k : Nat} {x : SP} (h : BdS k x) (hk : k ≤ 8) : BdS 8 x := ⟨⟨h.lo.n.up hk, h.lo.d.up hk, h.lo.pos⟩, ⟨h.hi.n.up hk, h.hi.d.up hk, h.hi.pos⟩⟩
theorem grid_sz {g : Int} (h1 : 1 ≤ g) (h2 : g ≤ 1000000) : Sz 8 g := by
  unfold Sz
  have : (4294967296 : Nat) ≤ 4294967296 ^ 8 := by decide
  omega
theorem holds_zero (x : SP) : holdsB x (0, 1) = zeroB x := by
  have e1 : (¬ lessR (0, 1) x.1) = (x.1.1 ≤ 0) := propext (by unfold lessR; simp)
  have e2 : (¬ lessR x.2 (0, 1)) = (0 ≤ x.2.1) := propext (by unfold lessR; simp)
  unfold holdsB zeroB
  rw [e1, e2]
theorem sgn_leq (z : Int) : compare' Cm.leq (sgn z) 0 = dec (z ≤ 0) := by
  have : sgn z ≤ 0 ↔ z ≤ 0 := by
    unfold sgn
    split
    · omega
    · split <;> omega
  show dec _ = _
  rw [propext this]
theorem sgn_geq (z : Int) : compare' Cm.geq (sgn z) 0 = dec (0 ≤ z) := by
  have : sgn z ≥ 0 ↔ 0 ≤ z := by
    unfold sgn
    split
    · omega
    · split <;> omega
  show dec _ = _
  rw [propext this]
attribute [local irreducible] compare' semH semC qLen qNil qIad qSlc qIdx ldBox ldCells stBox appX awpF awpOpsF awpDF xopF xopDF qval lval seqQ blockQ loopQ bodyF retKF cnd arith IntKind.wrap

theorem num_Q_Neg {cs : List C} {p : R2} {k : Nat} (hx : IsQ cs p) (bp : Bd k p) (hk : k ≤ 268435456) : semC Tryz.prog n_num_Q_Neg [.agg cs] (QK (-p.1, p.2)) := by
  refine semC_of_awpF ok_num_Q_Neg rfl (show HFVs [.agg cs] from ⟨hx.hf, trivial⟩) ?_
  obtain ⟨a, b, c, d, e, f, rfl, h1, h2⟩ := hx.six
  refine go2 ?_
  refine call_C (num_Z_Neg h1 bp.n (by omega)) (fun u hu => ?_)
  obtain ⟨es, rfl, h3⟩ := hu
  obtain ⟨_, _, _, rfl⟩ := h3.three
  refine go2 ?_
  exact QK.fz (p := (-p.1, p.2)) (.of h3 h2)
theorem num_Q_Sub {S : Int → Prop} {n k : Nat} (hS : SCl S n) (hQ : QuoOk S) {cs ds : List C} {p q : R2} (hx : IsQ cs p) (hy : IsQ ds q) (bp : Bd k p) (bq : Bd k q) (hk : k + k ≤ 268435456) (s1 : S (p.1 * q.2 + -q.1 * p.2)) (s2 : S (p.2 * q.2)) : semC Tryz.prog n_num_Q_Sub [.agg cs, .agg ds] (QRedK (p.1 * q.2 + -q.1 * p.2) (p.2 * q.2)) := by
  refine semC_of_awpF ok_num_Q_Sub rfl (show HFVs [.agg cs, .agg ds] from ⟨hx.hf, hy.hf, trivial⟩) ?_
  obtain ⟨_, _, _, _, _, _, rfl, _⟩ := hx.six
  obtain ⟨_, _, _, _, _, _, rfl, _⟩ := hy.six
  have bn : Bd k ((-q.1, q.2) : R2) := ⟨bq.n.neg, bq.d, bq.pos⟩
  refine go2 ?_
  refine call_C (num_Q_Neg hy bq (by omega)) (fun u hu => ?_)
  obtain ⟨es, rfl, h3⟩ := hu
  refine go2 ?_
  refine call_C (num_Q_Add hS hQ hx h3 bp bn hk s1 s2) (fun u hu => ?_)
  obtain ⟨gs, r, rfl, r1, red⟩ := hu.red
  obtain ⟨_, _, _, _, _, _, rfl, _⟩ := r1.six
  refine go2 ?_
  exact QRedK.fz r1 red.pos red.gcd red.eq red.n red.d
theorem num_Q_Sign {cs : List C} {p : R2} (hx : IsQ cs p) : semC Tryz.prog n_num_Q_Sign [.agg cs] (IntK (sgn p.1)) := by
  refine semC_of_awpF ok_num_Q_Sign rfl (show HFVs [.agg cs] from ⟨hx.hf, trivial⟩) ?_
  obtain ⟨a, b, c, d, e, f, rfl, h1, h2⟩ := hx.six
  refine go2 ?_
  refine semH_of_semC (num_Z_Sign h1) (fun u hu => ?_)
  obtain rfl := hu
  refine go2 ?_
  exact IntK.fz
theorem span_hasZero {cs : List C} {x : SP} (hx : IsE cs x) : semC Tryz.prog n_span_hasZero [.agg cs] (EqK (.c (.bool (zeroB x)))) := by
  refine semC_of_awpF ok_span_hasZero rfl (show HFVs [.agg cs] from ⟨hx.hf, trivial⟩) ?_
  obtain ⟨a, b, c, d, e, f, a', b', c', d', e', f', rfl, q1, q2⟩ := hx.parts
  unfold zeroB
  refine go2 ?_
  refine semH_of_semC (num_Q_Sign q1) (fun u hu => ?_)
  obtain rfl := hu
  refine go2 ?_
  rw [sgn_leq]
  cases d1 : dec (x.1.1 ≤ 0)
  · refine go2 ?_
    exact ⟨_, .c (.hf trivial), rfl⟩
  · refine go2 ?_
    refine semH_of_semC (num_Q_Sign q2) (fun u hu => ?_)
    obtain rfl := hu
    refine go2 ?_
    rw [sgn_geq]
    exact ⟨_, .c (.hf trivial), rfl⟩
def TurnK (x : SP) (u : V) : Prop := ∃ cs t, u = .agg cs ∧ IsE cs t ∧ Turn x t
theorem span_turned {cs : List C} {x : SP} (hx : IsE cs x) (bx : BdS 2 x) (h1 : x.1.1 ≠ 0) (h2 : x.2.1 ≠ 0) : semC Tryz.prog n_span_turned [.agg cs] (TurnK x) := by
  refine semC_of_awpF ok_span_turned rfl (show HFVs [.agg cs] from ⟨hx.hf, trivial⟩) ?_
  obtain ⟨a, b, c, d, e, f, a', b', c', d', e', f', rfl, q1, q2⟩ := hx.parts
  have b1 : Bd 2 ((1, 1) : R2) := ⟨by unfold Sz; decide, by unfold Sz; decide, by decide⟩
  have s : ∀ z, Sz 2 z → Sz 64 (1 * z) := fun z h => by rw [Int.one_mul]; exact h.up (by decide)
  refine go2 ?_
  refine call_C (num_Int (g := 1) (by omega) (by omega)) (fun u hu => ?_)
  obtain ⟨es, rfl, i1⟩ := hu
  refine go2 ?_
  refine call_C (num_Q_Div hS64 hQ64 i1 q2 b1 bx.hi (by decide) h2 (s _ bx.hi.d) (s _ bx.hi.n)) (fun u hu => ?_)
  obtain ⟨fs, t1, rfl, j1, red1⟩ := hu.red
  refine go2 ?_
  refine call_C (num_Int (g := 1) (by omega) (by omega)) (fun u hu => ?_)
  obtain ⟨es2, rfl, i2⟩ := hu
  refine go2 ?_
  refine call_C (num_Q_Div hS64 hQ64 i2 q1 b1 bx.lo (by decide) h1 (s _ bx.lo.d) (s _ bx.lo.n)) (fun u hu => ?_)
  obtain ⟨gs, t2, rfl, j2, red2⟩ := hu.red
  obtain ⟨_, _, _, _, _, _, rfl, _⟩ := j1.six
  obtain ⟨_, _, _, _, _, _, rfl, _⟩ := j2.six
  refine go2 ?_
  have hE : IsE _ ((t1, t2) : SP) := .of j1 j2
  exact ⟨_, .agg (.hf hE.hf), _, (t1, t2), rfl, hE, red1, red2⟩
theorem outward8 {cs : List C} {x : SP} {g : Int} (hx : IsE cs x) (bx : BdS 8 x) (g1 : 1 ≤ g) (g2 : g ≤ 1000000) : semC Tryz.prog n_span_outward [.agg cs, i64 g] (OutwK x g) :=
  span_outward (k := 8) hS64 hQ64 hx bx (by decide) g1 g2 ((bx.lo.n.mul (grid_sz g1 g2)).up (by decide)) ((bx.hi.n.mul (grid_sz g1 g2)).up (by decide)) (bx.lo.d.up (by decide)) (bx.hi.d.up (by decide)) ((grid_sz g1 g2).up (by decide))
theorem ProdK.ends {x y : SP} {u : V} (h : ProdK x y u) : ∃ cs e, u = .agg cs ∧ IsE cs e ∧ EndsMul x y e := by
  obtain ⟨cs, r1, r2, r3, r4, h1, a1, a2, a3, a4, h2⟩ := h
  exact ⟨cs, _, h1, h2, r1, r2, r3, r4, a1, a2, a3, a4, rfl⟩
theorem products2 {cs ds : List C} {x y : SP} (hx : IsE cs x) (hy : IsE ds y) (bx : BdS 2 x) (by' : BdS 2 y) : semC Tryz.prog n_span_products [.agg cs, .agg ds] (ProdK x y) :=
  span_products (k := 2) hS64 hQ64 hx hy bx by' (by decide) (fun p q hp hq => by
    rcases hp with rfl | rfl <;> rcases hq with rfl | rfl
    · exact ⟨(bx.lo.n.mul by'.lo.n).up (by decide), (bx.lo.d.mul by'.lo.d).up (by decide)⟩
    · exact ⟨(bx.lo.n.mul by'.hi.n).up (by decide), (bx.lo.d.mul by'.hi.d).up (by decide)⟩
    · exact ⟨(bx.hi.n.mul by'.lo.n).up (by decide), (bx.hi.d.mul by'.lo.d).up (by decide)⟩
    · exact ⟨(bx.hi.n.mul by'.hi.n).up (by decide), (bx.hi.d.mul by'.hi.d).up (by decide)⟩)
theorem toldV_fz (x : SP) {H : Hp} {K : V → Prop} (k : K (toldV x)) : ∃ e, FzV H (toldV x) e ∧ K e := by
  refine ⟨_, ?_, k⟩
  unfold toldV
  cases fitR x.1 && fitR x.2
  · exact .tup (.cons (.agg (.hf HFL_zero)) (.cons (.c (.hf trivial)) .nil))
  · exact .tup (.cons (.agg (.hf (HFL_span x))) (.cons (.c (.hf trivial)) .nil))
theorem span_fz (s : SP) (e : Int) {H : Hp} {K : V → Prop} (k : K (.tup [.agg (spanC s), i64 e])) : ∃ d, FzV H (.tup [.agg (spanC s), i64 e]) d ∧ K d := ⟨_, .tup (.cons (.agg (.hf (HFL_span s))) (.cons (.c (.hf trivial)) .nil)), k⟩

theorem span_Add (x y : SP) (g : Int) : semC Tryz.prog n_span_Add [.agg (spanC x), .agg (spanC y), i64 g] (AnsK 0 x y g) := by
  refine semC_of_awpF ok_span_Add rfl (show HFVs [.agg (spanC x), .agg (spanC y), i64 g] from ⟨HFL_span x, HFL_span y, trivial, trivial⟩) ?_
  refine go2 ?_
  refine semH_of_semC_close [3] (.cons (.c (.hf trivial)) (.cons (.c (fz_sl (ds := [x, y].flatMap spanC) (by rfl) (by rfl) (by simp) (by rfl) (HFL_spans [x, y]))) .nil)) (span_check g [x, y] (by simp)) (fun u hu => ?_)
  obtain rfl := hu
  unfold checkV
  cases hc : checkB g [x, y]
  case false =>
    refine go2 ?_
    refine c_t (by simp [compare']) ?_
    refine go2 ?_
    exact span_fz ((0, 0), (0, 0)) 1 (.bad hc)
  case true =>
    obtain ⟨o1, o2, g1, g2⟩ := check_out hc
    have bx := o1.bd
    have by' := o2.bd
    simp only [spanC, zeroC, ratC, zeroE, zeroS, List.set_cons_zero, List.set_cons_succ, List.nil_append, List.cons_append, List.append_nil, List.replicate_succ, List.replicate_zero, List.length_cons, List.length_nil, splice, List.take_succ_cons, List.take_zero, List.drop_succ_cons, List.drop_zero, List.take_nil, List.drop_nil, Nat.zero_add, Nat.reduceAdd, Nat.reduceMul, Int.reduceToNat, closeB, List.getElem?_cons_succ, List.getElem?_cons_zero]
    refine go2 ?_
    refine c_f (by simp [compare']) ?_
    refine go2 ?_
    refine call_C (span_of o1.1 o1.2.1) (fun u hu => ?_)
    obtain ⟨cs, rfl, i1⟩ := hu
    refine go2 ?_
    refine call_C (span_of o2.1 o2.2.1) (fun u hu => ?_)
    obtain ⟨ds, rfl, i2⟩ := hu
    obtain ⟨_, _, _, _, _, _, _, _, _, _, _, _, rfl, q1, q2⟩ := i1.parts
    obtain ⟨_, _, _, _, _, _, _, _, _, _, _, _, rfl, q3, q4⟩ := i2.parts
    refine go2 ?_
    simp only [spanC, zeroC, ratC, zeroE, zeroS, List.set_cons_zero, List.set_cons_succ, List.nil_append, List.cons_append, List.append_nil, List.replicate_succ, List.replicate_zero, List.length_cons, List.length_nil, splice, List.take_succ_cons, List.take_zero, List.drop_succ_cons, List.drop_zero, List.take_nil, List.drop_nil, Nat.zero_add, Nat.reduceAdd, Nat.reduceMul, Int.reduceToNat, closeB, List.getElem?_cons_succ, List.getElem?_cons_zero]
    refine call_C (num_Q_Add hS64 hQ64 q1 q3 bx.lo by'.lo (by decide) (((bx.lo.n.mul by'.lo.d).add (by'.lo.n.mul bx.lo.d)).up (by decide)) ((bx.lo.d.mul by'.lo.d).up (by decide))) (fun u hu => ?_)
    obtain ⟨es, r1, rfl, j1, red1⟩ := hu.red
    refine go2 ?_
    refine call_C (num_Q_Add hS64 hQ64 q2 q4 bx.hi by'.hi (by decide) (((bx.hi.n.mul by'.hi.d).add (by'.hi.n.mul bx.hi.d)).up (by decide)) ((bx.hi.d.mul by'.hi.d).up (by decide))) (fun u hu => ?_)
    obtain ⟨fs, r2, rfl, j2, red2⟩ := hu.red
    obtain ⟨_, _, _, _, _, _, rfl, _⟩ := j1.six
    obtain ⟨_, _, _, _, _, _, rfl, _⟩ := j2.six
    have en : Ends 0 x y (r1, r2) := ⟨red1, red2⟩
    have be := (EndsAdd.bd bx by' en).up5 (by decide)
    refine go2 ?_
    refine call_C (outward8 (x := (r1, r2)) (.of j1 j2) be g1 g2) (fun u hu => ?_)
    have hu' := hu
    obtain ⟨s, er, rfl⟩ := hu'.shape
    refine go2 ?_
    exact span_fz s er (.of hc (fun h => absurd h.1 (by decide)) en hu)
theorem span_Sub (x y : SP) (g : Int) : semC Tryz.prog n_span_Sub [.agg (spanC x), .agg (spanC y), i64 g] (AnsK 1 x y g) := by
  refine semC_of_awpF ok_span_Sub rfl (show HFVs [.agg (spanC x), .agg (spanC y), i64 g] from ⟨HFL_span x, HFL_span y, trivial, trivial⟩) ?_
  refine go2 ?_
  refine semH_of_semC_close [3] (.cons (.c (.hf trivial)) (.cons (.c (fz_sl (ds := [x, y].flatMap spanC) (by rfl) (by rfl) (by simp) (by rfl) (HFL_spans [x, y]))) .nil)) (span_check g [x, y] (by simp)) (fun u hu => ?_)
  obtain rfl := hu
  unfold checkV
  cases hc : checkB g [x, y]
  case false =>
    refine go2 ?_
    refine c_t (by simp [compare']) ?_
    refine go2 ?_
    exact span_fz ((0, 0), (0, 0)) 1 (.bad hc)
  case true =>
    obtain ⟨o1, o2, g1, g2⟩ := check_out hc
    have bx := o1.bd
    have by' := o2.bd
    simp only [spanC, zeroC, ratC, zeroE, zeroS, List.set_cons_zero, List.set_cons_succ, List.nil_append, List.cons_append, List.append_nil, List.replicate_succ, List.replicate_zero, List.length_cons, List.length_nil, splice, List.take_succ_cons, List.take_zero, List.drop_succ_cons, List.drop_zero, List.take_nil, List.drop_nil, Nat.zero_add, Nat.reduceAdd, Nat.reduceMul, Int.reduceToNat, closeB, List.getElem?_cons_succ, List.getElem?_cons_zero]
    refine go2 ?_
    refine c_f (by simp [compare']) ?_
    refine go2 ?_
    refine call_C (span_of o1.1 o1.2.1) (fun u hu => ?_)
    obtain ⟨cs, rfl, i1⟩ := hu
    refine go2 ?_
    refine call_C (span_of o2.1 o2.2.1) (fun u hu => ?_)
    obtain ⟨ds, rfl, i2⟩ := hu
    obtain ⟨_, _, _, _, _, _, _, _, _, _, _, _, rfl, q1, q2⟩ := i1.parts
    obtain ⟨_, _, _, _, _, _, _, _, _, _, _, _, rfl, q3, q4⟩ := i2.parts
    refine go2 ?_
    simp only [spanC, zeroC, ratC, zeroE, zeroS, List.set_cons_zero, List.set_cons_succ, List.nil_append, List.cons_append, List.append_nil, List.replicate_succ, List.replicate_zero, List.length_cons, List.length_nil, splice, List.take_succ_cons, List.take_zero, List.drop_succ_cons, List.drop_zero, List.take_nil, List.drop_nil, Nat.zero_add, Nat.reduceAdd, Nat.reduceMul, Int.reduceToNat, closeB, List.getElem?_cons_succ, List.getElem?_cons_zero]
    refine call_C (num_Q_Sub hS64 hQ64 q1 q4 bx.lo by'.hi (by decide) (((bx.lo.n.mul by'.hi.d).add (by'.hi.n.neg.mul bx.lo.d)).up (by decide)) ((bx.lo.d.mul by'.hi.d).up (by decide))) (fun u hu => ?_)
    obtain ⟨es, r1, rfl, j1, red1⟩ := hu.red
    refine go2 ?_
    refine call_C (num_Q_Sub hS64 hQ64 q2 q3 bx.hi by'.lo (by decide) (((bx.hi.n.mul by'.lo.d).add (by'.lo.n.neg.mul bx.hi.d)).up (by decide)) ((bx.hi.d.mul by'.lo.d).up (by decide))) (fun u hu => ?_)
    obtain ⟨fs, r2, rfl, j2, red2⟩ := hu.red
    obtain ⟨_, _, _, _, _, _, rfl, _⟩ := j1.six
    obtain ⟨_, _, _, _, _, _, rfl, _⟩ := j2.six
    have en : Ends 1 x y (r1, r2) := ⟨red1, red2⟩
    have be := (EndsSub.bd bx by' en).up5 (by decide)
    refine go2 ?_
    refine call_C (outward8 (x := (r1, r2)) (.of j1 j2) be g1 g2) (fun u hu => ?_)
    have hu' := hu
    obtain ⟨s, er, rfl⟩ := hu'.shape
    refine go2 ?_
    exact span_fz s er (.of hc (fun h => absurd h.1 (by decide)) en hu)
theorem span_Mul (x y : SP) (g : Int) : semC Tryz.prog n_span_Mul [.agg (spanC x), .agg (spanC y), i64 g] (AnsK 2 x y g) := by
  refine semC_of_awpF ok_span_Mul rfl (show HFVs [.agg (spanC x), .agg (spanC y), i64 g] from ⟨HFL_span x, HFL_span y, trivial, trivial⟩) ?_
  refine go2 ?_
  refine semH_of_semC_close [3] (.cons (.c (.hf trivial)) (.cons (.c (fz_sl (ds := [x, y].flatMap spanC) (by rfl) (by rfl) (by simp) (by rfl) (HFL_spans [x, y]))) .nil)) (span_check g [x, y] (by simp)) (fun u hu => ?_)
  obtain rfl := hu
  unfold checkV
  cases hc : checkB g [x, y]
  case false =>
    refine go2 ?_
    refine c_t (by simp [compare']) ?_
    refine go2 ?_
    exact span_fz ((0, 0), (0, 0)) 1 (.bad hc)
  case true =>
    obtain ⟨o1, o2, g1, g2⟩ := check_out hc
    have bx := o1.bd
    have by' := o2.bd
    simp only [spanC, zeroC, ratC, zeroE, zeroS, List.set_cons_zero, List.set_cons_succ, List.nil_append, List.cons_append, List.append_nil, List.replicate_succ, List.replicate_zero, List.length_cons, List.length_nil, splice, List.take_succ_cons, List.take_zero, List.drop_succ_cons, List.drop_zero, List.take_nil, List.drop_nil, Nat.zero_add, Nat.reduceAdd, Nat.reduceMul, Int.reduceToNat, closeB, List.getElem?_cons_succ, List.getElem?_cons_zero]
    refine go2 ?_
    refine c_f (by simp [compare']) ?_
    refine go2 ?_
    refine call_C (span_of o1.1 o1.2.1) (fun u hu => ?_)
    obtain ⟨cs, rfl, i1⟩ := hu
    refine go2 ?_
    refine call_C (span_of o2.1 o2.2.1) (fun u hu => ?_)
    obtain ⟨ds, rfl, i2⟩ := hu
    refine go2 ?_
    refine call_C (products2 i1 i2 bx by') (fun u hu => ?_)
    obtain ⟨es, e, rfl, j1, en⟩ := hu.ends
    have be := (EndsMul.bd bx by' en).up5 (by decide)
    refine go2 ?_
    refine call_C (outward8 j1 be g1 g2) (fun u hu => ?_)
    have hu' := hu
    obtain ⟨s, er, rfl⟩ := hu'.shape
    refine go2 ?_
    exact span_fz s er (.of hc (fun h => absurd h.1 (by decide)) en hu)
theorem span_Div (x y : SP) (g : Int) : semC Tryz.prog n_span_Div [.agg (spanC x), .agg (spanC y), i64 g] (AnsK 3 x y g) := by
  refine semC_of_awpF ok_span_Div rfl (show HFVs [.agg (spanC x), .agg (spanC y), i64 g] from ⟨HFL_span x, HFL_span y, trivial, trivial⟩) ?_
  refine go2 ?_
  refine semH_of_semC_close [3] (.cons (.c (.hf trivial)) (.cons (.c (fz_sl (ds := [x, y].flatMap spanC) (by rfl) (by rfl) (by simp) (by rfl) (HFL_spans [x, y]))) .nil)) (span_check g [x, y] (by simp)) (fun u hu => ?_)
  obtain rfl := hu
  unfold checkV
  cases hc : checkB g [x, y]
  case false =>
    refine go2 ?_
    refine c_t (by simp [compare']) ?_
    refine go2 ?_
    exact span_fz ((0, 0), (0, 0)) 1 (.bad hc)
  case true =>
    obtain ⟨o1, o2, g1, g2⟩ := check_out hc
    have bx := o1.bd
    have by' := o2.bd
    simp only [spanC, zeroC, ratC, zeroE, zeroS, List.set_cons_zero, List.set_cons_succ, List.nil_append, List.cons_append, List.append_nil, List.replicate_succ, List.replicate_zero, List.length_cons, List.length_nil, splice, List.take_succ_cons, List.take_zero, List.drop_succ_cons, List.drop_zero, List.take_nil, List.drop_nil, Nat.zero_add, Nat.reduceAdd, Nat.reduceMul, Int.reduceToNat, closeB, List.getElem?_cons_succ, List.getElem?_cons_zero]
    refine go2 ?_
    refine c_f (by simp [compare']) ?_
    refine go2 ?_
    refine semH_of_semC (span_of o2.1 o2.2.1) (fun u hu => ?_)
    obtain ⟨ds, rfl, i2⟩ := hu
    have i2' := i2
    obtain ⟨a1, a2, a3, a4, a5, a6, b1, b2, b3, b4, b5, b6, rfl, _⟩ := i2'.parts
    refine go2 ?_
    refine semH_of_semC (span_hasZero i2) (fun u hu => ?_)
    obtain rfl := hu
    cases hz : zeroB y
    case true =>
      refine go2 ?_
      exact span_fz ((0, 0), (0, 0)) 4 (.nil hc hz)
    obtain ⟨n1, n2⟩ := turn_ne o2 hz
    refine go2 ?_
    refine call_C (span_of o1.1 o1.2.1) (fun u hu => ?_)
    obtain ⟨cs, rfl, i1⟩ := hu
    refine go2 ?_
    refine call_C (span_turned i2 by' n1 n2) (fun u hu => ?_)
    obtain ⟨ts, t, rfl, i3, tn⟩ := hu
    refine go2 ?_
    refine call_C (products2 i1 i3 bx (tn.bd by')) (fun u hu => ?_)
    obtain ⟨es, e, rfl, j1, en0⟩ := hu.ends
    have en : Ends 3 x y e := ⟨t, tn, en0⟩
    have be := (EndsMul.bd bx (tn.bd by') en0).up5 (by decide)
    refine go2 ?_
    refine call_C (outward8 j1 be g1 g2) (fun u hu => ?_)
    have hu' := hu
    obtain ⟨s, er, rfl⟩ := hu'.shape
    refine go2 ?_
    exact span_fz s er (.of hc (fun h => by rw [hz] at h; cases h.2) en hu)
end Go.Proofs.YtjncgcnofiaiaaaGreat

/-
  isoclineref05: Plus, Less, Times, Over, Wide, Do; the law of sums, differences, products and quotients.
-/
set_option linter.unusedVariables false
set_option linter.unusedSimpArgs false
namespace Go.Proofs.YtjncgcnofiaiaaaGreat
open Go.RowKit
set_option maxRecDepth 20000

def SRK (R : SP → Prop) (u : V) : Prop := ∃ cs e, u = .agg cs ∧ IsS cs e ∧ R e
def WideR (x : SP) (g : Int) (e : SP) : Prop := Red (x.1.1 * g / x.1.2) g e.1 ∧ Red (-(-(x.2.1 * g) / x.2.2)) g e.2
theorem SRK.fz {R : SP → Prop} {e : SP} {cs : List C} {H : Hp} (h : IsS cs e) (r : R e) : ∃ d, FzV H (.agg cs) d ∧ SRK R d := ⟨_, .agg (.hf h.hf), cs, e, rfl, h, r⟩
theorem rw_zero : IsW [.nilSl, .bool false] 0 := .mk (l := []) false .nil Norm.nil (fun h => by cases h)
theorem rq_zero : IsRQ [.nilSl, .bool false, .nilSl, .bool false] ((0, 1) : R2).1 ((0, 1) : R2).2 := .mk rw_zero rw_zero
theorem grid_sz1 {k : Nat} {g : Int} (hk : 1 ≤ k) (g1 : 1 ≤ g) (g2 : g ≤ 1000000) : Sz k g := by
  have : Sz 1 g := by
    unfold Sz
    simp only [Nat.pow_one]
    omega
  exact this.up hk
theorem rr_eq {n d n' d' : Int} {u : V} (h : RRK n d u) (h1 : n = n') (h2 : d = d') : RRK n' d' u := by subst h1 h2; exact h
theorem SpanOk.two {x : SP} (h : SpanOk x) : 0 < x.1.2 ∧ 0 < x.2.2 := ⟨by have := h.1.1; omega, by have := h.2.1.1; omega⟩
theorem wide_lo {x : R2} {g : Int} {p q r : R2} (hx : 0 < x.2) (hg : 0 < g) (h1 : Red (x.1 * g) (x.2 * 1) p) (h2 : q = (p.1 / p.2, 1)) (h3 : Red (q.1 * 1) (q.2 * g) r) : Red (x.1 * g / x.2) g r := by
  subst h2
  simp only [Int.mul_one, Int.one_mul] at h1 h3
  rwa [red_floor h1.pos hx h1.eq] at h3
theorem wide_hi {x : R2} {g : Int} {p q r : R2} (hx : 0 < x.2) (hg : 0 < g) (h1 : Red (x.1 * g) (x.2 * 1) p) (h2 : q = (-(-p.1 / p.2), 1)) (h3 : Red (q.1 * 1) (q.2 * g) r) : Red (-(-(x.1 * g) / x.2)) g r := by
  subst h2
  simp only [Int.mul_one, Int.one_mul] at h1 h3
  rwa [red_floor (p1 := -p.1) (n := -(x.1 * g)) h1.pos hx (by rw [Int.neg_mul, h1.eq, Int.neg_mul])] at h3
attribute [local irreducible] compare' semH semC qLen qNil qIad qSlc qIdx ldBox ldCells stBox appX awpF awpOpsF awpDF xopF xopDF qval lval seqQ blockQ loopQ bodyF retKF cnd arith IntKind.wrap

theorem ref01_IsGrid (g : Int) : semC Tryz.prog n_ref01_IsGrid [i64 g] (BoolK (1 ≤ g ∧ g ≤ 1000000)) := by
  refine semC_of_awpF ok_ref01_IsGrid rfl (show HFVs [i64 g] from ⟨trivial, trivial⟩) ?_
  refine go2 ?_
  cases h1 : compare' Cm.geq g 1
  · refine go2 ?_
    exact ⟨_, .c (.hf trivial), false, rfl, by simp [compare'] at h1; simp; omega⟩
  · refine go2 ?_
    cases h2 : compare' Cm.leq g 1000000
    · exact ⟨_, .c (.hf trivial), false, rfl, by simp [compare'] at h1 h2; simp; omega⟩
    · exact ⟨_, .c (.hf trivial), true, rfl, by simp [compare'] at h1 h2; simp; omega⟩

theorem ref05_Plus {k : Nat} {cs ds : List C} {x y : SP} (hx : IsS cs x) (hy : IsS ds y) (bx : BdS k x) (by' : BdS k y) (hk : k + k + 1 ≤ 268435456) : semC Tryz.prog n_ref05_Plus [.agg cs, .agg ds] (SRK (EndsAdd x y)) := by
  refine semC_of_awpF ok_ref05_Plus rfl (show HFVs [.agg cs, .agg ds] from ⟨hx.hf, hy.hf, trivial⟩) ?_
  obtain ⟨a, b, c, d, a', b', c', d', rfl, q1, q2⟩ := hx.parts
  obtain ⟨e, f, g, h, e', f', g', h', rfl, q3, q4⟩ := hy.parts
  refine go2 ?_
  simp only [spanC, zeroC, ratC, zeroE, zeroS, List.set_cons_zero, List.set_cons_succ, List.nil_append, List.cons_append, List.append_nil, List.replicate_succ, List.replicate_zero, List.length_cons, List.length_nil, splice, List.take_succ_cons, List.take_zero, List.drop_succ_cons, List.drop_zero, List.take_nil, List.drop_nil, Nat.zero_add, Nat.reduceAdd, Nat.reduceMul, Int.reduceToNat, closeB, List.getElem?_cons_succ, List.getElem?_cons_zero]
  refine call_C (ref01_Q_Add q1 q3 bx.lo by'.lo hk) (fun u hu => ?_)
  obtain ⟨es, r1, rfl, j1, red1⟩ := hu
  refine go2 ?_
  refine call_C (ref01_Q_Add q2 q4 bx.hi by'.hi hk) (fun u hu => ?_)
  obtain ⟨fs, r2, rfl, j2, red2⟩ := hu
  obtain ⟨_, _, _, _, _, rfl, _⟩ := id j1.four
  obtain ⟨_, _, _, _, _, rfl, _⟩ := id j2.four
  refine go2 ?_
  exact SRK.fz (e := (r1, r2)) (.of j1 j2) ⟨red1, red2⟩
theorem ref05_Less {k : Nat} {cs ds : List C} {x y : SP} (hx : IsS cs x) (hy : IsS ds y) (bx : BdS k x) (by' : BdS k y) (hk : k + k + 1 ≤ 268435456) : semC Tryz.prog n_ref05_Less [.agg cs, .agg ds] (SRK (EndsSub x y)) := by
  refine semC_of_awpF ok_ref05_Less rfl (show HFVs [.agg cs, .agg ds] from ⟨hx.hf, hy.hf, trivial⟩) ?_
  obtain ⟨a, b, c, d, a', b', c', d', rfl, q1, q2⟩ := hx.parts
  obtain ⟨e, f, g, h, e', f', g', h', rfl, q3, q4⟩ := hy.parts
  refine go2 ?_
  simp only [spanC, zeroC, ratC, zeroE, zeroS, List.set_cons_zero, List.set_cons_succ, List.nil_append, List.cons_append, List.append_nil, List.replicate_succ, List.replicate_zero, List.length_cons, List.length_nil, splice, List.take_succ_cons, List.take_zero, List.drop_succ_cons, List.drop_zero, List.take_nil, List.drop_nil, Nat.zero_add, Nat.reduceAdd, Nat.reduceMul, Int.reduceToNat, closeB, List.getElem?_cons_succ, List.getElem?_cons_zero]
  refine call_C (ref01_Q_Sub q1 q4 bx.lo by'.hi hk) (fun u hu => ?_)
  obtain ⟨es, r1, rfl, j1, red1⟩ := hu
  refine go2 ?_
  refine call_C (ref01_Q_Sub q2 q3 bx.hi by'.lo hk) (fun u hu => ?_)
  obtain ⟨fs, r2, rfl, j2, red2⟩ := hu
  obtain ⟨_, _, _, _, _, rfl, _⟩ := id j1.four
  obtain ⟨_, _, _, _, _, rfl, _⟩ := id j2.four
  refine go2 ?_
  exact SRK.fz (e := (r1, r2)) (.of j1 j2) ⟨red1, red2⟩
theorem ref05_Times {k : Nat} {cs ds : List C} {x y : SP} (hx : IsS cs x) (hy : IsS ds y) (bx : BdS k x) (by' : BdS k y) (hk : k + k + 1 ≤ 268435456) : semC Tryz.prog n_ref05_Times [.agg cs, .agg ds] (SRK (EndsMul x y)) := by
  refine semC_of_awpF ok_ref05_Times rfl (show HFVs [.agg cs, .agg ds] from ⟨hx.hf, hy.hf, trivial⟩) ?_
  obtain ⟨a, b, c, d, a', b', c', d', rfl, q1, q2⟩ := hx.parts
  obtain ⟨e, f, g, h, e', f', g', h', rfl, q3, q4⟩ := hy.parts
  refine go3 ?_
  simp only [spanC, zeroC, ratC, zeroE, zeroS, List.set_cons_zero, List.set_cons_succ, List.nil_append, List.cons_append, List.append_nil, List.replicate_succ, List.replicate_zero, List.length_cons, List.length_nil, splice, List.take_succ_cons, List.take_zero, List.drop_succ_cons, List.drop_zero, List.take_nil, List.drop_nil, Nat.zero_add, Nat.reduceAdd, Nat.reduceMul, Int.reduceToNat, closeB, List.getElem?_cons_succ, List.getElem?_cons_zero]
  refine call_C (ref01_Q_Mul q1 q3 bx.lo by'.lo hk) (fun u hu => ?_)
  obtain ⟨e1, r1, rfl, j1, red1⟩ := hu
  refine go3 ?_
  refine call_C (ref01_Q_Mul q1 q4 bx.lo by'.hi hk) (fun u hu => ?_)
  obtain ⟨e2, r2, rfl, j2, red2⟩ := hu
  refine go3 ?_
  refine call_C (ref01_Q_Mul q2 q3 bx.hi by'.lo hk) (fun u hu => ?_)
  obtain ⟨e3, r3, rfl, j3, red3⟩ := hu
  refine go3 ?_
  refine semH_of_semC (ref01_Q_Mul q2 q4 bx.hi by'.hi hk) (fun u hu => ?_)
  obtain ⟨e4, r4, rfl, j4, red4⟩ := hu
  have b1 := red1.bd (bx.lo.n.mul by'.lo.n) (bx.lo.d.mul by'.lo.d)
  have b2 := red2.bd (bx.lo.n.mul by'.hi.n) (bx.lo.d.mul by'.hi.d)
  have b3 := red3.bd (bx.hi.n.mul by'.lo.n) (bx.hi.d.mul by'.lo.d)
  have b4 := red4.bd (bx.hi.n.mul by'.hi.n) (bx.hi.d.mul by'.hi.d)
  obtain ⟨s1, s2, s3, s4, _, rfl, _⟩ := id j1.four
  obtain ⟨t1, t2, t3, t4, _, rfl, _⟩ := id j2.four
  obtain ⟨u1, u2, u3, u4, _, rfl, _⟩ := id j3.four
  obtain ⟨v1, v2, v3, v4, _, rfl, _⟩ := id j4.four
  refine go3 ?_
  simp only [spanC, zeroC, ratC, zeroE, zeroS, List.set_cons_zero, List.set_cons_succ, List.nil_append, List.cons_append, List.append_nil, List.replicate_succ, List.replicate_zero, List.length_cons, List.length_nil, splice, List.take_succ_cons, List.take_zero, List.drop_succ_cons, List.drop_zero, List.take_nil, List.drop_nil, Nat.zero_add, Nat.reduceAdd, Nat.reduceMul, Int.reduceToNat, closeB, List.getElem?_cons_succ, List.getElem?_cons_zero]
  refine semH_of_semC_close [3] (.cons (.c (fz_sl (ds := ([([s1, .bool s2, s3, .bool s4], r1), ([t1, .bool t2, t3, .bool t4], r2), ([u1, .bool u2, u3, .bool u4], r3), ([v1, .bool v2, v3, .bool v4], r4)] : List Cv).flatMap (·.1)) (by rfl) (by rfl) (by simp) (by rfl) ?_)) .nil) (ref05_least (k := k + k) (l := [([s1, .bool s2, s3, .bool s4], r1), ([t1, .bool t2, t3, .bool t4], r2), ([u1, .bool u2, u3, .bool u4], r3), ([v1, .bool v2, v3, .bool v4], r4)]) (by simp) (by simp) ?_ (by omega)) (fun u hu => ?_)
  · exact HFL_app j1.hf (HFL_app j2.hf (HFL_app j3.hf (HFL_app j4.hf trivial)))
  · intro e he
    simp at he
    rcases he with rfl | rfl | rfl | rfl
    · exact ⟨j1, b1⟩
    · exact ⟨j2, b2⟩
    · exact ⟨j3, b3⟩
    · exact ⟨j4, b4⟩
  rw [foldV_map] at hu
  obtain ⟨es, rfl, h5⟩ := hu
  obtain ⟨_, _, _, _, _, _, _, _, rfl, _⟩ := id h5.parts
  simp only [spanC, zeroC, ratC, zeroE, zeroS, List.set_cons_zero, List.set_cons_succ, List.nil_append, List.cons_append, List.append_nil, List.replicate_succ, List.replicate_zero, List.length_cons, List.length_nil, splice, List.take_succ_cons, List.take_zero, List.drop_succ_cons, List.drop_zero, List.take_nil, List.drop_nil, Nat.zero_add, Nat.reduceAdd, Nat.reduceMul, Int.reduceToNat, closeB, List.getElem?_cons_succ, List.getElem?_cons_zero]
  refine go3 ?_
  exact SRK.fz (e := [r1, r2, r3, r4].foldl wider (r1, r1)) h5 ⟨r1, r2, r3, r4, red1, red2, red3, red4, rfl⟩
theorem ref05_Over {k : Nat} {cs ds : List C} {x y : SP} (hx : IsS cs x) (hy : IsS ds y) (bx : BdS k x) (by' : BdS k y) (hk : k + k + 3 ≤ 268435456) (h1 : y.1.1 ≠ 0) (h2 : y.2.1 ≠ 0) : semC Tryz.prog n_ref05_Over [.agg cs, .agg ds] (SRK (EndsDiv x y)) := by
  refine semC_of_awpF ok_ref05_Over rfl (show HFVs [.agg cs, .agg ds] from ⟨hx.hf, hy.hf, trivial⟩) ?_
  have bt : ∀ {t : SP}, Turn y t → BdS k t := fun h => by
    have a1 := h.1
    have a2 := h.2
    simp only [Int.one_mul] at a1 a2
    exact ⟨a1.bd by'.hi.d by'.hi.n, a2.bd by'.lo.d by'.lo.n⟩
  obtain ⟨a, b, c, d, a', b', c', d', rfl, q1, q2⟩ := hx.parts
  obtain ⟨e, f, g, h, e', f', g', h', rfl, q3, q4⟩ := hy.parts
  refine go2 ?_
  simp only [spanC, zeroC, ratC, zeroE, zeroS, List.set_cons_zero, List.set_cons_succ, List.nil_append, List.cons_append, List.append_nil, List.replicate_succ, List.replicate_zero, List.length_cons, List.length_nil, splice, List.take_succ_cons, List.take_zero, List.drop_succ_cons, List.drop_zero, List.take_nil, List.drop_nil, Nat.zero_add, Nat.reduceAdd, Nat.reduceMul, Int.reduceToNat, closeB, List.getElem?_cons_succ, List.getElem?_cons_zero]
  refine call_C (ref01_Q_Inv q4 by'.hi hk h2) (fun u hu => ?_)
  obtain ⟨es, r1, rfl, j1, red1⟩ := hu
  refine go2 ?_
  refine call_C (ref01_Q_Inv q3 by'.lo hk h1) (fun u hu => ?_)
  obtain ⟨fs, r2, rfl, j2, red2⟩ := hu
  obtain ⟨_, _, _, _, _, rfl, _⟩ := id j1.four
  obtain ⟨_, _, _, _, _, rfl, _⟩ := id j2.four
  refine go2 ?_
  have tn : Turn y (r1, r2) := ⟨red1, red2⟩
  refine call_C (ref05_Times hx (y := (r1, r2)) (.of j1 j2) bx (bt tn) (by omega)) (fun u hu => ?_)
  obtain ⟨gs, e, rfl, j3, red3⟩ := hu
  obtain ⟨_, _, _, _, _, _, _, _, rfl, _⟩ := id j3.parts
  refine go2 ?_
  exact SRK.fz j3 ⟨_, tn, red3⟩
theorem ref05_Wide {k : Nat} {cs : List C} {x : SP} {g : Int} (hx : IsS cs x) (bx : BdS k x) (hk1 : 2 ≤ k) (hk : k + k + k + k + 5 ≤ 268435456) (g1 : 1 ≤ g) (g2 : g ≤ 1000000) : semC Tryz.prog n_ref05_Wide [.agg cs, i64 g] (SRK (WideR x g)) := by
  refine semC_of_awpF ok_ref05_Wide rfl (show HFVs [.agg cs, i64 g] from ⟨hx.hf, trivial, trivial⟩) ?_
  obtain ⟨a, b, c, d, a', b', c', d', rfl, q1, q2⟩ := hx.parts
  have b1 : ∀ {n : Nat}, Sz (n + 1) 1 := Sz.one
  have s1 : Sz k 1 := (Sz.one (n := 0)).up (by omega)
  have bg : Bd k ((g, 1) : R2) := ⟨grid_sz1 (by omega) g1 g2, s1, by simp⟩
  refine go2 ?_
  refine semH_of_semC (ref01_Int (g := g) (by omega) (by omega)) (fun u hu => ?_)
  obtain ⟨es, rfl, h1⟩ := hu
  obtain ⟨_, _, _, _, _, rfl, _⟩ := id h1.four
  refine go2 ?_
  simp only [spanC, zeroC, ratC, zeroE, zeroS, List.set_cons_zero, List.set_cons_succ, List.nil_append, List.cons_append, List.append_nil, List.replicate_succ, List.replicate_zero, List.length_cons, List.length_nil, splice, List.take_succ_cons, List.take_zero, List.drop_succ_cons, List.drop_zero, List.take_nil, List.drop_nil, Nat.zero_add, Nat.reduceAdd, Nat.reduceMul, Int.reduceToNat, closeB, List.getElem?_cons_succ, List.getElem?_cons_zero]
  refine call_C (ref01_Q_Mul q1 h1 bx.lo bg (by omega)) (fun u hu => ?_)
  obtain ⟨fs, p, rfl, j1, red1⟩ := hu
  have bp : Bd (k + k) p := red1.bd (bx.lo.n.mul bg.n) (bx.lo.d.mul bg.d)
  refine go2 ?_
  refine call_C (ref01_Q_Floor j1 bp (by omega)) (fun u hu => ?_)
  obtain ⟨gs, rfl, j2⟩ := hu
  have bf : Bd (k + k) ((p.1 / p.2, 1) : R2) := ⟨Nat.lt_of_le_of_lt (ediv_le bp.pos) bp.n, s1.up (by omega), by simp⟩
  refine go2 ?_
  refine call_C (ref01_Q_Div j2 h1 bf ⟨bg.n.up (by omega), bg.d.up (by omega), bg.pos⟩ (by omega) (show g ≠ 0 by omega)) (fun u hu => ?_)
  obtain ⟨hs, r, rfl, j3, red3⟩ := hu
  have w1 := wide_lo bx.lo.pos (show 0 < g by omega) red1 rfl red3
  refine go2 ?_
  refine call_C (ref01_Q_Mul q2 h1 bx.hi bg (by omega)) (fun u hu => ?_)
  obtain ⟨fs', p', rfl, j1', red1'⟩ := hu
  have bp' : Bd (k + k) p' := red1'.bd (bx.hi.n.mul bg.n) (bx.hi.d.mul bg.d)
  refine go2 ?_
  refine call_C (ref01_Q_Ceil j1' bp' (by omega)) (fun u hu => ?_)
  obtain ⟨gs', rfl, j2'⟩ := hu
  have bf' : Bd (k + k) ((-(-p'.1 / p'.2), 1) : R2) := ⟨by
    have := ediv_le (a := -p'.1) bp'.pos
    have h := bp'.n
    unfold Sz at *
    simp only [Int.natAbs_neg] at *
    exact Nat.lt_of_le_of_lt this h, s1.up (by omega), by simp⟩
  refine go2 ?_
  refine call_C (ref01_Q_Div j2' h1 bf' ⟨bg.n.up (by omega), bg.d.up (by omega), bg.pos⟩ (by omega) (show g ≠ 0 by omega)) (fun u hu => ?_)
  obtain ⟨hs', r', rfl, j3', red3'⟩ := hu
  have w2 := wide_hi bx.hi.pos (show 0 < g by omega) red1' rfl red3'
  obtain ⟨_, _, _, _, _, rfl, _⟩ := id j3.four
  obtain ⟨_, _, _, _, _, rfl, _⟩ := id j3'.four
  refine go2 ?_
  exact SRK.fz (e := (r, r')) (.of j3 j3') ⟨w1, w2⟩
theorem ref05_Do (kind : Nat) (hkd : kind ≤ 3) (x y : SP) (g : Int) : semC Tryz.prog n_ref05_Do [i64 kind, .agg (spanC x), .agg (spanC y), i64 g] (AnsK kind x y g) := by
  refine semC_of_awpF ok_ref05_Do rfl (show HFVs [i64 kind, .agg (spanC x), .agg (spanC y), i64 g] from ⟨trivial, HFL_span x, HFL_span y, trivial, trivial⟩) ?_
  have bad : ∀ {H : Hp}, ¬ (SpanOk x ∧ SpanOk y ∧ 1 ≤ g ∧ g ≤ 1000000) → ∃ e, FzV H (.tup [.agg (spanC ((0, 0), (0, 0))), i64 1]) e ∧ AnsK kind x y g e := fun h => span_fz ((0, 0), (0, 0)) 1 (.bad (check_no h))
  refine go2 ?_
  refine semH_of_semC (ref05_Is x) (fun u hu => ?_)
  obtain ⟨z1, rfl, h1⟩ := hu
  cases z1
  case false =>
    refine go2 ?_
    exact bad (fun h => absurd (h1.2 h.1) (by decide))
  have r1 := h1.1 rfl
  refine go2 ?_
  refine semH_of_semC (ref05_Is y) (fun u hu => ?_)
  obtain ⟨z2, rfl, h2⟩ := hu
  cases z2
  case false =>
    refine go2 ?_
    exact bad (fun h => absurd (h2.2 h.2.1) (by decide))
  have r2 := h2.1 rfl
  refine go2 ?_
  refine semH_of_semC (ref01_IsGrid g) (fun u hu => ?_)
  obtain ⟨z3, rfl, h3⟩ := hu
  cases z3
  case false =>
    refine go2 ?_
    exact bad (fun h => absurd (h3.2 h.2.2) (by decide))
  obtain ⟨g1, g2⟩ := h3.1 rfl
  have hc := check_yes r1 r2 g1 g2
  have bx := r1.bd
  have by' := r2.bd
  clear bad h1 h2 h3
  refine go2 ?_
  simp only [spanC, zeroC, ratC, zeroE, zeroS, List.set_cons_zero, List.set_cons_succ, List.nil_append, List.cons_append, List.append_nil, List.replicate_succ, List.replicate_zero, List.length_cons, List.length_nil, splice, List.take_succ_cons, List.take_zero, List.drop_succ_cons, List.drop_zero, List.take_nil, List.drop_nil, Nat.zero_add, Nat.reduceAdd, Nat.reduceMul, Int.reduceToNat, closeB, List.getElem?_cons_succ, List.getElem?_cons_zero]
  refine call_C (ref05_Of r1.1 r1.2.1) (fun u hu => ?_)
  obtain ⟨cs, rfl, i1⟩ := hu
  refine go2 ?_
  refine call_C (ref05_Of r2.1 r2.2.1) (fun u hu => ?_)
  obtain ⟨ds, rfl, i2⟩ := hu
  obtain ⟨a, b, c, d, a', b', c', d', rfl, _⟩ := id i1.parts
  obtain ⟨e, f, g, h, e', f', g', h', rfl, _⟩ := id i2.parts
  refine go2 ?_
  simp only [spanC, zeroC, ratC, zeroE, zeroS, List.set_cons_zero, List.set_cons_succ, List.nil_append, List.cons_append, List.append_nil, List.replicate_succ, List.replicate_zero, List.length_cons, List.length_nil, splice, List.take_succ_cons, List.take_zero, List.drop_succ_cons, List.drop_zero, List.take_nil, List.drop_nil, Nat.zero_add, Nat.reduceAdd, Nat.reduceMul, Int.reduceToNat, closeB, List.getElem?_cons_succ, List.getElem?_cons_zero]
  refine semH_of_semC (ref05_Plus i1 i2 bx by' (by decide)) (fun u hu => ?_)
  obtain ⟨es, z0, rfl, i3, en⟩ := hu
  have be := (EndsAdd.bd bx by' en).up5 (by decide)
  obtain ⟨_, _, _, _, _, _, _, _, rfl, _⟩ := id i3.parts
  refine go2 ?_
  simp only [spanC, zeroC, ratC, zeroE, zeroS, List.set_cons_zero, List.set_cons_succ, List.nil_append, List.cons_append, List.append_nil, List.replicate_succ, List.replicate_zero, List.length_cons, List.length_nil, splice, List.take_succ_cons, List.take_zero, List.drop_succ_cons, List.drop_zero, List.take_nil, List.drop_nil, Nat.zero_add, Nat.reduceAdd, Nat.reduceMul, Int.reduceToNat, closeB, List.getElem?_cons_succ, List.getElem?_cons_zero]
  have hk' : kind = 0 ∨ kind = 1 ∨ kind = 2 ∨ kind = 3 := by omega
  rcases hk' with rfl | rfl | rfl | rfl
  case inl =>
    refine c_f (by simp [compare']) ?_
    refine go2 ?_
    refine c_f (by simp [compare']) ?_
    refine go2 ?_
    refine c_f (by simp [compare']) ?_
    refine go2 ?_
    have en' : Ends 0 x y z0 := en
    have hz : ¬ ((0 : Nat) = 3 ∧ zeroB y = true) := fun h => absurd h.1 (by decide)
    refine semH_of_semC (ref05_Wide i3 be (by decide) (by decide) g1 g2) (fun u hu => ?_)
    obtain ⟨fs, w, rfl, i4, w1, w2⟩ := hu
    refine go2 ?_
    refine semH_of_semC (ref05_Told i4 w1.pos w2.pos) (fun u hu => ?_)
    obtain rfl := hu
    have ans : AnsK _ x y _ (toldV w) := .of hc hz en' ⟨w.1, w.2, w1, w2, rfl⟩
    obtain ⟨s, er, he⟩ := id ans.shape
    rw [he] at ans
    rw [he]
    refine go2 ?_
    exact span_fz s er ans
  case inr.inl =>
    refine c_t (by simp [compare']) ?_
    refine go2 ?_
    refine semH_of_semC (ref05_Less i1 i2 bx by' (by decide)) (fun u hu => ?_)
    obtain ⟨es, z1, rfl, i3, en⟩ := hu
    have be := (EndsSub.bd bx by' en).up5 (by decide)
    obtain ⟨_, _, _, _, _, _, _, _, rfl, _⟩ := id i3.parts
    have en' : Ends 1 x y z1 := en
    have hz : ¬ ((1 : Nat) = 3 ∧ zeroB y = true) := fun h => absurd h.1 (by decide)
    refine go2 ?_
    simp only [spanC, zeroC, ratC, zeroE, zeroS, List.set_cons_zero, List.set_cons_succ, List.nil_append, List.cons_append, List.append_nil, List.replicate_succ, List.replicate_zero, List.length_cons, List.length_nil, splice, List.take_succ_cons, List.take_zero, List.drop_succ_cons, List.drop_zero, List.take_nil, List.drop_nil, Nat.zero_add, Nat.reduceAdd, Nat.reduceMul, Int.reduceToNat, closeB, List.getElem?_cons_succ, List.getElem?_cons_zero]
    refine semH_of_semC (ref05_Wide i3 be (by decide) (by decide) g1 g2) (fun u hu => ?_)
    obtain ⟨fs, w, rfl, i4, w1, w2⟩ := hu
    refine go2 ?_
    refine semH_of_semC (ref05_Told i4 w1.pos w2.pos) (fun u hu => ?_)
    obtain rfl := hu
    have ans : AnsK _ x y _ (toldV w) := .of hc hz en' ⟨w.1, w.2, w1, w2, rfl⟩
    obtain ⟨s, er, he⟩ := id ans.shape
    rw [he] at ans
    rw [he]
    refine go2 ?_
    exact span_fz s er ans
  case inr.inr.inl =>
    refine c_f (by simp [compare']) ?_
    refine go2 ?_
    refine c_t (by simp [compare']) ?_
    refine go2 ?_
    refine semH_of_semC (ref05_Times i1 i2 bx by' (by decide)) (fun u hu => ?_)
    obtain ⟨es, z1, rfl, i3, en⟩ := hu
    have be := (EndsMul.bd bx by' en).up5 (by decide)
    obtain ⟨_, _, _, _, _, _, _, _, rfl, _⟩ := id i3.parts
    have en' : Ends 2 x y z1 := en
    have hz : ¬ ((2 : Nat) = 3 ∧ zeroB y = true) := fun h => absurd h.1 (by decide)
    refine go2 ?_
    simp only [spanC, zeroC, ratC, zeroE, zeroS, List.set_cons_zero, List.set_cons_succ, List.nil_append, List.cons_append, List.append_nil, List.replicate_succ, List.replicate_zero, List.length_cons, List.length_nil, splice, List.take_succ_cons, List.take_zero, List.drop_succ_cons, List.drop_zero, List.take_nil, List.drop_nil, Nat.zero_add, Nat.reduceAdd, Nat.reduceMul, Int.reduceToNat, closeB, List.getElem?_cons_succ, List.getElem?_cons_zero]
    refine semH_of_semC (ref05_Wide i3 be (by decide) (by decide) g1 g2) (fun u hu => ?_)
    obtain ⟨fs, w, rfl, i4, w1, w2⟩ := hu
    refine go2 ?_
    refine semH_of_semC (ref05_Told i4 w1.pos w2.pos) (fun u hu => ?_)
    obtain rfl := hu
    have ans : AnsK _ x y _ (toldV w) := .of hc hz en' ⟨w.1, w.2, w1, w2, rfl⟩
    obtain ⟨s, er, he⟩ := id ans.shape
    rw [he] at ans
    rw [he]
    refine go2 ?_
    exact span_fz s er ans
  case inr.inr.inr =>
    refine c_f (by simp [compare']) ?_
    refine go2 ?_
    refine c_f (by simp [compare']) ?_
    refine go2 ?_
    refine c_t (by simp [compare']) ?_
    refine go2 ?_
    refine semH_of_semC (ref05_Holds (p := (0, 1)) (k := 2) i2 rq_zero by' ⟨by unfold Sz; decide, by unfold Sz; decide, by decide⟩ (by decide)) (fun u hu => ?_)
    obtain rfl := hu
    rw [holds_zero]
    cases hz0 : zeroB y
    case true =>
      refine go2 ?_
      exact span_fz ((0, 0), (0, 0)) 4 (.nil hc hz0)
    obtain ⟨n1, n2⟩ := turn_ne r2 hz0
    refine go2 ?_
    refine semH_of_semC (ref05_Over i1 i2 bx by' (by decide) n1 n2) (fun u hu => ?_)
    obtain ⟨es, z1, rfl, i3, en⟩ := hu
    obtain ⟨t, tn, en0⟩ := id en
    have be := (EndsMul.bd bx (tn.bd by') en0).up5 (by decide)
    obtain ⟨_, _, _, _, _, _, _, _, rfl, _⟩ := id i3.parts
    have en' : Ends 3 x y z1 := en
    have hz : ¬ ((3 : Nat) = 3 ∧ zeroB y = true) := fun h => by rw [hz0] at h; cases h.2
    refine go2 ?_
    simp only [spanC, zeroC, ratC, zeroE, zeroS, List.set_cons_zero, List.set_cons_succ, List.nil_append, List.cons_append, List.append_nil, List.replicate_succ, List.replicate_zero, List.length_cons, List.length_nil, splice, List.take_succ_cons, List.take_zero, List.drop_succ_cons, List.drop_zero, List.take_nil, List.drop_nil, Nat.zero_add, Nat.reduceAdd, Nat.reduceMul, Int.reduceToNat, closeB, List.getElem?_cons_succ, List.getElem?_cons_zero]
    refine semH_of_semC (ref05_Wide i3 be (by decide) (by decide) g1 g2) (fun u hu => ?_)
    obtain ⟨fs, w, rfl, i4, w1, w2⟩ := hu
    refine go2 ?_
    refine semH_of_semC (ref05_Told i4 w1.pos w2.pos) (fun u hu => ?_)
    obtain rfl := hu
    have ans : AnsK _ x y _ (toldV w) := .of hc hz en' ⟨w.1, w.2, w1, w2, rfl⟩
    obtain ⟨s, er, he⟩ := id ans.shape
    rw [he] at ans
    rw [he]
    refine go2 ?_
    exact span_fz s er ans
end Go.Proofs.YtjncgcnofiaiaaaGreat

/-
  The law of sums, differences, products and quotients: its own function.
-/
set_option linter.unusedVariables false
set_option linter.unusedSimpArgs false
namespace Go.Proofs.YtjncgcnofiaiaaaGreat
open Go.RowKit
set_option maxRecDepth 20000

theorem cm_neq' (a : Int) : compare' Cm.neq a a = false := by simp [compare']
attribute [local irreducible] compare' semH semC qLen qNil qIad qSlc qIdx ldBox ldCells stBox appX awpF awpOpsF awpDF xopF xopDF qval lval seqQ blockQ loopQ bodyF retKF cnd arith IntKind.wrap

theorem law05_done (kind : Nat) (hkd : kind ≤ 3) (x y : SP) (g : Int) : semC Tryz.prog n_law05_done [i64 kind, .agg (spanC x), .agg (spanC y), i64 g] (AnsK kind x y g) := by
  refine semC_of_awpF ok_law05_done rfl (show HFVs [i64 kind, .agg (spanC x), .agg (spanC y), i64 g] from ⟨trivial, HFL_span x, HFL_span y, trivial, trivial⟩) ?_
  have hk' : kind = 0 ∨ kind = 1 ∨ kind = 2 ∨ kind = 3 := by omega
  refine go2 ?_
  rcases hk' with rfl | rfl | rfl | rfl
  case inl =>
    refine c_t (by simp [compare']) ?_
    refine go2 ?_
    refine semH_of_semC (span_Add x y g) (fun u hu => ?_)
    obtain ⟨s, e, rfl⟩ := id hu.shape
    refine go2 ?_
    exact span_fz s e hu
  case inr.inl =>
    refine c_f (by simp [compare']) ?_
    refine go2 ?_
    refine c_t (by simp [compare']) ?_
    refine go2 ?_
    refine semH_of_semC (span_Sub x y g) (fun u hu => ?_)
    obtain ⟨s, e, rfl⟩ := id hu.shape
    refine go2 ?_
    exact span_fz s e hu
  case inr.inr.inl =>
    refine c_f (by simp [compare']) ?_
    refine go2 ?_
    refine c_f (by simp [compare']) ?_
    refine go2 ?_
    refine c_t (by simp [compare']) ?_
    refine go2 ?_
    refine semH_of_semC (span_Mul x y g) (fun u hu => ?_)
    obtain ⟨s, e, rfl⟩ := id hu.shape
    refine go2 ?_
    exact span_fz s e hu
  case inr.inr.inr =>
    refine c_f (by simp [compare']) ?_
    refine go2 ?_
    refine c_f (by simp [compare']) ?_
    refine go2 ?_
    refine c_f (by simp [compare']) ?_
    refine go2 ?_
    refine semH_of_semC (span_Div x y g) (fun u hu => ?_)
    obtain ⟨s, e, rfl⟩ := id hu.shape
    refine go2 ?_
    exact span_fz s e hu
def bxS (x : SP) : Slot := .live ⟨spanC x, T_api_Span, .rw⟩
theorem law05_SpanArith (x y : SP) (g : Int) : semC Tryz.prog n_law05_SpanArith [.agg (spanC x), .agg (spanC y), i64 g] (EqK (.c (.bool true))) := by
  refine semC_of_awpF ok_law05_SpanArith rfl (show HFVs [.agg (spanC x), .agg (spanC y), i64 g] from ⟨HFL_span x, HFL_span y, trivial, trivial⟩) ?_
  refine go2 ?_
  refine f_loop (fun n vs H => ∃ (k : Nat) (l : List SP), vs = [i64 g, .c (.ptr 0 0), .c (.ptr 1 0), i64 k] ∧ H = bxS x :: bxS y :: l.map bxS ∧ l.length = 2 * k ∧ n = 4 - k ∧ k ≤ 4) (by rfl) ⟨0, [], rfl, rfl, rfl, rfl, by omega⟩ ?_
  rintro n vs H ⟨k, l, rfl, rfl, hl, rfl, hk⟩
  refine go2 ?_
  have hk' : k = 0 ∨ k = 1 ∨ k = 2 ∨ k = 3 ∨ k = 4 := by omega
  rcases hk' with rfl | rfl | rfl | rfl | rfl
  case inl =>
    match l, hl with
    | [], _ =>
      refine c_t (by simp [compare']) ?_
      refine go2 ?_
      refine semH_of_semC (law05_done _ (by decide) x y g) (fun u hu => ?_)
      obtain ⟨s, e, rfl⟩ := id hu.shape
      refine go2 ?_
      refine semH_of_semC (ref05_Do _ (by decide) x y g) (fun u hu2 => ?_)
      obtain rfl := AnsK.det (by decide) hu2 hu
      refine go2 ?_
      simp only [spanC, zeroC, ratC, zeroE, zeroS, List.set_cons_zero, List.set_cons_succ, List.nil_append, List.cons_append, List.append_nil, List.replicate_succ, List.replicate_zero, List.length_cons, List.length_nil, splice, List.take_succ_cons, List.take_zero, List.drop_succ_cons, List.drop_zero, List.take_nil, List.drop_nil, Nat.zero_add, Nat.reduceAdd, Nat.reduceMul, Int.reduceToNat, closeB, List.getElem?_cons_succ, List.getElem?_cons_zero]
      simp only [beq_self_eq_true, Bool.and_self, cond_true, cond_false, Bool.not_true, cm_neq']
      refine go2 ?_
      simp only [beq_self_eq_true, Bool.and_self, cond_true, cond_false, Bool.not_true, cm_neq']
      refine go2 ?_
      rw [addI1 0 (by omega)]
      exact l_n (n' := 3) (by rfl) (by omega) ⟨1, [s, s], rfl, rfl, rfl, rfl, by omega⟩
  case inr.inl =>
    match l, hl with
    | [a1, a2], _ =>
      refine c_t (by simp [compare']) ?_
      refine go2 ?_
      refine semH_of_semC (law05_done _ (by decide) x y g) (fun u hu => ?_)
      obtain ⟨s, e, rfl⟩ := id hu.shape
      refine go2 ?_
      refine semH_of_semC (ref05_Do _ (by decide) x y g) (fun u hu2 => ?_)
      obtain rfl := AnsK.det (by decide) hu2 hu
      refine go2 ?_
      simp only [spanC, zeroC, ratC, zeroE, zeroS, List.set_cons_zero, List.set_cons_succ, List.nil_append, List.cons_append, List.append_nil, List.replicate_succ, List.replicate_zero, List.length_cons, List.length_nil, splice, List.take_succ_cons, List.take_zero, List.drop_succ_cons, List.drop_zero, List.take_nil, List.drop_nil, Nat.zero_add, Nat.reduceAdd, Nat.reduceMul, Int.reduceToNat, closeB, List.getElem?_cons_succ, List.getElem?_cons_zero]
      simp only [beq_self_eq_true, Bool.and_self, cond_true, cond_false, Bool.not_true, cm_neq']
      refine go2 ?_
      simp only [beq_self_eq_true, Bool.and_self, cond_true, cond_false, Bool.not_true, cm_neq']
      refine go2 ?_
      rw [addI1 1 (by omega)]
      exact l_n (n' := 2) (by rfl) (by omega) ⟨2, [a1, a2, s, s], rfl, rfl, rfl, rfl, by omega⟩
  case inr.inr.inl =>
    match l, hl with
    | [a1, a2, a3, a4], _ =>
      refine c_t (by simp [compare']) ?_
      refine go2 ?_
      refine semH_of_semC (law05_done _ (by decide) x y g) (fun u hu => ?_)
      obtain ⟨s, e, rfl⟩ := id hu.shape
      refine go2 ?_
      refine semH_of_semC (ref05_Do _ (by decide) x y g) (fun u hu2 => ?_)
      obtain rfl := AnsK.det (by decide) hu2 hu
      refine go2 ?_
      simp only [spanC, zeroC, ratC, zeroE, zeroS, List.set_cons_zero, List.set_cons_succ, List.nil_append, List.cons_append, List.append_nil, List.replicate_succ, List.replicate_zero, List.length_cons, List.length_nil, splice, List.take_succ_cons, List.take_zero, List.drop_succ_cons, List.drop_zero, List.take_nil, List.drop_nil, Nat.zero_add, Nat.reduceAdd, Nat.reduceMul, Int.reduceToNat, closeB, List.getElem?_cons_succ, List.getElem?_cons_zero]
      simp only [beq_self_eq_true, Bool.and_self, cond_true, cond_false, Bool.not_true, cm_neq']
      refine go2 ?_
      simp only [beq_self_eq_true, Bool.and_self, cond_true, cond_false, Bool.not_true, cm_neq']
      refine go2 ?_
      rw [addI1 2 (by omega)]
      exact l_n (n' := 1) (by rfl) (by omega) ⟨3, [a1, a2, a3, a4, s, s], rfl, rfl, rfl, rfl, by omega⟩
  case inr.inr.inr.inl =>
    match l, hl with
    | [a1, a2, a3, a4, a5, a6], _ =>
      refine c_t (by simp [compare']) ?_
      refine go2 ?_
      refine semH_of_semC (law05_done _ (by decide) x y g) (fun u hu => ?_)
      obtain ⟨s, e, rfl⟩ := id hu.shape
      refine go2 ?_
      refine semH_of_semC (ref05_Do _ (by decide) x y g) (fun u hu2 => ?_)
      obtain rfl := AnsK.det (by decide) hu2 hu
      refine go2 ?_
      simp only [spanC, zeroC, ratC, zeroE, zeroS, List.set_cons_zero, List.set_cons_succ, List.nil_append, List.cons_append, List.append_nil, List.replicate_succ, List.replicate_zero, List.length_cons, List.length_nil, splice, List.take_succ_cons, List.take_zero, List.drop_succ_cons, List.drop_zero, List.take_nil, List.drop_nil, Nat.zero_add, Nat.reduceAdd, Nat.reduceMul, Int.reduceToNat, closeB, List.getElem?_cons_succ, List.getElem?_cons_zero]
      simp only [beq_self_eq_true, Bool.and_self, cond_true, cond_false, Bool.not_true, cm_neq']
      refine go2 ?_
      simp only [beq_self_eq_true, Bool.and_self, cond_true, cond_false, Bool.not_true, cm_neq']
      refine go2 ?_
      rw [addI1 3 (by omega)]
      exact l_n (n' := 0) (by rfl) (by omega) ⟨4, [a1, a2, a3, a4, a5, a6, s, s], rfl, rfl, rfl, rfl, by omega⟩
  case inr.inr.inr.inr =>
    refine c_f (by simp [compare']) ?_
    refine go2 ?_
    refine semH_of_semC law05_known (fun u hu => ?_)
    obtain rfl := hu
    refine go2 ?_
    exact ⟨_, .c (.hf trivial), rfl⟩
end Go.Proofs.YtjncgcnofiaiaaaGreat

/-
  Powers of numbers and spans: what the answers are; num.Q.Pow, isoclineref01.Q.Pow.
-/
set_option linter.unusedVariables false
set_option linter.unusedSimpArgs false
namespace Go.Proofs.YtjncgcnofiaiaaaGreat
open Go.RowKit
set_option maxRecDepth 20000

def pw (p : R2) (n : Nat) : R2 := (p.1 ^ n, p.2 ^ n)
def Good (p : R2) : Prop := 0 < p.2 ∧ Int.gcd p.1 p.2 = 1
theorem IsRat.good {p : R2} (h : IsRat p.1 p.2) : Good p := ⟨by have := h.1; omega, h.2.2.2.2⟩
theorem pow_pos' {a : Int} (h : 0 < a) : ∀ n : Nat, 0 < a ^ n
  | 0 => by simp
  | n + 1 => by rw [Int.pow_succ]; exact Int.mul_pos (pow_pos' h n) h
theorem gcd_pow {a b : Int} (n : Nat) (h : Int.gcd a b = 1) : Int.gcd (a ^ n) (b ^ n) = 1 := by
  unfold Int.gcd at *
  rw [Int.natAbs_pow, Int.natAbs_pow]
  exact Nat.Coprime.pow n n h
theorem pw_good {p : R2} (h : Good p) (n : Nat) : Good (pw p n) := ⟨pow_pos' h.1 n, gcd_pow n h.2⟩
theorem pw_zero (p : R2) : pw p 0 = (1, 1) := by
  unfold pw
  rw [Int.pow_zero, Int.pow_zero]
theorem pw_step {p r : R2} {i : Nat} (hg : Good p) (h : Red ((pw p i).1 * p.1) ((pw p i).2 * p.2) r) : r = pw p (i + 1) := by
  have h' : Red (pw p (i + 1)).1 (pw p (i + 1)).2 r := by
    unfold pw
    rw [Int.pow_succ, Int.pow_succ]
    exact h
  exact h'.eq_of (pw_good hg _).2 (pw_good hg _).1
theorem Bd.to {k m : Nat} {p : R2} (h : Bd k p) (hk : k ≤ m) : Bd m p := ⟨h.n.up hk, h.d.up hk, h.pos⟩
theorem Sz.mul2 {n m : Nat} {a b : Int} (h1 : Sz n a) (h2 : Sz m b) : Sz (n + m) (a * b) := by
  unfold Sz at *
  rw [Int.natAbs_mul, Nat.pow_add]
  exact Nat.mul_lt_mul'' h1 h2
theorem pw_bd {p : R2} (hg : Good p) (h : Bd 2 p) : ∀ i : Nat, Bd (2 * i + 1) (pw p i)
  | 0 => ⟨by unfold pw Sz; simp, by unfold pw Sz; simp, by unfold pw; simp⟩
  | i + 1 => by
    have ih := pw_bd hg h i
    have e : 2 * (i + 1) + 1 = (2 * i + 1) + 2 := by omega
    rw [e]
    refine ⟨?_, ?_, (pw_good hg _).1⟩
    · show Sz (2 * i + 1 + 2) (p.1 ^ (i + 1))
      rw [Int.pow_succ]
      exact ih.n.mul2 h.n
    · show Sz (2 * i + 1 + 2) (p.2 ^ (i + 1))
      rw [Int.pow_succ]
      exact ih.d.mul2 h.d
theorem pw_bd32 {p : R2} (hg : Good p) (h : Bd 2 p) {i : Nat} (hi : i ≤ 12) : Bd 32 (pw p i) := (pw_bd hg h i).to (by omega)

/-! ### The least span of some numbers does not depend on their order -/
theorem Good.uniq {p q : R2} (hp : Good p) (hq : Good q) (h1 : ¬ lessR p q) (h2 : ¬ lessR q p) : p = q := by
  unfold lessR at h1 h2
  obtain ⟨e1, e2⟩ := red_uniq hp.2 hq.2 hp.1 hq.1 (show p.1 * q.2 = q.1 * p.2 by omega)
  exact Prod.ext e1 e2
theorem not_less_trans {p q r : R2} (hp : 0 < p.2) (hq : 0 < q.2) (hr : 0 < r.2) (h1 : ¬ lessR q p) (h2 : ¬ lessR r q) : ¬ lessR r p := by
  unfold lessR at *
  intro h
  have a1 : p.1 * q.2 ≤ q.1 * p.2 := by omega
  have a2 : q.1 * r.2 ≤ r.1 * q.2 := by omega
  have b1 := Int.mul_le_mul_of_nonneg_right a1 (show 0 ≤ r.2 by omega)
  have b2 := Int.mul_le_mul_of_nonneg_right a2 (show 0 ≤ p.2 by omega)
  have b3 := Int.mul_lt_mul_of_pos_right h hq
  grind
theorem mn_cases (p q : R2) : (mnR p q = p ∧ ¬ lessR q p) ∨ (mnR p q = q ∧ lessR q p) := by
  unfold mnR
  cases h : dec (lessR q p)
  · exact .inl ⟨rfl, dec_false.1 h⟩
  · exact .inr ⟨rfl, dec_true.1 h⟩
theorem mx_cases (p q : R2) : (mxR p q = p ∧ ¬ lessR p q) ∨ (mxR p q = q ∧ lessR p q) := by
  unfold mxR
  cases h : dec (lessR p q)
  · exact .inl ⟨rfl, dec_false.1 h⟩
  · exact .inr ⟨rfl, dec_true.1 h⟩
theorem lt_not {p q : R2} (h : lessR p q) : ¬ lessR q p := by unfold lessR at *; omega
/-- The least and the greatest of the numbers. -/
structure Most (l : List R2) (x : SP) : Prop where
  lo : x.1 ∈ l
  hi : x.2 ∈ l
  low : ∀ p ∈ l, ¬ lessR p x.1
  high : ∀ p ∈ l, ¬ lessR x.2 p
theorem Most.step {l : List R2} {x : SP} {p : R2} (hl : ∀ q ∈ l, Good q) (hp : Good p) (h : Most l x) : Most (l ++ [p]) (wider x p) := by
  have g1 := hl _ h.lo
  have g2 := hl _ h.hi
  unfold wider
  refine ⟨?_, ?_, ?_, ?_⟩
  · rcases mn_cases x.1 p with ⟨e, _⟩ | ⟨e, _⟩
    · simp only [e]; exact List.mem_append_left _ h.lo
    · simp only [e]; simp
  · rcases mx_cases x.2 p with ⟨e, _⟩ | ⟨e, _⟩
    · simp only [e]; exact List.mem_append_left _ h.hi
    · simp only [e]; simp
  · intro q hq
    rcases mn_cases x.1 p with ⟨e, e'⟩ | ⟨e, e'⟩ <;> simp only [e] <;> rcases List.mem_append.1 hq with hq | hq
    · exact h.low q hq
    · simp at hq
      subst hq
      exact e'
    · exact not_less_trans hp.1 g1.1 (hl _ hq).1 (lt_not e') (h.low q hq)
    · simp at hq
      subst hq
      exact lessR_irr _
  · intro q hq
    rcases mx_cases x.2 p with ⟨e, e'⟩ | ⟨e, e'⟩ <;> simp only [e] <;> rcases List.mem_append.1 hq with hq | hq
    · exact h.high q hq
    · simp at hq
      subst hq
      exact e'
    · exact not_less_trans (hl _ hq).1 g2.1 hp.1 (h.high q hq) (lt_not e')
    · simp at hq
      subst hq
      exact lessR_irr _
theorem Most.fold : ∀ {m l : List R2} {x : SP}, (∀ q ∈ l, Good q) → (∀ q ∈ m, Good q) → Most l x → Most (l ++ m) (m.foldl wider x)
  | [], l, x, _, _, h => by simpa using h
  | p :: m, l, x, hl, hm, h => by
    have h1 := Most.step hl (hm p (by simp)) h
    have h2 := Most.fold (m := m) (l := l ++ [p]) (fun q hq => by
      rcases List.mem_append.1 hq with hq | hq
      · exact hl q hq
      · simp at hq
        subst hq
        exact hm q (by simp)) (fun q hq => hm q (by simp [hq])) h1
    simpa using h2
theorem Most.one (p : R2) : Most [p] (p, p) := ⟨by simp, by simp, fun q hq => by simp at hq; subst hq; exact lessR_irr _, fun q hq => by simp at hq; subst hq; exact lessR_irr _⟩
theorem Most.all {p : R2} {l : List R2} (hp : Good p) (hl : ∀ q ∈ l, Good q) : Most ([p] ++ l) (l.foldl wider (p, p)) := Most.fold (fun q hq => by simp at hq; subst hq; exact hp) hl (.one p)
theorem Most.uniq {l m : List R2} {x y : SP} (hl : ∀ q ∈ l, Good q) (hm : ∀ q ∈ m, Good q) (h1 : Most l x) (h2 : Most m y) (a : x.1 ∈ m) (b : x.2 ∈ m) (c : ¬ lessR y.1 x.1) (d : ¬ lessR x.2 y.2) : x = y :=
  Prod.ext (Good.uniq (hl _ h1.lo) (hm _ h2.lo) (h2.low _ a) c) (Good.uniq (hl _ h1.hi) (hm _ h2.hi) d (h2.high _ b))
theorem good_zero : Good ((0, 1) : R2) := ⟨by decide, by decide⟩
noncomputable def powS (x : SP) (n : Nat) : SP := bif dec (0 < n) && zeroB x then [pw x.1 n, pw x.2 n, (0, 1)].foldl wider (pw x.1 n, pw x.1 n) else [pw x.1 n, pw x.2 n].foldl wider (pw x.1 n, pw x.1 n)
theorem zeroB_out {x : SP} (h : zeroB x = true) : x.1.1 ≤ 0 ∧ 0 ≤ x.2.1 := by
  unfold zeroB at h
  rw [Bool.and_eq_true] at h
  exact ⟨dec_true.1 h.1, dec_true.1 h.2⟩
theorem odd_le {a : Int} {n : Nat} (h : a ≤ 0) (ho : n % 2 = 1) : a ^ n ≤ 0 := by
  obtain ⟨k, rfl⟩ : ∃ k, n = 2 * k + 1 := ⟨n / 2, by omega⟩
  rw [Int.pow_succ, Int.pow_mul]
  have h1 : 0 ≤ (a ^ 2) ^ k := Int.pow_nonneg (by rw [Int.pow_succ, Int.pow_succ, Int.pow_zero, Int.one_mul]; exact Int.mul_nonneg_of_nonpos_of_nonpos h h)
  exact Int.mul_nonpos_of_nonneg_of_nonpos h1 h
/-- An odd power of a span that holds 0 holds 0 by itself. -/
theorem pow_odd {x : SP} {n : Nat} (g1 : Good x.1) (g2 : Good x.2) (hz : zeroB x = true) (ho : n % 2 = 1) : powS x n = [pw x.1 n, pw x.2 n].foldl wider (pw x.1 n, pw x.1 n) := by
  obtain ⟨z1, z2⟩ := zeroB_out hz
  have p1 := pw_good g1 n
  have p2 := pw_good g2 n
  have l1 : ¬ lessR (0, 1) (pw x.1 n) := by
    unfold lessR pw
    have := odd_le z1 ho
    simp only
    omega
  have l2 : ¬ lessR (pw x.2 n) (0, 1) := by
    unfold lessR pw
    have : 0 ≤ x.2.1 ^ n := Int.pow_nonneg z2
    simp only
    omega
  unfold powS
  rw [hz, dec_true.2 (show 0 < n by omega)]
  simp only [Bool.and_self, cond_true]
  generalize pw x.1 n = L at p1 l1
  generalize pw x.2 n = R at p2 l2
  have a3 : ∀ q ∈ [L, R, (0, 1)], Good q := fun q hq => by
    simp at hq
    rcases hq with rfl | rfl | rfl
    · exact p1
    · exact p2
    · exact good_zero
  have a2 : ∀ q ∈ [L, R], Good q := fun q hq => a3 q (by simp at hq ⊢; rcases hq with rfl | rfl <;> simp)
  have e3 := Most.all p1 a3
  have e2 := Most.all p1 a2
  refine (Most.uniq (l := [L] ++ [L, R]) (m := [L] ++ [L, R, (0, 1)]) (fun q hq => a2 q (by simp at hq ⊢; rcases hq with h | h <;> simp [h])) (fun q hq => a3 q (by simp at hq ⊢; rcases hq with h | h | h <;> simp [h])) e2 e3 ?_ ?_ ?_ ?_).symm
  · have := e2.lo
    simp at this ⊢
    rcases this with h | h <;> simp [h]
  · have := e2.hi
    simp at this ⊢
    rcases this with h | h <;> simp [h]
  · have h := e3.lo
    simp only [List.cons_append, List.nil_append, List.mem_cons, List.not_mem_nil, or_false] at h
    have hL := e2.low L (by simp)
    rcases h with h | h | h | h
    · rw [h]; exact hL
    · rw [h]; exact hL
    · rw [h]; exact e2.low R (by simp)
    · rw [h]
      exact not_less_trans (a2 _ (by simpa using e2.lo)).1 p1.1 (by decide) hL l1
  · have h := e3.hi
    simp only [List.cons_append, List.nil_append, List.mem_cons, List.not_mem_nil, or_false] at h
    have hR := e2.high R (by simp)
    rcases h with h | h | h | h
    · rw [h]; exact e2.high L (by simp)
    · rw [h]; exact e2.high L (by simp)
    · rw [h]; exact hR
    · rw [h]
      exact not_less_trans (by decide) p2.1 (a2 _ (by simpa using e2.hi)).1 l2 hR
/-- An even one, with 0 set ahead. -/
theorem pow_even {x : SP} {n : Nat} (g1 : Good x.1) (g2 : Good x.2) (hz : zeroB x = true) (h0 : 0 < n) : powS x n = [(0, 1), pw x.1 n, pw x.2 n].foldl wider ((0, 1), (0, 1)) := by
  have p1 := pw_good g1 n
  have p2 := pw_good g2 n
  unfold powS
  rw [hz, dec_true.2 h0]
  simp only [Bool.and_self, cond_true]
  generalize pw x.1 n = L at p1
  generalize pw x.2 n = R at p2
  have a3 : ∀ q ∈ [L, R, (0, 1)], Good q := fun q hq => by
    simp at hq
    rcases hq with rfl | rfl | rfl
    · exact p1
    · exact p2
    · exact good_zero
  have a2 : ∀ q ∈ [(0, 1), L, R], Good q := fun q hq => a3 q (by simp at hq ⊢; rcases hq with h | h | h <;> simp [h])
  have e3 := Most.all p1 a3
  have e2 := Most.all good_zero a2
  have s1 : ∀ q ∈ [L] ++ [L, R, (0, 1)], q ∈ [((0, 1) : R2)] ++ [(0, 1), L, R] := fun q hq => by simp at hq ⊢; rcases hq with h | h | h <;> simp [h]
  have s2 : ∀ q ∈ [((0, 1) : R2)] ++ [(0, 1), L, R], q ∈ [L] ++ [L, R, (0, 1)] := fun q hq => by simp at hq ⊢; rcases hq with h | h | h <;> simp [h]
  exact Most.uniq (l := [L] ++ [L, R, (0, 1)]) (m := [(0, 1)] ++ [(0, 1), L, R]) (fun q hq => a3 q (by simp at hq ⊢; rcases hq with h | h | h <;> simp [h])) (fun q hq => a2 q (by simp at hq ⊢; rcases hq with h | h | h <;> simp [h])) e3 e2 (s1 _ e3.lo) (s1 _ e3.hi) (e3.low _ (s2 _ e2.lo)) (e3.high _ (s2 _ e2.hi))
theorem pow_none {x : SP} {n : Nat} (h : ¬ (0 < n ∧ zeroB x = true)) : powS x n = [pw x.1 n, pw x.2 n].foldl wider (pw x.1 n, pw x.1 n) := by
  unfold powS
  cases hz : zeroB x
  · simp only [Bool.and_false, cond_false]
  · rw [dec_false.2 (fun h0 => h ⟨h0, hz⟩)]
    rfl
theorem pow_bd {x : SP} {n : Nat} (g1 : Good x.1) (g2 : Good x.2) (bx : BdS 2 x) (hn : n ≤ 12) : BdS 32 (powS x n) := by
  have b1 := pw_bd32 g1 bx.lo hn
  have b2 := pw_bd32 g2 bx.hi hn
  have b3 : Bd 32 ((0, 1) : R2) := ⟨by unfold Sz; decide, by unfold Sz; decide, by decide⟩
  unfold powS
  cases dec (0 < n) && zeroB x
  · exact BdS.fold (l := [pw x.1 n, pw x.2 n]) ⟨b1, b1⟩ (fun p hp => by
      simp at hp
      rcases hp with rfl | rfl
      · exact b1
      · exact b2)
  · rw [cond_true]
    generalize pw x.1 n = L at b1
    generalize pw x.2 n = R at b2
    exact BdS.fold (l := [L, R, (0, 1)]) ⟨b1, b1⟩ (fun p hp => by
      simp at hp
      rcases hp with rfl | rfl | rfl
      · exact b1
      · exact b2
      · exact b3)
def zeroQ : List C := [.int .i64 0, .nilSl, .bool false, .int .i64 0, .nilSl, .bool false]
def zeroRQ : List C := [.nilSl, .bool false, .nilSl, .bool false]
attribute [local irreducible] compare' semH semC qLen qNil qIad qSlc qIdx ldBox ldCells stBox appX awpF awpOpsF awpDF xopF xopDF qval lval seqQ blockQ loopQ bodyF retKF cnd arith IntKind.wrap

theorem num_Q_Pow {cs : List C} {p : R2} (n : Nat) (hx : IsQ cs p) (bp : Bd 2 p) (hg : Good p) (hn : n ≤ 12) : semC Tryz.prog n_num_Q_Pow [.agg cs, i64 n] (QK (pw p n)) := by
  refine semC_of_awpF ok_num_Q_Pow rfl (show HFVs [.agg cs, i64 n] from ⟨hx.hf, trivial, trivial⟩) ?_
  obtain ⟨a, b, c, d, e, f, rfl, _⟩ := id hx.six
  refine go2 ?_
  refine c_f (by simp [compare']) ?_
  refine go2 ?_
  refine semH_of_semC (num_Int (g := 1) (by omega) (by omega)) (fun u hu => ?_)
  obtain ⟨es, rfl, h1⟩ := hu
  obtain ⟨_, _, _, _, _, _, rfl, _⟩ := id h1.six
  refine go2 ?_
  simp only [spanC, zeroC, ratC, zeroE, zeroS, List.set_cons_zero, List.set_cons_succ, List.nil_append, List.cons_append, List.append_nil, List.replicate_succ, List.replicate_zero, List.length_cons, List.length_nil, splice, List.take_succ_cons, List.take_zero, List.drop_succ_cons, List.drop_zero, List.take_nil, List.drop_nil, Nat.zero_add, Nat.reduceAdd, Nat.reduceMul, Int.reduceToNat, closeB, List.getElem?_cons_succ, List.getElem?_cons_zero]
  refine f_loop (fun m vs H => ∃ (i : Nat) (es : List C), vs = [.c (.ptr 0 0), .c (.ptr 1 0), .c (.ptr 2 0), i64 n, i64 i] ∧ H = [.live ⟨[a, b, c, d, e, f], T_num_Q, .rw⟩, .live ⟨zeroQ, T_num_Q, .rw⟩, .live ⟨es, T_num_Q, .rw⟩] ∧ m = n - i ∧ i ≤ n ∧ IsQ es (pw p i)) (by rfl) ⟨0, _, rfl, rfl, rfl, by omega, by rw [pw_zero]; exact h1⟩ ?_
  clear h1
  rintro m vs H ⟨i, es, rfl, rfl, rfl, h2, h3⟩
  obtain ⟨_, _, _, _, _, _, rfl, _⟩ := id h3.six
  refine go2 ?_
  cases hq : compare' Cm.lss (i : Int) (n : Int)
  · simp [compare'] at hq
    have ei : i = n := by omega
    subst ei
    refine go2 ?_
    exact QK.fz h3
  · simp [compare'] at hq
    have b1 := pw_bd32 hg bp (i := i) (by omega)
    refine go2 ?_
    refine semH_of_semC (num_Q_Mul hS64 hQ64 h3 hx b1 (bp.to (by decide)) (by decide) ((b1.n.mul2 bp.n).up (by decide)) ((b1.d.mul2 bp.d).up (by decide))) (fun u hu => ?_)
    obtain ⟨gs, r, rfl, j1, red⟩ := hu.red
    obtain rfl := pw_step hg red
    obtain ⟨_, _, _, _, _, _, rfl, _⟩ := id j1.six
    refine go2 ?_
    rw [addI1 i (by omega)]
    refine l_n (by rfl) (by omega) ⟨i + 1, _, rfl, rfl, rfl, by omega, j1⟩
theorem ref01_Q_Pow {cs : List C} {p : R2} (n : Nat) (hx : IsRQ cs p.1 p.2) (bp : Bd 2 p) (hg : Good p) (hn : n ≤ 12) : semC Tryz.prog n_ref01_Q_Pow [.agg cs, i64 n] (RQK (pw p n)) := by
  refine semC_of_awpF ok_ref01_Q_Pow rfl (show HFVs [.agg cs, i64 n] from ⟨hx.hf, trivial, trivial⟩) ?_
  obtain ⟨a, b, c, d, _, rfl, _⟩ := id hx.four
  refine go2 ?_
  refine c_f (by simp [compare']) ?_
  refine go2 ?_
  refine semH_of_semC (ref01_Int (g := 1) (by omega) (by omega)) (fun u hu => ?_)
  obtain ⟨es, rfl, h1⟩ := hu
  obtain ⟨_, _, _, _, _, rfl, _⟩ := id h1.four
  refine go2 ?_
  simp only [spanC, zeroC, ratC, zeroE, zeroS, List.set_cons_zero, List.set_cons_succ, List.nil_append, List.cons_append, List.append_nil, List.replicate_succ, List.replicate_zero, List.length_cons, List.length_nil, splice, List.take_succ_cons, List.take_zero, List.drop_succ_cons, List.drop_zero, List.take_nil, List.drop_nil, Nat.zero_add, Nat.reduceAdd, Nat.reduceMul, Int.reduceToNat, closeB, List.getElem?_cons_succ, List.getElem?_cons_zero]
  refine f_loop (fun m vs H => ∃ (i : Nat) (es : List C), vs = [i64 n, .c (.ptr 0 0), .c (.ptr 1 0), .c (.ptr 2 0), i64 i] ∧ H = [.live ⟨[a, .bool b, c, .bool d], T_isoclineref01_Q, .rw⟩, .live ⟨zeroRQ, T_isoclineref01_Q, .rw⟩, .live ⟨es, T_isoclineref01_Q, .rw⟩] ∧ m = n - i ∧ i ≤ n ∧ IsRQ es (pw p i).1 (pw p i).2) (by rfl) ⟨0, _, rfl, rfl, rfl, by omega, by rw [pw_zero]; exact h1⟩ ?_
  clear h1
  rintro m vs H ⟨i, es, rfl, rfl, rfl, h2, h3⟩
  obtain ⟨_, _, _, _, _, rfl, _⟩ := id h3.four
  refine go2 ?_
  cases hq : compare' Cm.lss (i : Int) (n : Int)
  · simp [compare'] at hq
    have ei : i = n := by omega
    subst ei
    refine go2 ?_
    exact RQK.fz h3
  · simp [compare'] at hq
    have b1 := pw_bd32 hg bp (i := i) (by omega)
    refine go2 ?_
    refine semH_of_semC (ref01_Q_Mul h3 hx b1 (bp.to (by decide)) (by decide)) (fun u hu => ?_)
    obtain ⟨gs, r, rfl, j1, red⟩ := hu
    obtain rfl := pw_step hg red
    obtain ⟨_, _, _, _, _, rfl, _⟩ := id j1.four
    refine go2 ?_
    rw [addI1 i (by omega)]
    refine l_n (by rfl) (by omega) ⟨i + 1, _, rfl, rfl, rfl, by omega, j1⟩
end Go.Proofs.YtjncgcnofiaiaaaGreat
