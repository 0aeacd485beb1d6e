/-
  ref01.parts with a divisor of two words or more; the whole contract; divisor.
-/
import Derived.Test.YtjncgcnofiaiaaaVhU
set_option linter.unusedVariables false
set_option linter.unusedSimpArgs false
namespace Go.Proofs.Ytjncgcnofiaiaaa
open Go.RowKit
set_option maxRecDepth 20000

theorem at0_take {l : List Nat} {i k : Nat} (h : i < k) : at0 (l.take k) i = at0 l i := by
  unfold at0
  rw [List.getD_eq_getElem?_getD, List.getD_eq_getElem?_getD, List.getElem?_take_of_lt h]
theorem map_take {l : List Nat} {k : Nat} : (l.map W).take k = (l.take k).map W := List.map_take.symm
theorem nn {n : Nat} (h : n ≤ 31) : IntKind.u64.wrap (n : Int) = (n : Int) := wrapN _ (by omega)
theorem shr_back {x n : Nat} (hn : n ≤ 31) : ((x : Nat) : Int).fdiv (2 ^ (min ((n : Nat) : Int).toNat IntKind.u32.bits)) = ((x / 2 ^ n : Nat) : Int) := by
  rw [Int.toNat_natCast, show min n IntKind.u32.bits = n from Nat.min_eq_left (by show n ≤ 32; omega), Int.fdiv_eq_ediv_of_nonneg _ (by exact_mod_cast Nat.zero_le (2 ^ n))]
  simp
theorem shl_back {y n m : Nat} (hn : n ≤ 31) (hy : y < 4294967296) (hm : y * 2 ^ (32 - n) % 4294967296 = m * 2 ^ (32 - n)) : IntKind.u32.wrap (IntKind.u64.wrap (((y : Nat) : Int) * 2 ^ (min (((32 - n : Nat) : Nat) : Int).toNat IntKind.u64.bits))) = ((m * 2 ^ (32 - n) : Nat) : Int) := by
  rw [Int.toNat_natCast, show min (32 - n) IntKind.u64.bits = 32 - n from Nat.min_eq_left (by show 32 - n ≤ 64; omega), show ((y : Nat) : Int) * 2 ^ (32 - n) = ((y * 2 ^ (32 - n) : Nat) : Int) by simp, ← hm, wrap_u32, wrap_u64]
  generalize y * 2 ^ (32 - n) = t
  omega
attribute [local irreducible] compare' semH semC qLen qNil qIad qSlc qIdx ldBox ldCells stBox appX awpF awpOpsF awpDF xopF xopDF qval lval seqQ blockQ loopQ bodyF retKF cnd arith IntKind.wrap

set_option maxHeartbeats 4000000 in
theorem ref01_parts_long {c d : C} {a b : List Nat} (hc : Wd c a) (hd : Wd d b) (na : Norm a) (nb : Norm b) (h2 : 2 ≤ b.length) (hl : a.length < 1073741824) (hv : ¬ val a < val b) : semC Try.prog n_ref01_parts [.c c, .c d] (PartsK (val a) (val b)) := by
  refine semC_of_awpF ok_ref01_parts rfl (show HFVs [.c c, .c d] from ⟨hc.hf, hd.hf, trivial⟩) ?_
  have hb0 : b ≠ [] := fun e => by rw [e] at h2; simp at h2
  have hab : b.length ≤ a.length := by
    rcases Nat.lt_or_ge a.length b.length with h | h
    · exact absurd (norm_lt na nb h) hv
    · exact h
  have hvb := val_pos nb hb0
  refine go ?_
  refine semH_of_semC (ref01_order hc hd na.1 nb.1 (by omega)) (fun u hu => ?_)
  obtain ⟨r, rfl, r1, r2, r3⟩ := hu
  have hr : 0 ≤ r := by
    rcases Nat.lt_trichotomy a.length b.length with h | h | h
    · omega
    · rw [r3 h]
      unfold sgn
      split
      · omega
      · split <;> omega
    · rw [r2 h]
      decide
  clear r1 r2 r3
  refine go ?_
  cases hq : compare' Cm.lss r 0
  case true =>
    simp [compare'] at hq
    omega
  simp [compare'] at hq
  refine go ?_
  cases hq1 : compare' Cm.eql (b.length : Int) 1
  case true =>
    simp [compare'] at hq1
    omega
  simp only [compare', dec_false] at hq1
  refine go ?_
  rw [subI1 b.length (by omega) (by omega)]
  refine go ?_
  rw [Int.toNat_natCast]
  have gtop := nb.2 hb0
  have gb := nb.1.get (b.length - 1)
  refine semH_of_semC (bits_LeadingZeros32 gb (by omega)) (fun u hu => ?_)
  obtain ⟨n, rfl, n1, n2, n3⟩ := hu
  refine go ?_
  rw [nn n1]
  refine ref01_shifted hc na.1 n1 (by omega) _ (fun xs x1 x2 x3 => ?_)
  refine go ?_
  refine ref01_shifted hd nb.1 n1 (by omega) _ (fun yo y1 y2 y3 => ?_)
  refine go ?_
  rw [← y1]
  refine ref01_trim_box (out := yo) (by rfl) (by omega) (fun k co' k1 k2 k3 => ?_)
  obtain ⟨s1, s2, s3⟩ := shifted_len nb hb0 n2 n3 y2 y3 k1 k2 k3
  have hst : val (xs.drop (a.length + 1 - k)) < val (yo.take k) := parts_start (k := k) na.1 n1 (by omega) (by omega) x1 x3 (by rw [s1] at s2 ⊢; exact s2)
  have hY : val (yo.take k) = val b * 2 ^ n := k2.trans y3
  have hY0 : 0 < val (yo.take k) := Nat.lt_of_le_of_lt (Nat.zero_le _) hst
  have lk : (yo.take k).length = k := by simp; omega
  have oyk := y2.take k
  have gt := oyk.get (k - 1)
  have gn := oyk.get (k - 2)
  have htop : 1 ≤ at0 (yo.take k) (k - 1) := by
    rw [at0_take (by omega)]
    have := k3 (by omega)
    omega
  have hyo : yo.take k ++ yo.drop k = yo := List.take_append_drop k yo
  generalize yo.drop k = yr at hyo
  generalize yo.take k = yl at s2 s3 hst hY hY0 lk oyk gt gn htop hyo
  subst hyo
  clear k2 k3 y2 y3 s2 y1 k1
  refine go ?_
  rw [subI (a.length + 1) k (by omega) (by omega)]
  refine x_mkSl (by rfl) (by rfl) ⟨by omega, by omega, by omega, by omega⟩ ?_
  rw [Int.toNat_natCast, zeros]
  refine go ?_
  rw [subI1 k (by omega) (by omega)]
  refine idx_sl (by rfl) (by rfl) (by omega) (by omega) ?_
  refine go ?_
  refine ld_head (i := k - 1) (by rfl) (by omega) (by omega) ?_
  refine go ?_
  rw [wrapN _ (by omega : at0 yl (k - 1) < 18446744073709551616), subI2 k (by omega) (by omega)]
  refine idx_sl (by rfl) (by rfl) (by omega) (by omega) ?_
  refine go ?_
  refine ld_head (i := k - 2) (by rfl) (by omega) (by omega) ?_
  refine go ?_
  rw [wrapN _ (by omega : at0 yl (k - 2) < 18446744073709551616), subI1 (a.length + 1 - k) (by omega) (by omega)]
  obtain ⟨m, hm⟩ : ∃ m, a.length + 1 - k = m + 1 := ⟨a.length - k, by omega⟩
  rw [hm] at hst ⊢
  refine f_loop (fun z vs H => ∃ (j : Nat) (xc out : List Nat), vs = [u64 n, .c (.sl 0 0 (a.length + 1) (some (a.length + 1)) 1), .c (.sl 1 0 k co' 1), .c (.sl 2 0 (m + 1) (some (m + 1)) 1), u64 (at0 yl (k - 1)), u64 (at0 yl (k - 2)), i64 ((j : Int) - 1)] ∧ H = [.live ⟨xc.map W, T_uint32, .rw⟩, .live ⟨(yl ++ yr).map W, T_uint32, .rw⟩, .live ⟨out.map W, T_uint32, .rw⟩] ∧ z = j ∧ j ≤ m + 1 ∧ xc.length = a.length + 1 ∧ OkW xc ∧ out.length = m + 1 ∧ OkW out ∧ val xc + 4294967296 ^ j * val (out.drop j) * val yl = val a * 2 ^ n ∧ val (xc.drop j) < val yl) (by rfl) ⟨m + 1, xs, _, ?_, rfl, rfl, Nat.le_refl _, x1, x2, by simp, fun x hx => by simp at hx; omega, ?_, hst⟩ ?_
  · rw [show ((m + 1 - 1 : Nat) : Int) = ((m + 1 : Nat) : Int) - 1 by omega]
    rfl
  · rw [List.drop_of_length_le (by simp), x3]
    simp [val]
  clear hst x3 x2 x1 xs
  rintro z vs H ⟨j, xc, out, rfl, rfl, rfl, j1, j2, j3, j4, j5, j6, j7⟩
  refine go ?_
  cases hq2 : compare' Cm.geq ((z : Int) - 1) 0
  case true =>
    simp [compare'] at hq2
    obtain ⟨i, rfl⟩ : ∃ i, z = i + 1 := ⟨z - 1, by omega⟩
    rw [show ((i + 1 : Nat) : Int) - 1 = (i : Int) by omega]
    obtain ⟨q1, q2⟩ := parts_round (i := i) (k := k) (out := out) j3 (by omega) hY0 s3 j6 j7 (by omega)
    have hpx := parts_eq xc i k
    have lseg : ((xc.drop i).take (k + 1)).length = k + 1 := by simp; omega
    have lpre : (xc.take i).length = i := by simp; omega
    have oseg := (j3.drop i).take (k + 1)
    refine go ?_
    rw [addI i k (by omega), addI1 (i + k) (by omega)]
    refine slc_sl (by rfl) (by rfl) (by rfl) (by omega) (by omega) (by omega) ?_
    refine go ?_
    rw [Int.toNat_natCast, Int.toNat_natCast, show i + k + 1 - i = k + 1 by omega]
    refine ref01_word (H := [.live ⟨xc.map W, T_uint32, .rw⟩, .live ⟨(yl ++ yr).map W, T_uint32, .rw⟩, .live ⟨out.map W, T_uint32, .rw⟩]) (pre := xc.take i) (xs := (xc.drop i).take (k + 1)) (post := xc.drop (i + k + 1)) (yl := yl) (by rw [hpx]; rfl) (by rfl) (by decide) (by omega) lk lseg (by omega) (by omega) oseg oyk htop q1 (fun seg g1 g2 g3 g4 => ?_)
    obtain ⟨q3, q4⟩ := q2 seg g1 g3
    refine go ?_
    refine idx_sl (by rfl) (by rfl) (by omega) (by omega) ?_
    refine go ?_
    refine st_word (k := i) (by rfl) (by rfl) (by omega) (by omega) ?_
    refine go ?_
    refine l_n (by rfl) (by omega) ⟨i, xc.take i ++ seg ++ xc.drop (i + k + 1), _, ?_, rfl, rfl, by omega, ?_, ?_, by simp [j4], j5.set g4, q3, q4⟩
    · rw [show arith .sub .i64 ((i : Nat) : Int) 1 = (i : Int) - 1 by rw [ar_sub, wrap_i64 (by omega) (by omega)]]
      rfl
    · simp
      omega
    · intro x hx
      rw [List.append_assoc] at hx
      rcases List.mem_append.1 hx with h | h
      · exact j3 x (List.mem_of_mem_take h)
      · rcases List.mem_append.1 h with h | h
        · exact g2 x h
        · exact j3 x (List.mem_of_mem_drop h)
  simp [compare'] at hq2
  have ej : z = 0 := by omega
  subst ej
  rw [List.drop_zero] at j6 j7
  rw [Nat.pow_zero, Nat.one_mul] at j6
  rw [hY] at j6 j7
  obtain ⟨d1, d2⟩ := parts_end hvb j6 j7
  refine go ?_
  rw [← j2]
  refine ref01_trim_box (out := xc) (by rfl) (by omega) (fun f co2 f1 f2 f3 => ?_)
  have lt : (xc.take f).length = f := by simp; omega
  have ot := j3.take f
  have ht0 : at0 (xc.take f) 0 % 2 ^ n = 0 := back_start (r := val a % val b) (by omega) (f2.trans d2)
  rw [d2] at f2
  have hag : ∀ w, w < f → at0 xc w = at0 (xc.take f) w := fun w hw => (at0_take hw).symm
  generalize xc.take f = t at lt ot ht0 f2 hag
  refine go ?_
  refine f_loop (fun z vs H => ∃ (i : Nat) (x2 : List Nat), vs = [u64 n, .c (.sl 2 0 (m + 1) (some (m + 1)) 1), .c (.sl 0 0 f co2 1), i64 i] ∧ H = [.live ⟨x2.map W, T_uint32, .rw⟩, .live ⟨(yl ++ yr).map W, T_uint32, .rw⟩, .live ⟨out.map W, T_uint32, .rw⟩] ∧ z = f - i ∧ i ≤ f ∧ x2.length = xc.length ∧ OkW x2 ∧ 2 ^ n * val (x2.take i) = val (t.take i) + 4294967296 ^ i * (at0 t i % 2 ^ n) ∧ ∀ w, i ≤ w → w < f → at0 x2 w = at0 t w) (by rfl) ⟨0, xc, rfl, rfl, rfl, by omega, rfl, j3, by rw [ht0]; simp [val], fun w _ hw => hag w hw⟩ ?_
  rintro z vs H ⟨i, x2, rfl, rfl, rfl, v1, v2, v3, v4, v5⟩
  refine go ?_
  cases hq3 : compare' Cm.lss (i : Int) (f : Int)
  case true =>
    simp [compare'] at hq3
    have gi := ot.get i
    have gj := ot.get (i + 1)
    have ai := v5 i (by omega) hq3
    obtain ⟨w, w1, w2, w3, w4, w5⟩ := back_word n1 gi gj
    obtain ⟨w6, w7⟩ := or_u32' (lo := at0 t i / 2 ^ n) (m := w) (s := 32 - n) (by omega) w2 w4
    refine go ?_
    refine idx_sl (by rfl) (by rfl) (by omega) (by omega) ?_
    refine go ?_
    refine ld_word (k := i) (by rfl) (by omega) (by omega) ?_
    refine go ?_
    rw [shr_back n1, ai]
    refine idx_sl (by rfl) (by rfl) (by omega) (by omega) ?_
    refine go ?_
    refine st_word (k := i) (by rfl) (by rfl) (by omega) (by omega) ?_
    refine go ?_
    rw [addI1 i (by omega)]
    cases hq4 : compare' Cm.lss ((i + 1 : Nat) : Int) (f : Int)
    case true =>
      simp only [compare', dec_true] at hq4
      refine go ?_
      refine idx_sl (by rfl) (by rfl) (by omega) (by omega) ?_
      refine go ?_
      refine ld_word (k := i) (by rfl) (by omega) (by simp; omega) ?_
      refine go ?_
      rw [addI1 i (by omega)]
      refine idx_sl (by rfl) (by rfl) (by omega) (by omega) ?_
      refine go ?_
      refine ld_word (k := i + 1) (by rfl) (by omega) (by simp; omega) ?_
      refine go ?_
      have e1 : at0 (x2.set i (at0 t i / 2 ^ n)) i = at0 t i / 2 ^ n := by simp [at0, show i < x2.length by omega]
      have e2 : at0 (x2.set i (at0 t i / 2 ^ n)) (i + 1) = at0 t (i + 1) := by rw [at0_set (by omega)]; exact v5 _ (by omega) (by omega)
      rw [e1, e2, wrapN _ (by omega : at0 t (i + 1) < 18446744073709551616), show arith .sub .u64 32 (n : Int) = ((32 - n : Nat) : Int) from subN 32 n (by omega) (by omega)]
      refine go ?_
      rw [shl_back n1 gj w1, w6]
      refine idx_sl (by rfl) (by rfl) (by omega) (by omega) ?_
      refine go ?_
      refine st_word (k := i) (by rfl) (by rfl) (by omega) (by simp; omega) ?_
      rw [List.set_set]
      refine go ?_
      refine l_n (by rfl) (by omega) ⟨i + 1, _, ?_, rfl, rfl, by omega, by simp [v2], by rw [List.set_set]; exact v3.set w7, ?_, fun z hz hz2 => ?_⟩
      · rw [addI1 i (by omega)]
        rfl
      · rw [List.set_set, val_take_set (by omega), val_take_succ, Nat.pow_succ]
        exact back_row v4 w5
      · rw [List.set_set, at0_set (by omega)]
        exact v5 z (by omega) hz2
    simp only [compare', dec_false] at hq4
    have hz0 : at0 t (i + 1) = 0 := at0_ge (by omega)
    refine go ?_
    refine l_n (by rfl) (by omega) ⟨i + 1, _, ?_, rfl, rfl, by omega, by simp [v2], v3.set (by omega), ?_, fun z hz hz2 => ?_⟩
    · rw [addI1 i (by omega)]
      rfl
    · rw [val_take_set (by omega), val_take_succ, Nat.pow_succ]
      exact back_row v4 (by rw [hz0, Nat.zero_mod, Nat.mul_zero, Nat.add_zero, Nat.div_add_mod])
    · rw [at0_set (by omega)]
      exact v5 z (by omega) hz2
  simp [compare'] at hq3
  have ei : i = f := by omega
  subst ei
  rw [val_all (l := t) (by omega), at0_ge (l := t) (by omega), Nat.zero_mod, Nat.mul_zero, Nat.add_zero, f2, Nat.mul_comm] at v4
  have hfin : val (x2.take i) = val a % val b := Nat.eq_of_mul_eq_mul_right (Nat.pow_pos (by decide)) v4
  refine go ?_
  refine semH_of_semC_close [2] (.cons (.c (fz_words out (by rfl) rfl (by simp) j4.symm (by rw [← j4]; exact List.take_of_length_le (by simp)))) .nil) (ref01_trim (.imm out) (by omega)) (fun u hu => ?_)
  obtain ⟨c1, l1, rfl, w1, p1, u1, t1⟩ := hu
  refine go ?_
  refine semH_of_semC_close [0] (.cons (.c (fz_words (x2.take i) (by rfl) rfl (by simp) (by simp; omega) map_take)) .nil) (ref01_trim (.imm (x2.take i)) (by simp; omega)) (fun u hu => ?_)
  obtain ⟨c2, l2, rfl, w2, p2, u2, t2⟩ := hu
  refine go ?_
  exact PartsK.fz w1 (norm_of j5 p1 t1) (u1.trans d1) w2 (norm_of (v3.take i) p2 t2) (u2.trans hfin)
end Go.Proofs.Ytjncgcnofiaiaaa
