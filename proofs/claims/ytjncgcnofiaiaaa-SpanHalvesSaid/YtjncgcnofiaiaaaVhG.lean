/-
  Products: bits.Mul64, num.Z.Mul, ref01.times.
-/
import Derived.Test.YtjncgcnofiaiaaaVhF
import Derived.Lib.Mul64
import Derived.Laws.Bits64b
set_option linter.unusedVariables false
set_option linter.unusedSimpArgs false
namespace Go.Proofs.Ytjncgcnofiaiaaa
open Go.RowKit
set_option maxRecDepth 20000

theorem and32 (a : Nat) (ha : a < 18446744073709551616) : arith .and .u64 (a : Int) 4294967295 = ((a % 4294967296 : Nat) : Int) := by
  have h := bits_and_u64_nat a 4294967295 ha (by omega)
  have e : a &&& 4294967295 = a % 4294967296 := Nat.and_two_pow_sub_one_eq_mod a 32
  rw [e] at h
  exact h
theorem nat_div32 (a : Nat) : (a : Int) / 4294967296 = ((a / 4294967296 : Nat) : Int) := by omega
theorem nat_mul (a b : Nat) : (a : Int) * (b : Int) = ((a * b : Nat) : Int) := (Int.natCast_mul a b).symm
theorem nat_add (a b : Nat) : (a : Int) + (b : Int) = ((a + b : Nat) : Int) := (Int.natCast_add a b).symm
theorem wrapN (a : Nat) (ha : a < 18446744073709551616) : IntKind.u64.wrap (a : Int) = (a : Int) := by rw [wrap_u64]; omega
theorem wrapM (a : Nat) : IntKind.u64.wrap (a : Int) = ((a % 18446744073709551616 : Nat) : Int) := by rw [wrap_u64]; omega
theorem mulN (a b : Nat) (h : a * b < 18446744073709551616) : arith .mul .u64 (a : Int) (b : Int) = ((a * b : Nat) : Int) := by rw [ar_mul, nat_mul, wrapN _ h]
theorem mulM (a b : Nat) : arith .mul .u64 (a : Int) (b : Int) = ((a * b % 18446744073709551616 : Nat) : Int) := by rw [ar_mul, nat_mul, wrapM]
theorem addN (a b : Nat) (h : a + b < 18446744073709551616) : arith .add .u64 (a : Int) (b : Int) = ((a + b : Nat) : Int) := by rw [ar_add, nat_add, wrapN _ h]
theorem shrN (a : Nat) : ((a : Nat) : Int).fdiv (2 ^ (min (32 : Int).toNat IntKind.u64.bits)) = ((a / 4294967296 : Nat) : Int) := by rw [fdiv32, nat_div32]

/-! ### A word of a list is put in another's place -/
theorem val_set : ∀ (l : List Nat) (k w : Nat), k < l.length → val (l.set k w) + 4294967296 ^ k * at0 l k = val l + 4294967296 ^ k * w
  | [], k, w, h => by simp at h
  | x :: r, 0, w, h => by
    simp [val, at0]
    omega
  | x :: r, k + 1, w, h => by
    have ih := val_set r k w (by simpa using h)
    have e : at0 (x :: r) (k + 1) = at0 r k := by simp [at0]
    rw [e]
    simp only [List.set_cons_succ, val]
    rw [Nat.pow_succ, Nat.mul_comm (4294967296 ^ k) 4294967296, Nat.mul_assoc, Nat.mul_assoc]
    omega
theorem at0_set {l : List Nat} {k m w : Nat} (h : k < m) : at0 (l.set k w) m = at0 l m := by
  simp [at0, List.getElem?_set_ne (by omega : k ≠ m)]
theorem OkW.set {l : List Nat} {k w : Nat} (h : OkW l) (hw : w < 4294967296) : OkW (l.set k w) := fun x hx => by
  rcases List.mem_or_eq_of_mem_set hx with h1 | h1
  · exact h x h1
  · omega
theorem splice_set {l : List Nat} {k w : Nat} (h : k < l.length) : splice (l.map W) k [W w] = (l.set k w).map W := by
  unfold splice
  rw [List.map_set, List.set_eq_take_append_cons_drop]
  simp [h]
theorem cell_at {l : List Nat} {k : Nat} (h : k < l.length) : (l.map W)[k]? = some (.int .u32 (at0 l k : Nat)) := by
  simp [at0, h, W]
theorem zeros (n : Nat) : (List.replicate n [C.int .u32 0]).flatten = (List.replicate n 0).map W := by
  induction n with
  | zero => rfl
  | succ n ih => simp [List.replicate_succ, ih, W]
theorem val_zeros (n : Nat) : val (List.replicate n 0) = 0 := by
  induction n with
  | zero => rfl
  | succ n ih => simp [List.replicate_succ, val, ih]
theorem at0_zeros (n k : Nat) : at0 (List.replicate n 0) k = 0 := by
  unfold at0
  rw [List.getD_eq_getElem?_getD, List.getElem?_replicate]
  split <;> rfl
theorem val_all {l : List Nat} {n : Nat} (h : l.length ≤ n) : val (l.take n) = val l := by rw [List.take_of_length_le h]
attribute [local irreducible] compare' semH semC qLen qNil qIad qSlc qIdx ldBox ldCells stBox appX awpF awpOpsF awpDF xopF xopDF qval lval seqQ blockQ loopQ bodyF retKF cnd arith IntKind.wrap

theorem bits_Mul64 {x y : Nat} (hx : x < 18446744073709551616) (hy : y < 18446744073709551616) : semC Try.prog n_bits_Mul64 [.c (.int .u64 (x : Int)), .c (.int .u64 (y : Int))] (fun u => u = .tup [.c (.int .u64 ((x * y / 18446744073709551616 : Nat) : Int)), .c (.int .u64 ((x * y % 18446744073709551616 : Nat) : Int))]) := by
  refine semC_of_awpF ok_bits_Mul64 rfl (show HFVs [.c (.int .u64 (x : Int)), .c (.int .u64 (y : Int))] from ⟨trivial, trivial, trivial⟩) ?_
  obtain ⟨bd, bt, bw, hhi⟩ := Lib.mul64_hi x y hx hy
  have ba := Lib.half_mul_le (a := x / 4294967296) (b := y / 4294967296) (by omega) (by omega)
  have bb := Lib.half_mul_le (a := x / 4294967296) (b := y % 4294967296) (by omega) (by omega)
  have bc := Lib.half_mul_le (a := x % 4294967296) (b := y / 4294967296) (by omega) (by omega)
  refine go ?_
  rw [and32 x hx, and32 y hy, shrN x, shrN y, mulN _ _ bd, shrN, mulN (x / 4294967296) (y % 4294967296) (by omega), addN _ _ bt, and32 _ bt, shrN, mulN (x % 4294967296) (y / 4294967296) (by omega), addN _ _ bw, shrN, mulN (x / 4294967296) (y / 4294967296) (by omega), addN _ _ (by omega), addN _ _ (by omega), hhi, mulM]
  exact ⟨_, .tup (.cons (.c (.hf trivial)) (.cons (.c (.hf trivial)) .nil)), rfl⟩

theorem ld_word {s : Option Slot} {size off k : Nat} {l : List Nat} {el : TypeId} {kd : BK} {K : V → Prop} (h : s = some (.live ⟨l.map W, el, kd⟩)) (ho : off = k) (hk : k < l.length) (kk : K (.c (.int .u32 (at0 l k : Nat)))) : ldBox s false size off K := by
  subst ho
  exact ld_box h (cell_at hk) kk
theorem st_word {s : Option Slot} {b off k w : Nat} {l : List Nat} {el : TypeId} {ds : Option (List C)} {K : Nat → Slot → Prop} (h : s = some (.live ⟨l.map W, el, .rw⟩)) (h2 : ds = some [.int .u32 (w : Nat)]) (ho : off = k) (hk : k < l.length) (kk : K b (.live ⟨(l.set k w).map W, el, .rw⟩)) : stBox s b 1 off ds K := by
  subst ho
  refine st_box h h2 rfl (by simp; omega) ?_
  have := splice_set (w := w) hk
  unfold W at this ⊢
  rw [this]
  exact kk
/-- One row's step, in numbers. -/
theorem row_step {out : List Nat} {k x y carry : Nat} (hk : k < out.length) (ho : OkW out) (hx : x < 4294967296) (hy : y < 4294967296) (hc : carry < 4294967296) :
    x * y + at0 out k + carry < 18446744073709551616 ∧ (x * y + at0 out k + carry) / 4294967296 < 4294967296 ∧
    val (out.set k ((x * y + at0 out k + carry) % 4294967296)) + 4294967296 ^ (k + 1) * ((x * y + at0 out k + carry) / 4294967296) = val out + 4294967296 ^ k * carry + 4294967296 ^ k * (x * y) := by
  have h1 : x * y ≤ 4294967295 * 4294967295 := Nat.mul_le_mul (by omega) (by omega)
  have h2 := ho.get k
  refine ⟨by omega, by omega, ?_⟩
  have h3 := val_set out k ((x * y + at0 out k + carry) % 4294967296) hk
  have h4 := Nat.div_add_mod (x * y + at0 out k + carry) 4294967296
  have h5 : 4294967296 ^ k * ((x * y + at0 out k + carry) % 4294967296) + 4294967296 ^ k * 4294967296 * ((x * y + at0 out k + carry) / 4294967296) = 4294967296 ^ k * (x * y + at0 out k + carry) := by
    rw [Nat.mul_assoc, ← Nat.mul_add, Nat.add_comm, h4]
  rw [Nat.mul_add, Nat.mul_add] at h5
  rw [Nat.pow_succ]
  omega

theorem ref01_times {c d : C} {a b : List Nat} (hc : Wd c a) (hd : Wd d b) (ha : OkW a) (hb : OkW b) (hl : a.length < 2147483648) (hl' : b.length < 2147483648) : semC Try.prog n_ref01_times [.c c, .c d] (fun u => ∃ c' l', u = .c c' ∧ Wd c' l' ∧ Norm l' ∧ val l' = val a * val b) := by
  refine semC_of_awpF ok_ref01_times rfl (show HFVs [.c c, .c d] from ⟨hc.hf, hd.hf, trivial⟩) ?_
  refine go ?_
  have e : arith .add .i64 (a.length : Int) b.length = ((a.length + b.length : Nat) : Int) := by
    rw [ar_add, wrap_i64 (by omega) (by omega)]
    omega
  rw [e]
  refine x_mkSl (by rfl) (by rfl) ⟨by omega, by omega, by omega, by omega⟩ ?_
  rw [Int.toNat_natCast, zeros]
  refine go ?_
  refine f_loop (fun n vs H => ∃ (i : Nat) (out : List Nat), vs = [.c c, .c d, .c (.sl 0 0 (a.length + b.length) (some (a.length + b.length)) 1), i64 (i : Int)] ∧ H = [.live ⟨out.map W, T_uint32, .rw⟩] ∧ n = a.length - i ∧ i ≤ a.length ∧ out.length = a.length + b.length ∧ OkW out ∧ val out = val (a.take i) * val b ∧ ∀ k, i + b.length ≤ k → at0 out k = 0) (by rfl) ⟨0, _, rfl, rfl, rfl, by omega, by simp, fun x hx => by simp at hx; omega, by simp [val, val_zeros], fun k _ => at0_zeros _ k⟩ ?_
  rintro n vs H ⟨i, out, rfl, rfl, rfl, k1, k2, k3, k4, k5⟩
  refine go ?_
  refine cnd_intro (fun h => ?_) (fun h => ?_)
  · simp [compare'] at h
    refine go ?_
    refine f_loop (fun n vs H => ∃ (j carry : Nat) (o2 : List Nat), vs = [.c c, .c d, .c (.sl 0 0 (a.length + b.length) (some (a.length + b.length)) 1), i64 (i : Int), .c (.int .u64 (carry : Int)), i64 (j : Int)] ∧ H = [.live ⟨o2.map W, T_uint32, .rw⟩] ∧ n = b.length - j ∧ j ≤ b.length ∧ o2.length = a.length + b.length ∧ OkW o2 ∧ carry < 4294967296 ∧ val o2 + 4294967296 ^ (i + j) * carry = val out + 4294967296 ^ i * (at0 a i * val (b.take j)) ∧ ∀ k, i + j ≤ k → at0 o2 k = at0 out k) (by rfl) ⟨0, 0, out, rfl, rfl, rfl, by omega, k2, k3, by omega, by simp [val], fun k _ => rfl⟩ ?_
    rintro n vs H ⟨j, carry, o2, rfl, rfl, rfl, j1, j2, j3, j4, j5, j6⟩
    refine go ?_
    refine cnd_intro (fun h' => ?_) (fun h' => ?_)
    · simp [compare'] at h'
      refine go ?_
      have e2 : arith .add .i64 ((i : Nat) : Int) ((j : Nat) : Int) = ((i + j : Nat) : Int) := by
        rw [ar_add, wrap_i64 (by omega) (by omega)]
        omega
      have ga := ha.get i
      have gb := hb.get j
      have gw := j3.get (i + j)
      obtain ⟨r1, r2, r3⟩ := row_step (k := i + j) (out := o2) (by omega) j3 ga gb j4
      have r0 : at0 a i * at0 b j < 18446744073709551616 := by omega
      rw [e2, Int.toNat_natCast, Int.toNat_natCast, wrapN _ (by omega : at0 a i < 18446744073709551616), wrapN _ (by omega : at0 b j < 18446744073709551616), mulN _ _ r0]
      refine idx_sl (by rfl) (by rfl) (by omega) (by omega) ?_
      refine go ?_
      refine ld_word (k := i + j) (by rfl) (by omega) (by omega) ?_
      refine go ?_
      rw [wrapN _ (by omega : at0 o2 (i + j) < 18446744073709551616), addN _ _ (by omega), show arith .add .u64 ((carry : Nat) : Int) ((at0 a i * at0 b j + at0 o2 (i + j) : Nat) : Int) = ((at0 a i * at0 b j + at0 o2 (i + j) + carry : Nat) : Int) by rw [addN _ _ (by omega)]; congr 1; omega]
      rw [e2]
      refine idx_sl (by rfl) (by rfl) (by omega) (by omega) ?_
      rw [show IntKind.u32.wrap ((at0 a i * at0 b j + at0 o2 (i + j) + carry : Nat) : Int) = (((at0 a i * at0 b j + at0 o2 (i + j) + carry) % 4294967296 : Nat) : Int) by rw [wrap_u32]; omega]
      refine go ?_
      refine st_word (k := i + j) (by rfl) (by rfl) (by omega) (by omega) ?_
      refine go ?_
      rw [shrN, show arith .add .i64 ((j : Nat) : Int) 1 = ((j + 1 : Nat) : Int) by rw [ar_add, wrap_i64 (by omega) (by omega)]; omega]
      refine l_n (by rfl) (by omega) ⟨j + 1, _, _, rfl, rfl, rfl, by omega, by simp [j2], j3.set (by omega), r2, ?_, fun k hk => ?_⟩
      · rw [val_take_succ, Nat.mul_add, Nat.mul_add, ← Nat.add_assoc, ← Nat.add_assoc, ← j5]
        have e4 : 4294967296 ^ i * (at0 a i * (4294967296 ^ j * at0 b j)) = 4294967296 ^ (i + j) * (at0 a i * at0 b j) := by
          rw [Nat.pow_add, Nat.mul_left_comm (at0 a i), Nat.mul_assoc]
        rw [e4]
        exact r3
      · rw [at0_set (by omega)]
        exact j6 k (by omega)
    · simp [compare'] at h'
      have ej : j = b.length := by omega
      subst ej
      refine go ?_
      have e2 : arith .add .i64 ((i : Nat) : Int) b.length = ((i + b.length : Nat) : Int) := by
        rw [ar_add, wrap_i64 (by omega) (by omega)]
        omega
      rw [e2]
      refine idx_sl (by rfl) (by rfl) (by omega) (by omega) ?_
      rw [show IntKind.u32.wrap ((carry : Nat) : Int) = ((carry : Nat) : Int) by rw [wrap_u32]; omega]
      refine go ?_
      refine st_word (k := i + b.length) (by rfl) (by rfl) (by omega) (by omega) ?_
      refine go ?_
      rw [show arith .add .i64 ((i : Nat) : Int) 1 = ((i + 1 : Nat) : Int) by rw [ar_add, wrap_i64 (by omega) (by omega)]; omega]
      refine l_n (by rfl) (by omega) ⟨i + 1, _, rfl, rfl, rfl, by omega, by simp [j2], j3.set j4, ?_, fun k hk => ?_⟩
      · have v1 := val_set o2 (i + b.length) carry (by omega)
        rw [j6 _ (by omega), k5 _ (by omega)] at v1
        rw [val_all (Nat.le_refl _)] at j5
        rw [val_take_succ, Nat.add_mul, ← k4, Nat.mul_assoc]
        omega
      · rw [at0_set (by omega), j6 _ (by omega)]
        exact k5 _ (by omega)
  · simp [compare'] at h
    have ei : i = a.length := by omega
    subst ei
    rw [val_all (Nat.le_refl _)] at k4
    refine go ?_
    refine semH_of_semC_close [0] (.cons (.c (fz_words out (by rfl) rfl (by simp) k2.symm (by rw [← k2]; exact List.take_of_length_le (by simp)))) .nil) (ref01_trim (.imm out) (by omega)) (fun u hu => ?_)
    obtain ⟨c', l', rfl, w1, p1, v1, t1⟩ := hu
    refine go ?_
    exact ⟨_, .c (.hf w1.hf), c', l', rfl, w1, ⟨fun x hx => k3 x (p1.subset hx), t1⟩, by rw [v1, k4]⟩
end Go.Proofs.Ytjncgcnofiaiaaa
